/-
  The contract of a pager's Rollback.
-/
import Derived.Test.YtcdoeninajpbmaaGreatDoorPagU
import Derived.Deep.RegionHeld3
import Derived.Carry
namespace Go.Proofs.YtcdoeninajpbmaaGreatDoor
open Go Go.RowKit

/-- Another head is written into it. -/
theorem PagerAt.reHead {w : World} {PB DB M n : Nat} {h sv : Head} {F : Int → Option ByteArray} {down : Bool} {times : Int} (p : PagerAt w PB DB M n h sv F down times) (g : Head) : PagerAt (w.setCells PB 1 g.cells) PB DB M n g sv F down times := by
  have gx : GrX (fun k => k = PB) w (w.setCells PB 1 g.cells) := setCells_block PB g.cells 1 w
  have hM : ¬ (fun k => k = PB) M := fun e => p.ne e.symm
  exact ⟨cell_setCells_far p.disk g (by omega), p.head.over p.free g, cell_setCells_far p.map g (by omega), p.saved.overFar 1 g (by omega), cell_setCells_far p.down g (by omega), cell_setCells_far p.times g (by omega), fun o => by rw [World.frozen?_setCells]; exact p.free o, p.dirty.keepX gx hM, p.ne⟩
/-- Its head is written over the one that is saved. -/
theorem PagerAt.reSave {w : World} {PB DB M n : Nat} {h sv : Head} {F : Int → Option ByteArray} {down : Bool} {times : Int} (p : PagerAt w PB DB M n h sv F down times) (g : Head) : PagerAt (w.setCells PB 2018 g.cells) PB DB M n h g F down times := by
  have gx : GrX (fun k => k = PB) w (w.setCells PB 2018 g.cells) := setCells_block PB g.cells 2018 w
  have hM : ¬ (fun k => k = PB) M := fun e => p.ne e.symm
  exact ⟨cell_setCells_far p.disk g (by omega), p.head.overFar 2018 g (by omega), cell_setCells_far p.map g (by omega), p.saved.over p.free g, cell_setCells_far p.down g (by omega), cell_setCells_far p.times g (by omega), fun o => by rw [World.frozen?_setCells]; exact p.free o, p.dirty.keepX gx hM, p.ne⟩
/-- Another map is its. -/
theorem PagerAt.reMap {w : World} {PB DB M n : Nat} {h sv : Head} {F : Int → Option ByteArray} {down : Bool} {times : Int} (p : PagerAt w PB DB M n h sv F down times) {M' n' : Nat} {F' : Int → Option ByteArray} (hM : MapAt w M' n' F') (hne : PB ≠ M') : PagerAt (w.setCell ⟨PB, 2017, none⟩ (.map (some M'))) PB DB M' n' h sv F' down times :=
  ⟨cell_off (by omega) p.disk, p.head.far _ _ (by omega), World.cell?_setCell_same _ _ _ p.map, p.saved.far _ _ (by omega), cell_off (by omega) p.down, cell_off (by omega) p.times, fun o => by simpa using p.free o, hM.far hne _ _, hne⟩
/-- A head is loaded: its value under a name. -/
theorem wpList_load_head {ops : Array Oper} {rest : List Oper} {op : Oper} {a : Act} {w : World} {Q : Exit → Act → World → Prop} (hgd : op.guard = none) (x : Operand) (ho : op.op = .load 43 x) (b o : Nat) (h : Head)
    (hx : a.eval x = .pointer (some ⟨b, o, none⟩)) (ha : HeadAt w b o h) (hk : ∀ A : Array Value, Hid (A = h.cells.toArray) → wpList Tryz.prog ops Q rest (a.put op.dst (.agg A)) w) : wpList Tryz.prog ops Q (op :: rest) a w :=
  wpList_load_mid hgd 43 x ho b o hx _ _ ha.range Tryz.underlying43 rfl (by rw [info_head, Head.cells_len]) (hk _ (Lib.hid rfl))
/-- A head is stored: the world under a name. -/
theorem wpList_store_head {ops : Array Oper} {rest : List Oper} {op : Oper} {a : Act} {w : World} {Q : Exit → Act → World → Prop} (hgd : op.guard = none) (x y : Operand) (ho : op.op = .store 43 x y) (b o : Nat) (h h0 : Head) (A : Array Value)
    (hx : a.eval x = .pointer (some ⟨b, o, none⟩)) (hy : a.eval y = .agg A) (hv : A = h.cells.toArray) (ha : HeadAt w b o h0) (hf : ∀ j, w.frozen? ⟨b, j, none⟩ = false)
    (hk : ∀ w', Hid (w' = w.setCells b o h.cells) → wpList Tryz.prog ops Q rest (a.put op.dst undef) w') : wpList Tryz.prog ops Q (op :: rest) a w := by
  subst hv
  refine wpList_store_mid hgd 43 x y ho b o _ hx hy ?_ (by rw [info_head, Head.arr_len]) (all_oneCell_toArray (Head.cells_one _)) ?_
  · rw [Head.arr_len]
    exact ha.there hf
  · exact hk _ (Lib.hid rfl)
theorem reHead_of {w w' : World} {PB DB M n : Nat} {h sv : Head} {F : Int → Option ByteArray} {down : Bool} {times : Int} {g : Head} (hw : Hid (w' = w.setCells PB 1 g.cells)) (p : PagerAt w PB DB M n h sv F down times) : PagerAt w' PB DB M n g sv F down times ∧ GrX (fun k => k = PB) w w' := by
  rw [hw.out]
  exact ⟨p.reHead g, setCells_block PB g.cells 1 w⟩
theorem reSave_of {w w' : World} {PB DB M n : Nat} {h sv : Head} {F : Int → Option ByteArray} {down : Bool} {times : Int} {g : Head} (hw : Hid (w' = w.setCells PB 2018 g.cells)) (p : PagerAt w PB DB M n h sv F down times) : PagerAt w' PB DB M n h g F down times ∧ GrX (fun k => k = PB) w w' := by
  rw [hw.out]
  exact ⟨p.reSave g, setCells_block PB g.cells 2018 w⟩
set_option maxRecDepth 100000 in
set_option maxHeartbeats 400000 in
theorem rollback_pg (PB DB M n : Nat) (h sv : Head) (F : Int → Option ByteArray) (times : Int) (w : World) (p : PagerAt w PB DB M n h sv F false times) :
    Calls Tryz.prog 15 #[.pointer (some ⟨PB, 0, none⟩)] w fun e w' => e = .returned .nilIface ∧ (∃ M', PagerAt w' PB DB M' 0 sv sv (fun _ => none) false times ∧ w.heap.size ≤ M') ∧ GrX (fun b => b = PB) w w' := by
  have P := Lib.hid p
  have cd := p.down
  have hlt := p.lt
  clear p
  have hga : Gr w (w.alloc (.map #[] 0)) := (Gr.refl w).alloc _
  have P1 := Lib.hid (P.out.gr hga)
  have HM1 := Lib.hid (MapAt.made w)
  have HGA := Lib.hid hga
  clear hga
  have hmm := fun w => run_makeMap (P := Tryz.prog) 34 w
  go_enter Tryz.func15, Tryz.ntmps15
  go_wp2_with (first
    | (refine wpList_load_head rfl _ rfl PB 2018 _ rfl P.out.saved ?_; intro A hA)
    | (refine wpList_store_head rfl _ _ rfl PB 1 _ _ _ rfl rfl hA.out P1.out.head P1.out.free ?_; intro w2 hw2
       have HP2 := Lib.hid (reHead_of hw2 P1.out)
       have HM2 := Lib.hid (HM1.out.keepX HP2.out.2 (show ¬ w.heap.size = PB by omega))
       have c1 := HP2.out.1.map
       have z1 := HP2.out.1.free 2017))
  go_ret
  refine ⟨rfl, ⟨_, HP2.out.1.reMap HM2.out (by omega), Nat.le_refl _⟩, ((GrX.of_gr HGA.out).trans HP2.out.2).trans (GrX.setCell _ _ rfl)⟩
end Go.Proofs.YtcdoeninajpbmaaGreatDoor
