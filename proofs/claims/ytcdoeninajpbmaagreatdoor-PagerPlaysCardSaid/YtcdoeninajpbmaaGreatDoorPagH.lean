/-
  A pager's head in memory.
-/
import Derived.Test.YtcdoeninajpbmaaGreatDoorPagP
import Derived.Test.YtcdoeninajpbmaaGreatDoorGrX
import Derived.Deep.MidRow
import Derived.Deep.WholeRow
import Derived.Lib.QuietBelow
import Derived.BigQuiet
namespace Go.Proofs.YtcdoeninajpbmaaGreatDoor
open Go Go.RowKit

/-- A head in block B from offset o on. -/
structure HeadAt (w : World) (B o : Nat) (h : Head) : Prop where
  used : ∀ i, i < 2000 → w.cell? ⟨B, o + i, none⟩ = some (.bool (h.used i))
  root : ∀ i, i < 8 → w.cell? ⟨B, o + 2000 + i, none⟩ = some (.int .i64 (h.roots i))
  note : ∀ i, i < 8 → w.cell? ⟨B, o + 2008 + i, none⟩ = some (.int .i64 (h.notes i))
theorem HeadAt.same {w : World} {B o : Nat} {h g : Head} (a : HeadAt w B o h) (s : h.same g) : HeadAt w B o g :=
  ⟨fun i hi => by rw [a.used i hi, s.1 i hi], fun i hi => by rw [a.root i hi, (s.2 i hi).1], fun i hi => by rw [a.note i hi, (s.2 i hi).2]⟩
theorem HeadAt.gr {w w' : World} {B o : Nat} {h : Head} (a : HeadAt w B o h) (g : Gr w w') : HeadAt w' B o h :=
  ⟨fun i hi => g.keeps (a.used i hi), fun i hi => g.keeps (a.root i hi), fun i hi => g.keeps (a.note i hi)⟩
theorem HeadAt.keepX {S : Nat → Prop} {w w' : World} {B o : Nat} {h : Head} (a : HeadAt w B o h) (g : GrX S w w') (hs : ¬ S B) : HeadAt w' B o h :=
  ⟨fun i hi => g.keeps hs (a.used i hi), fun i hi => g.keeps hs (a.root i hi), fun i hi => g.keeps hs (a.note i hi)⟩
theorem HeadAt.range {w : World} {B o : Nat} {h : Head} (a : HeadAt w B o h) : w.rangeAt B o h.cells := fun j v hv => by
  have hj : j < 2016 := by
    have := (List.getElem?_eq_some_iff.1 hv).1
    rw [h.cells_len] at this
    exact this
  rcases Nat.lt_or_ge j 2000 with h1 | h1
  · rw [h.cells_used h1] at hv
    rw [a.used j h1, hv]
  · rcases Nat.lt_or_ge j 2008 with h2 | h2
    · obtain ⟨i, rfl⟩ : ∃ i, j = 2000 + i := ⟨j - 2000, by omega⟩
      rw [h.cells_root (show i < 8 by omega)] at hv
      rw [← Nat.add_assoc, a.root i (by omega), hv]
    · obtain ⟨i, rfl⟩ : ∃ i, j = 2008 + i := ⟨j - 2008, by omega⟩
      rw [h.cells_note (show i < 8 by omega)] at hv
      rw [← Nat.add_assoc, a.note i (by omega), hv]
theorem HeadAt.of_range {w : World} {B o : Nat} {h : Head} (r : w.rangeAt B o h.cells) : HeadAt w B o h :=
  ⟨fun i hi => r i _ (h.cells_used hi), fun i hi => by rw [Nat.add_assoc]; exact r (2000 + i) _ (h.cells_root hi), fun i hi => by rw [Nat.add_assoc]; exact r (2008 + i) _ (h.cells_note hi)⟩
/-- A head that has just been laid in a block of its own. -/
theorem HeadAt.box (w : World) (h : Head) (t : TypeId) : HeadAt (w.alloc (.cells h.cells.toArray t)) w.heap.size 0 h :=
  .of_range fun j v hv => by
    rw [World.cell?_alloc_new, Nat.zero_add]
    simpa using hv
theorem HeadAt.there {w : World} {B o : Nat} {h : Head} (a : HeadAt w B o h) (hf : ∀ j, w.frozen? ⟨B, j, none⟩ = false) : w.there B o 2016 := fun j hj =>
  ⟨a.range.isSome j (by rw [h.cells_len]; exact hj), hf _⟩
/-- Another cell of the block is written. -/
theorem HeadAt.far {w : World} {B o : Nat} {h : Head} (a : HeadAt w B o h) (p : Nat) (u : Value) (hp : p < o ∨ o + 2016 ≤ p) : HeadAt (w.setCell ⟨B, p, none⟩ u) B o h :=
  ⟨fun i hi => cell_off (by omega) (a.used i hi), fun i hi => cell_off (by omega) (a.root i hi), fun i hi => cell_off (by omega) (a.note i hi)⟩
theorem HeadAt.put {w : World} {B o : Nat} {h : Head} (a : HeadAt w B o h) {k : Nat} (hk : k < 2000) (b : Bool) : HeadAt (w.setCell ⟨B, o + k, none⟩ (.bool b)) B o (h.put k b) :=
  ⟨fun i hi => by
    show _ = some (Value.bool (if i = k then b else h.used i))
    by_cases e : i = k
    · subst e
      rw [if_pos rfl]
      exact World.cell?_setCell_same _ _ _ (a.used i hi)
    · rw [if_neg e]
      exact cell_off (by omega) (a.used i hi), fun i hi => cell_off (by omega) (a.root i hi), fun i hi => cell_off (by omega) (a.note i hi)⟩
/-- A root alone, a note alone. -/
def Head.putRoot (h : Head) (i : Nat) (p : Int) : Head := { h with roots := fun j => if j = i then p else h.roots j }
def Head.putNote (h : Head) (i : Nat) (n : Int) : Head := { h with notes := fun j => if j = i then n else h.notes j }
theorem Head.put_both (h : Head) (i : Nat) (p n : Int) : (h.putRoot i p).putNote i n = h.setRoot i p n := rfl
theorem Head.put_both' (h : Head) (i : Nat) (p n : Int) : (h.putNote i n).putRoot i p = h.setRoot i p n := rfl
theorem HeadAt.putRoot {w : World} {B o : Nat} {h : Head} (a : HeadAt w B o h) {k : Nat} (hk : k < 8) (p : Int) : HeadAt (w.setCell ⟨B, o + 2000 + k, none⟩ (.int .i64 p)) B o (h.putRoot k p) :=
  ⟨fun i hi => cell_off (by omega) (a.used i hi), fun i hi => by
    show _ = some (Value.int .i64 (if i = k then p else h.roots i))
    by_cases e : i = k
    · subst e
      rw [if_pos rfl]
      exact World.cell?_setCell_same _ _ _ (a.root i hi)
    · rw [if_neg e]
      exact cell_off (by omega) (a.root i hi), fun i hi => cell_off (by omega) (a.note i hi)⟩
theorem HeadAt.putNote {w : World} {B o : Nat} {h : Head} (a : HeadAt w B o h) {k : Nat} (hk : k < 8) (p : Int) : HeadAt (w.setCell ⟨B, o + 2008 + k, none⟩ (.int .i64 p)) B o (h.putNote k p) :=
  ⟨fun i hi => cell_off (by omega) (a.used i hi), fun i hi => cell_off (by omega) (a.root i hi), fun i hi => by
    show _ = some (Value.int .i64 (if i = k then p else h.notes i))
    by_cases e : i = k
    · subst e
      rw [if_pos rfl]
      exact World.cell?_setCell_same _ _ _ (a.note i hi)
    · rw [if_neg e]
      exact cell_off (by omega) (a.note i hi)⟩
/-- A head is written over another one. -/
theorem HeadAt.over {w : World} {B o : Nat} {h : Head} (a : HeadAt w B o h) (hf : ∀ j, w.frozen? ⟨B, j, none⟩ = false) (g : Head) : HeadAt (w.setCells B o g.cells) B o g :=
  .of_range (World.rangeAt_setCells_same w B o g.cells (by rw [g.cells_len]; exact a.there hf))
theorem HeadAt.overFar {w : World} {B o : Nat} {h : Head} (a : HeadAt w B o h) (o' : Nat) (g : Head) (hap : o + 2016 ≤ o' ∨ o' + 2016 ≤ o) : HeadAt (w.setCells B o' g.cells) B o h :=
  .of_range (World.rangeAt_setCells_apart a.range B o' g.cells (by rw [h.cells_len, g.cells_len]; omega))
theorem cell_setCells_far {w : World} {B p o : Nat} {v : Value} (hc : w.cell? ⟨B, p, none⟩ = some v) (g : Head) (hap : p < o ∨ o + 2016 ≤ p) : (w.setCells B o g.cells).cell? ⟨B, p, none⟩ = some v := by
  rw [World.cell?_setCells_out B g.cells o w ⟨B, p, none⟩ (fun _ _ => by rw [g.cells_len]; exact hap)]
  exact hc
theorem setCells_block (B : Nat) : ∀ (vs : List Value) (o : Nat) (w : World), GrX (fun k => k = B) w (w.setCells B o vs)
  | [], _, w => GrX.refl _ w
  | v :: vs, o, w => (GrX.setCell (S := fun k => k = B) (p := ⟨B, o, none⟩) w v rfl).trans (setCells_block B vs (o + 1) _)
/-- The head that has nothing. -/
def head0 : Head := ⟨fun _ => false, fun _ => 0, fun _ => 0⟩
theorem zeroHead : Tryz.zeroCells43 = Array.replicate 2000 (.bool false) ++ Array.replicate 16 (.int .i64 0) := by kernel_rfl
theorem head_new (w : World) : HeadAt (w.alloc (.cells Tryz.zeroCells43 43)) w.heap.size 0 head0 := by
  rw [zeroHead]
  refine ⟨fun i hi => ?_, fun i hi => ?_, fun i hi => ?_⟩
  · rw [World.cell?_alloc_new, Array.getElem?_append_left (by simpa using hi)]
    simp [hi, head0]
  · rw [World.cell?_alloc_new, Array.getElem?_append_right (by simp), Array.getElem?_eq_getElem (by simp; omega), Array.getElem_replicate]
    rfl
  · rw [World.cell?_alloc_new, Array.getElem?_append_right (by simp; omega), Array.getElem?_eq_getElem (by simp; omega), Array.getElem_replicate]
    rfl
/-- A head is loaded, as the walk spells it. -/
theorem HeadAt.loads {P : Program} {w : World} {B o : Nat} {h : Head} (a : HeadAt w B o h) : (loadCellsFrom ⟨B, o, none⟩ 0 2016 #[]).run P w = .ok h.cells.toArray w := by
  have := run_loadCells_list (P := P) w ⟨B, o, none⟩ h.cells (fun j v hv => by rw [Addr.add_mid]; exact a.range j v hv)
  rw [h.cells_len] at this
  exact this
/-- In a region that only reads: a struct is loaded. -/
theorem quiet_load_mid {P : Program} {C : World → Prop} {K : Act → Prop} {a : Act} {o : Oper} (ty : TypeId) (x : Operand) (ho : o.op = .load ty x) (b off : Nat) (hx : a.eval x = .pointer (some ⟨b, off, none⟩)) (cs : List Value) (d : TypeDesc) (hc : ∀ w, C w → w.rangeAt b off cs)
    (hu : P.underlying ty = some d) (hd : d.isRow = true) (hi : (P.info? ty).map (·.size) = some cs.length) (hk : K (a.put o.dst (.agg cs.toArray))) : o.quiet P a C K :=
  ⟨_, fun w hw => by
    unfold Oper.quietAt execOp
    simp only [ho, hx, Instr.loadAt, Instr.sureAddr, Sem.run_bind, Sem.run_pure, Result.andThen_ok, run_loadVar_mid w b off ty cs d (hc w hw) hu hd hi]
    exact ⟨rfl, rfl⟩, hk⟩
/-- One result that lies in memory. -/
theorem results_cell {P : Program} {fn : Func} {a : Nat} {t : TypeId} {tmps : Array Value} {w : World} {p : Addr} {v : Value} (hr : fn.results = #[ResultVar.cell a t]) (ht : tmps.getD a undef = .pointer (some p)) (hl : (loadVar t p).run P w = .ok v w) :
    (results fn tmps).run P w = .ok v w := by
  have ht' : tmps[a]?.getD undef = .pointer (some p) := by simpa using ht
  simp [results, hr, ht', asAddr, hl]
theorem Head.arr_len (h : Head) : h.cells.toArray.size = 2016 := by rw [List.size_toArray, Head.cells_len]
theorem info_head : (Tryz.prog.info? 43).map (·.size) = some 2016 := by kernel_rfl
end Go.Proofs.YtcdoeninajpbmaaGreatDoor
