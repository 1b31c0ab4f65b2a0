/-
  The contract of a pager's Mark.
-/
import Derived.Test.YtcdoeninajpbmaaGreatDoorPagX
import Derived.Test.YtcdoeninajpbmaaGreatDoorPagG
import Derived.Test.YtcdoeninajpbmaaGreatDoorPagF
namespace Go.Proofs.YtcdoeninajpbmaaGreatDoor
open Go Go.RowKit Go.Maps Go.Sort Go.Shelf

/-- 'maps.Clone(m)'. -/
theorem clone_c {M n : Nat} {F : Int → Option ByteArray} {W : World} (h : MapAt W M n F) :
    Calls Tryz.prog 27 #[.map (some M)] W fun e w' => e = .returned (.map (some W.heap.size)) ∧ MapAt w' W.heap.size n F ∧ Gr W w' ∧ W.heap.size < w'.heap.size := by
  obtain ⟨D, h1, h2⟩ := h
  refine (AnyW.maps_Clone_owns Tryz.cloneM _ _ M n D W h1).mono ?_
  rintro e w' ⟨rfl, h3, _, hb⟩
  exact ⟨rfl, ⟨D, h3, h2⟩, hb, h3.lt⟩

/-- A struct is built: it yields the same in whatever world. -/
theorem yieldsIf_build {P : Program} {ops : Array Oper} {S : World → Prop} {op : Oper} {a : Act} (hw : Region.wanted op (yielded ops a.tmps) = true) (t : TypeId) (parts : Array (Nat × Operand)) (ho : op.op = .build t parts)
    (L : List (Nat × Value)) (hL : (parts.map fun (i, x) => (i, a.eval x)).toList = L) (cells : Array Value) (hc : P.built t L = some cells) : YieldsIf P ops S op (.agg cells) a := by
  subst hL
  exact .inl ⟨hw, fun w _ => by
    unfold execOp
    simp only [ho, Sem.run_bind, run_build w t _ cells hc, Result.andThen_ok, Sem.run_pure]⟩
/-- A head is loaded: it yields the same in every world that holds it. -/
theorem yieldsIf_load_head {ops : Array Oper} {S : World → Prop} {op : Oper} {a : Act} (hw : Region.wanted op (yielded ops a.tmps) = true) (x : Operand) (ho : op.op = .load 43 x) (b o : Nat) (h : Head)
    (hx : a.eval x = .pointer (some ⟨b, o, none⟩)) (A : Array Value) (hA : A = h.cells.toArray) (hS : ∀ w, S w → HeadAt w b o h) : YieldsIf Tryz.prog ops S op (.agg A) a := by
  subst hA
  exact yieldsIf_load_mid hw 43 x ho b o hx _ _ (fun w h => (hS w h).range) Tryz.underlying43 rfl (by rw [info_head, Head.cells_len])
theorem markCells_size (h : Head) (m : Option Nat) (times : Int) : (markCells h m times).toArray.size = 2018 := by rw [List.size_toArray, markCells_len]
set_option maxRecDepth 100000 in
set_option maxHeartbeats 1600000 in
theorem mark_pg (PB DB M n : Nat) (h sv : Head) (F : Int → Option ByteArray) (down : Bool) (times : Int) (w : World) (p : PagerAt w PB DB M n h sv F down times) :
    Calls Tryz.prog 7 #[.pointer (some ⟨PB, 0, none⟩)] w fun e w' => ∃ M2, e = .returned (.agg (markCells h (some M2) times).toArray) ∧ MapAt w' M2 n F ∧ w.heap.size ≤ M2 ∧ Gr w w' := by
  have P := Lib.hid p
  have hlt := p.lt
  clear p
  obtain ⟨A, hA⟩ : ∃ A : Array Value, A = h.cells.toArray := ⟨_, rfl⟩
  have HA := Lib.hid hA
  clear hA
  go_enter Tryz.func7, Tryz.ntmps7
  go_wp2_with fail
  have g0 : Gr w (w.alloc (.cells Tryz.zeroCells45 45)) := (Gr.refl w).alloc _
  have P1 := Lib.hid (P.out.gr g0)
  have hrow : (w.alloc (.cells Tryz.zeroCells45 45)).there w.heap.size 0 2018 := fun j hj => by
    constructor
    · rw [World.cell?_alloc_new, Array.getElem?_eq_getElem (by rw [zero_mark_size]; omega)]
      rfl
    · simp
  have hsz1 : w.heap.size < (w.alloc (.cells Tryz.zeroCells45 45)).heap.size := by simp
  generalize (w.alloc (.cells Tryz.zeroCells45 45)) = w1 at *
  have HR := Lib.hid hrow
  have hPB : ¬ (fun k => k = w.heap.size) PB := fun e => absurd e (by omega)
  have hMB : ¬ (fun k => k = w.heap.size) M := fun e => by
    have := P.out.dirty.lt
    have e2 : M = w.heap.size := e
    omega
  have HG0 := Lib.hid g0
  clear hrow g0
  refine wp_region_held_drew (S := fun w' => GrX (fun k => k = w.heap.size) w1 w') (by kernel_rfl) (GrX.drew _) (fun hHeld => ?_)
  refine wpAnyH_take (i := 0) (v := .pointer (some ⟨PB, 0, none⟩)) rfl (by kernel_rfl) (by kernel_rfl) (by kernel_rfl) (fun _ _ _ h => h) (Or.inl ⟨by rfl, fun w' hSw => ?_⟩) hHeld ?_
  · clear hSw
    go_simp
  simp only [Act.put, List.getElem_toArray, List.getElem_cons_succ, List.getElem_cons_zero, List.setIfInBounds_toArray, List.set_cons_zero, List.set_cons_succ]
  refine wpAnyH_take (i := 1) (v := .pointer (some ⟨PB, 0, none⟩)) rfl (by kernel_rfl) (by kernel_rfl) (by kernel_rfl) (fun _ _ _ h => h) (Or.inl ⟨by rfl, fun w' hSw => ?_⟩) hHeld ?_
  · clear hSw
    go_simp
  simp only [Act.put, List.getElem_toArray, List.getElem_cons_succ, List.getElem_cons_zero, List.setIfInBounds_toArray, List.set_cons_zero, List.set_cons_succ]
  refine wpAnyH_take (i := 2) (v := .pointer (some ⟨PB, 1, none⟩)) rfl (by kernel_rfl) (by kernel_rfl) (by kernel_rfl) (fun _ _ _ h => h) (Or.inl ⟨by rfl, fun w' hSw => ?_⟩) hHeld ?_
  · clear hSw
    go_simp
  simp only [Act.put, List.getElem_toArray, List.getElem_cons_succ, List.getElem_cons_zero, List.setIfInBounds_toArray, List.set_cons_zero, List.set_cons_succ]
  refine wpAnyH_take (i := 3) rfl (by kernel_rfl) (by kernel_rfl) (by kernel_rfl) (fun _ _ _ h => h) (yieldsIf_load_head (by rfl) _ rfl PB 1 h rfl A HA.out (fun w' g => (P1.out.keepX g hPB hMB).head)) hHeld ?_
  simp only [Act.put, List.getElem_toArray, List.getElem_cons_succ, List.getElem_cons_zero, List.setIfInBounds_toArray, List.set_cons_zero, List.set_cons_succ]
  refine wpAnyH_take (i := 4) (v := .pointer (some ⟨PB, 0, none⟩)) rfl (by kernel_rfl) (by kernel_rfl) (by kernel_rfl) (fun _ _ _ h => h) (Or.inl ⟨by rfl, fun w' hSw => ?_⟩) hHeld ?_
  · clear hSw
    go_simp
  simp only [Act.put, List.getElem_toArray, List.getElem_cons_succ, List.getElem_cons_zero, List.setIfInBounds_toArray, List.set_cons_zero, List.set_cons_succ]
  refine wpAnyH_take (i := 5) (v := .pointer (some ⟨PB, 0, none⟩)) rfl (by kernel_rfl) (by kernel_rfl) (by kernel_rfl) (fun _ _ _ h => h) (Or.inl ⟨by rfl, fun w' hSw => ?_⟩) hHeld ?_
  · clear hSw
    go_simp
  simp only [Act.put, List.getElem_toArray, List.getElem_cons_succ, List.getElem_cons_zero, List.setIfInBounds_toArray, List.set_cons_zero, List.set_cons_succ]
  refine wpAnyH_take (i := 6) (v := .pointer (some ⟨PB, 2017, none⟩)) rfl (by kernel_rfl) (by kernel_rfl) (by kernel_rfl) (fun _ _ _ h => h) (Or.inl ⟨by rfl, fun w' hSw => ?_⟩) hHeld ?_
  · clear hSw
    go_simp
  simp only [Act.put, List.getElem_toArray, List.getElem_cons_succ, List.getElem_cons_zero, List.setIfInBounds_toArray, List.set_cons_zero, List.set_cons_succ]
  refine wpAnyH_take (i := 7) (v := .map (some M)) rfl (by kernel_rfl) (by kernel_rfl) (by kernel_rfl) (fun _ _ _ h => h) (Or.inl ⟨by rfl, fun w' hSw => ?_⟩) hHeld ?_
  · have c0 := (P1.out.keepX hSw hPB hMB).map
    clear hSw
    go_simp
  simp only [Act.put, List.getElem_toArray, List.getElem_cons_succ, List.getElem_cons_zero, List.setIfInBounds_toArray, List.set_cons_zero, List.set_cons_succ]
  refine wpAnyH_take (i := 9) (v := .pointer (some ⟨PB, 0, none⟩)) rfl (by kernel_rfl) (by kernel_rfl) (by kernel_rfl) (fun _ _ _ h => h) (Or.inl ⟨by rfl, fun w' hSw => ?_⟩) hHeld ?_
  · clear hSw
    go_simp
  simp only [Act.put, List.getElem_toArray, List.getElem_cons_succ, List.getElem_cons_zero, List.setIfInBounds_toArray, List.set_cons_zero, List.set_cons_succ]
  refine wpAnyH_take (i := 10) (v := .pointer (some ⟨PB, 0, none⟩)) rfl (by kernel_rfl) (by kernel_rfl) (by kernel_rfl) (fun _ _ _ h => h) (Or.inl ⟨by rfl, fun w' hSw => ?_⟩) hHeld ?_
  · clear hSw
    go_simp
  simp only [Act.put, List.getElem_toArray, List.getElem_cons_succ, List.getElem_cons_zero, List.setIfInBounds_toArray, List.set_cons_zero, List.set_cons_succ]
  refine wpAnyH_take (i := 11) (v := .pointer (some ⟨PB, 4035, none⟩)) rfl (by kernel_rfl) (by kernel_rfl) (by kernel_rfl) (fun _ _ _ h => h) (Or.inl ⟨by rfl, fun w' hSw => ?_⟩) hHeld ?_
  · clear hSw
    go_simp
  simp only [Act.put, List.getElem_toArray, List.getElem_cons_succ, List.getElem_cons_zero, List.setIfInBounds_toArray, List.set_cons_zero, List.set_cons_succ]
  refine wpAnyH_take (i := 12) (v := .int .i64 times) rfl (by kernel_rfl) (by kernel_rfl) (by kernel_rfl) (fun _ _ _ h => h) (Or.inl ⟨by rfl, fun w' hSw => ?_⟩) hHeld ?_
  · have c0 := (P1.out.keepX hSw hPB hMB).times
    clear hSw
    go_simp
  simp only [Act.put, List.getElem_toArray, List.getElem_cons_succ, List.getElem_cons_zero, List.setIfInBounds_toArray, List.set_cons_zero, List.set_cons_succ]
  refine wpAnyH_ready (rs := [8]) (by kernel_rfl) (by simp) ?_
  refine AllReadyH.cons rfl (fun K hK => ?_) AllReadyH.nil
  go_simp
  refine (clone_c (P1.out.gr (Gr.refl w1).drew).dirty).mono ?_
  rintro e w2 ⟨rfl, hM2, hg2, hz2⟩
  have HM2 : Hid (MapAt w2 w1.heap.size n F) := Lib.hid hM2
  have HG2 := Lib.hid ((Gr.refl w1).drew.trans hg2)
  clear hM2 hg2 hz2
  go_wp2_with fail
  refine hK.out _ _ (GrX.of_gr HG2.out) (fun hHeld2 => ?_)
  clear hK K
  obtain ⟨C, hC⟩ : ∃ C : Array Value, C = (markCells h (some w1.heap.size) times).toArray := ⟨_, rfl⟩
  have HB : Tryz.prog.built 45 [(0, .agg A), (1, .map (some w1.heap.size)), (2, .int .i64 times)] = some C := by
    rw [HA.out, hC]
    exact built_mark h (some w1.heap.size) times
  have HC := Lib.hid hC
  clear hC
  refine wpAnyH_take (i := 13) rfl (by kernel_rfl) (by kernel_rfl) (by kernel_rfl) (fun _ _ _ h => h) (yieldsIf_build (by rfl) 45 #[(0, .tmp 6), (1, .tmp 11), (2, .tmp 15)] rfl [(0, .agg A), (1, .map (some w1.heap.size)), (2, .int .i64 times)] (by kernel_rfl) _ HB) hHeld2 ?_
  simp only [Act.put, List.getElem_toArray, List.getElem_cons_succ, List.getElem_cons_zero, List.setIfInBounds_toArray, List.set_cons_zero, List.set_cons_succ]
  clear HB
  refine wpAnyH_ready (rs := [14]) (by kernel_rfl) (by simp) ?_
  refine AllReadyH.cons rfl (fun K hK => ?_) AllReadyH.nil
  rw [if_pos (by rfl)]
  have hth : w2.there w.heap.size 0 C.size := by
    rw [HC.out, markCells_size]
    exact fun j hj => ⟨by rw [HG2.out.cell _ hsz1]; exact (HR.out j hj).1, by rw [HG2.out.frozen _ hsz1]; exact (HR.out j hj).2⟩
  refine wp_store_mid 45 _ _ rfl w.heap.size 0 C rfl rfl hth (by rw [info_mark, HC.out, markCells_size]) (by rw [HC.out]; exact all_oneCell_toArray (markCells_one _ _ _)) ?_
  have hg3 : Gr w (w2.setCells w.heap.size 0 C.toList) := (setCells_block w.heap.size C.toList 0 w2).gr (HG0.out.trans HG2.out) (fun k e => by rw [e]; exact Nat.le_refl _)
  have hg4 : GrX (fun k => k = w.heap.size) w2 (w2.setCells w.heap.size 0 C.toList) := setCells_block w.heap.size C.toList 0 w2
  have HM4 := Lib.hid (HM2.out.keepX hg4 (show ¬ w1.heap.size = w.heap.size by omega))
  have HC5 := Lib.hid (World.rangeAt_setCells_same w2 w.heap.size 0 C.toList (by rw [Array.length_toList]; exact hth))
  have HG3 := Lib.hid hg3
  refine hK.out _ _ ((GrX.of_gr HG2.out).trans hg4) (fun _ => ?_)
  clear hK K hth hg3 hg4
  generalize w2.setCells w.heap.size 0 C.toList = w5 at *
  refine wpAnyH_done (by kernel_rfl) ?_ _
  go_wp2_with fail
  have hld := run_loadVar_mid (P := Tryz.prog) w5 w.heap.size 0 45 C.toList _ HC5.out Tryz.underlying45 rfl (by rw [info_mark, Array.length_toList, HC.out, markCells_size])
  refine bodyPost_ret (results_cell rfl rfl hld) rfl ⟨w1.heap.size, ?_, HM4.out, by omega, HG3.out⟩
  rw [Array.toArray_toList, HC.out]
end Go.Proofs.YtcdoeninajpbmaaGreatDoor
