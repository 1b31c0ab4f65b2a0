/-
  The contract of a pager's Back.
-/
import Derived.Test.YtcdoeninajpbmaaGreatDoorPagV
import Derived.Deep.QuietTactic
import Derived.WalkSpells
namespace Go.Proofs.YtcdoeninajpbmaaGreatDoor
open Go Go.RowKit

theorem markCells_head (h : Head) (m : Option Nat) (times : Int) {k : Nat} (hk : k < 2016) : (markCells h m times).toArray[k]? = h.cells[k]? := by
  rw [List.getElem?_toArray, markCells, List.getElem?_append_left (by rw [Head.cells_len]; omega)]
theorem markCells_map (h : Head) (m : Option Nat) (times : Int) : (markCells h m times).toArray[2016]? = some (.map m) := by
  rw [List.getElem?_toArray, markCells, List.getElem?_append_right (by rw [Head.cells_len]; omega), Head.cells_len]
  rfl
theorem markCells_times (h : Head) (m : Option Nat) (times : Int) : (markCells h m times).toArray[2017]? = some (.int .i64 times) := by
  rw [List.getElem?_toArray, markCells, List.getElem?_append_right (by rw [Head.cells_len]; omega), Head.cells_len]
  rfl
/-- A noted state that has just been laid. -/
theorem mark_boxed (w : World) (h : Head) (m : Option Nat) (times : Int) (C : Array Value) (hC : C = (markCells h m times).toArray) (t : TypeId) :
    HeadAt (w.alloc (.cells C t)) w.heap.size 0 h ∧ (w.alloc (.cells C t)).cell? ⟨w.heap.size, 2016, none⟩ = some (.map m) ∧ (w.alloc (.cells C t)).cell? ⟨w.heap.size, 2017, none⟩ = some (.int .i64 times) := by
  subst hC
  refine ⟨HeadAt.of_range fun j v hv => ?_, ?_, ?_⟩
  · have hj : j < 2016 := by
      have := (List.getElem?_eq_some_iff.1 hv).1
      rw [h.cells_len] at this
      exact this
    rw [World.cell?_alloc_new, Nat.zero_add, markCells_head h m times hj]
    exact hv
  · rw [World.cell?_alloc_new]
    exact markCells_map h m times
  · rw [World.cell?_alloc_new]
    exact markCells_times h m times
set_option maxRecDepth 100000 in
set_option maxHeartbeats 1600000 in
theorem back_none_pg (PB DB M n : Nat) (h sv : Head) (F : Int → Option ByteArray) (times : Int) (w : World) (p : PagerAt w PB DB M n h sv F false times) (h2 : Head) (times2 : Int) :
    Calls Tryz.prog 16 #[.pointer (some ⟨PB, 0, none⟩), .agg (markCells h2 none times2).toArray] w (Ret w (.iface 33 (.int .i64 1))) := by
  obtain ⟨C, hC⟩ : ∃ C : Array Value, C = (markCells h2 none times2).toArray := ⟨_, rfl⟩
  rw [← hC]
  have hg1 := (Gr.refl w).alloc (.cells C 45)
  obtain ⟨HB, c16, c17⟩ := mark_boxed w h2 none times2 C hC 45
  have hsz : C.size = 2018 := by rw [hC, markCells_size]
  have P := Lib.hid p
  have P1 := Lib.hid (p.gr hg1)
  have cd := P1.out.down
  have ct := P1.out.times
  have HG1 := Lib.hid hg1
  have HB1 := Lib.hid HB
  clear hC HB p hg1
  have qT : ∀ (w : World) (r : Option Nat), (binOp .eql 34 (.map r) (.map none)).run Tryz.prog w = .ok (.bool r.isNone) w := fun w r => run_eql_map_nil w _ _ _ r Tryz.underlying34
  go_enter Tryz.func16, Tryz.ntmps16
  go_wp2_with fail
  clear hsz
  generalize w.alloc (.cells C 45) = w1 at *
  go_quiet (fail)
  go_wp2_with fail
  go_ret
  refine Ret.mk rfl (HG1.out.trans ?_)
  repeat (with_reducible first | refine Gr.drew ?_ | refine Gr.drewN ?_ _ | refine Gr.alloc ?_ _)
  exact Gr.refl _
set_option maxRecDepth 100000 in
set_option maxHeartbeats 1600000 in
theorem back_old_pg (PB DB M n : Nat) (h sv : Head) (F : Int → Option ByteArray) (times : Int) (w : World) (p : PagerAt w PB DB M n h sv F false times) (h2 : Head) (times2 : Int) (M2 : Nat) (hne : times2 ≠ times) :
    Calls Tryz.prog 16 #[.pointer (some ⟨PB, 0, none⟩), .agg (markCells h2 (some M2) times2).toArray] w (Ret w (.iface 33 (.int .i64 1))) := by
  obtain ⟨C, hC⟩ : ∃ C : Array Value, C = (markCells h2 (some M2) times2).toArray := ⟨_, rfl⟩
  rw [← hC]
  have hg1 := (Gr.refl w).alloc (.cells C 45)
  obtain ⟨HB, c16, c17⟩ := mark_boxed w h2 (some M2) times2 C hC 45
  have hsz : C.size = 2018 := by rw [hC, markCells_size]
  have P := Lib.hid p
  have P1 := Lib.hid (p.gr hg1)
  have cd := P1.out.down
  have ct := P1.out.times
  have HG1 := Lib.hid hg1
  have HB1 := Lib.hid HB
  clear hC HB p hg1
  have hneq : (times2 != times) = true := by simpa using hne
  clear hne
  have qT : ∀ (w : World) (r : Option Nat), (binOp .eql 34 (.map r) (.map none)).run Tryz.prog w = .ok (.bool r.isNone) w := fun w r => run_eql_map_nil w _ _ _ r Tryz.underlying34
  go_enter Tryz.func16, Tryz.ntmps16
  go_wp2_with fail
  clear hsz
  generalize w.alloc (.cells C 45) = w1 at *
  go_quiet (fail)
  go_wp2_with fail
  go_ret
  refine Ret.mk rfl (HG1.out.trans ?_)
  repeat (with_reducible first | refine Gr.drew ?_ | refine Gr.drewN ?_ _ | refine Gr.alloc ?_ _)
  exact Gr.refl _
set_option maxRecDepth 100000 in
set_option maxHeartbeats 1600000 in
theorem back_pg (PB DB M n : Nat) (h sv : Head) (F : Int → Option ByteArray) (times : Int) (w : World) (p : PagerAt w PB DB M n h sv F false times) (h2 : Head) (times2 : Int) (M2 n2 : Nat) (F2 : Int → Option ByteArray) (hm : MapAt w M2 n2 F2) (ht : times2 = times) :
    Calls Tryz.prog 16 #[.pointer (some ⟨PB, 0, none⟩), .agg (markCells h2 (some M2) times2).toArray] w fun e w' => e = .returned .nilIface ∧ (∃ M', PagerAt w' PB DB M' n2 h2 sv F2 false times ∧ w.heap.size ≤ M') ∧ GrX (fun b => b = PB) w w' := by
  obtain ⟨C, hC⟩ : ∃ C : Array Value, C = (markCells h2 (some M2) times2).toArray := ⟨_, rfl⟩
  rw [← hC]
  have hg1 := (Gr.refl w).alloc (.cells C 45)
  obtain ⟨HB, c16, c17⟩ := mark_boxed w h2 (some M2) times2 C hC 45
  have hsz : C.size = 2018 := by rw [hC, markCells_size]
  have P := Lib.hid p
  have P1 := Lib.hid (p.gr hg1)
  have cd := P1.out.down
  have ct := P1.out.times
  have HG1 := Lib.hid hg1
  have HB1 := Lib.hid HB
  clear hC HB p hg1
  subst ht
  have HM := Lib.hid hm
  have hlt := P.out.lt
  have hneq : (times2 != times2) = false := by simp
  clear hm
  have qT : ∀ (w : World) (r : Option Nat), (binOp .eql 34 (.map r) (.map none)).run Tryz.prog w = .ok (.bool r.isNone) w := fun w r => run_eql_map_nil w _ _ _ r Tryz.underlying34
  go_enter Tryz.func16, Tryz.ntmps16
  go_wp2_with fail
  clear hsz
  generalize w.alloc (.cells C 45) = w1 at *
  go_quiet (fail)
  go_wp2_with fail
  have hgq : Gr w1 (w1.drewN nq) := (Gr.refl w1).drewN nq
  have P2 := Lib.hid (P1.out.gr hgq)
  have HB2 := Lib.hid (HB1.out.gr hgq)
  have k16 := hgq.keeps c16
  have HG2 := Lib.hid (HG1.out.trans hgq)
  have HM2 := Lib.hid (HM.out.gr HG2.out)
  have hsz2 := lt_of_cell k16
  clear hgq c16 c17 cd ct HG1 HB1 P1 qT
  generalize w1.drewN nq = w2 at *
  obtain ⟨A, hA⟩ : ∃ A : Array Value, A = h2.cells.toArray := ⟨_, rfl⟩
  have HA := Lib.hid hA
  clear hA
  have hne1 : ¬ (fun k => k = PB) w.heap.size := fun e => absurd e (by omega)
  refine wp_region_held_drew (S := fun w' => GrX (fun k => k = PB) w2 w') (by kernel_rfl) (GrX.drew _) (fun hHeld => ?_)
  refine wpAnyH_take (i := 0) (v := .pointer (some ⟨PB, 0, none⟩)) rfl (by kernel_rfl) (by kernel_rfl) (by kernel_rfl) (fun _ _ _ h => h) (Or.inl ⟨by rfl, fun w' hSw => ?_⟩) hHeld ?_
  · clear hSw
    go_simp
  simp only [Act.put, List.getElem_toArray, List.getElem_cons_succ, List.getElem_cons_zero, List.setIfInBounds_toArray, List.set_cons_zero, List.set_cons_succ]
  refine wpAnyH_take (i := 1) (v := .pointer (some ⟨PB, 0, none⟩)) rfl (by kernel_rfl) (by kernel_rfl) (by kernel_rfl) (fun _ _ _ h => h) (Or.inl ⟨by rfl, fun w' hSw => ?_⟩) hHeld ?_
  · clear hSw
    go_simp
  simp only [Act.put, List.getElem_toArray, List.getElem_cons_succ, List.getElem_cons_zero, List.setIfInBounds_toArray, List.set_cons_zero, List.set_cons_succ]
  refine wpAnyH_take (i := 2) (v := .pointer (some ⟨w.heap.size, 0, none⟩)) rfl (by kernel_rfl) (by kernel_rfl) (by kernel_rfl) (fun _ _ _ h => h) (Or.inl ⟨by rfl, fun w' hSw => ?_⟩) hHeld ?_
  · clear hSw
    go_simp
  simp only [Act.put, List.getElem_toArray, List.getElem_cons_succ, List.getElem_cons_zero, List.setIfInBounds_toArray, List.set_cons_zero, List.set_cons_succ]
  refine wpAnyH_take (i := 3) rfl (by kernel_rfl) (by kernel_rfl) (by kernel_rfl) (fun _ _ _ h => h) (yieldsIf_load_head (by rfl) _ rfl w.heap.size 0 h2 rfl A HA.out (fun w' g => HB2.out.keepX g hne1)) hHeld ?_
  simp only [Act.put, List.getElem_toArray, List.getElem_cons_succ, List.getElem_cons_zero, List.setIfInBounds_toArray, List.set_cons_zero, List.set_cons_succ]
  refine wpAnyH_take (i := 4) (v := .pointer (some ⟨w.heap.size, 2016, none⟩)) rfl (by kernel_rfl) (by kernel_rfl) (by kernel_rfl) (fun _ _ _ h => h) (Or.inl ⟨by rfl, fun w' hSw => ?_⟩) hHeld ?_
  · clear hSw
    go_simp
  simp only [Act.put, List.getElem_toArray, List.getElem_cons_succ, List.getElem_cons_zero, List.setIfInBounds_toArray, List.set_cons_zero, List.set_cons_succ]
  refine wpAnyH_take (i := 5) (v := .map (some M2)) rfl (by kernel_rfl) (by kernel_rfl) (by kernel_rfl) (fun _ _ _ h => h) (Or.inl ⟨by rfl, fun w' hSw => ?_⟩) hHeld ?_
  · have c0 := hSw.keeps hne1 k16
    clear hSw
    go_simp
  simp only [Act.put, List.getElem_toArray, List.getElem_cons_succ, List.getElem_cons_zero, List.setIfInBounds_toArray, List.set_cons_zero, List.set_cons_succ]
  refine wpAnyH_ready (rs := [6]) (by kernel_rfl) (by simp) ?_
  refine AllReadyH.cons rfl (fun K hK => ?_) AllReadyH.nil
  go_simp
  refine (clone_c (HM2.out.gr (Gr.refl w2).drew)).mono ?_
  rintro e w3 ⟨rfl, hM3, hg3, hz3⟩
  have HM3 : Hid (MapAt w3 w2.heap.size n2 F2) := Lib.hid hM3
  have HG3 := Lib.hid ((Gr.refl w2).drew.trans hg3)
  clear hM3 hg3 hz3
  go_wp2_with fail
  refine hK.out _ _ (GrX.of_gr HG3.out) (fun hHeld2 => ?_)
  clear hK K
  have P3 := Lib.hid (P2.out.gr HG3.out)
  refine wpAnyH_take (i := 7) (v := .pointer (some ⟨PB, 0, none⟩)) rfl (by kernel_rfl) (by kernel_rfl) (by kernel_rfl) (fun _ _ _ h => h) (Or.inl ⟨by rfl, fun w' hSw => ?_⟩) hHeld2 ?_
  · clear hSw
    go_simp
  simp only [Act.put, List.getElem_toArray, List.getElem_cons_succ, List.getElem_cons_zero, List.setIfInBounds_toArray, List.set_cons_zero, List.set_cons_succ]
  refine wpAnyH_take (i := 8) (v := .pointer (some ⟨PB, 1, none⟩)) rfl (by kernel_rfl) (by kernel_rfl) (by kernel_rfl) (fun _ _ _ h => h) (Or.inl ⟨by rfl, fun w' hSw => ?_⟩) hHeld2 ?_
  · clear hSw
    go_simp
  simp only [Act.put, List.getElem_toArray, List.getElem_cons_succ, List.getElem_cons_zero, List.setIfInBounds_toArray, List.set_cons_zero, List.set_cons_succ]
  refine wpAnyH_ready (rs := [9]) (by kernel_rfl) (by simp) ?_
  refine AllReadyH.cons rfl (fun K hK => ?_) AllReadyH.nil
  rw [if_pos (by rfl)]
  have hth : w3.there PB 1 A.size := by
    rw [HA.out, Head.arr_len]
    exact P3.out.head.there P3.out.free
  refine wp_store_mid 43 _ _ rfl PB 1 A rfl rfl hth (by rw [info_head, HA.out, Head.arr_len]) (by rw [HA.out]; exact all_oneCell_toArray (Head.cells_one _)) ?_
  obtain ⟨w4, hw4⟩ : ∃ w4, w4 = w3.setCells PB 1 h2.cells := ⟨_, rfl⟩
  have hwe : w3.setCells PB 1 A.toList = w4 := by rw [hw4, HA.out]
  rw [hwe]
  have HP4 := Lib.hid (reHead_of (Lib.hid hw4) P3.out)
  clear hw4 hwe hth
  have HM4 := Lib.hid (HM3.out.keepX HP4.out.2 (show ¬ w2.heap.size = PB by omega))
  refine hK.out _ _ ((GrX.of_gr HG3.out).trans HP4.out.2) (fun hHeld3 => ?_)
  clear hK K
  have c1 := HP4.out.1.map
  have z1 := HP4.out.1.free 2017
  try simp only [Act.put, List.getElem_toArray, List.getElem_cons_succ, List.getElem_cons_zero, List.setIfInBounds_toArray, List.set_cons_zero, List.set_cons_succ]
  refine wpAnyH_take (i := 10) (v := .pointer (some ⟨PB, 0, none⟩)) rfl (by kernel_rfl) (by kernel_rfl) (by kernel_rfl) (fun _ _ _ h => h) (Or.inl ⟨by rfl, fun w' hSw => ?_⟩) hHeld3 ?_
  · clear hSw
    go_simp
  simp only [Act.put, List.getElem_toArray, List.getElem_cons_succ, List.getElem_cons_zero, List.setIfInBounds_toArray, List.set_cons_zero, List.set_cons_succ]
  refine wpAnyH_take (i := 11) (v := .pointer (some ⟨PB, 2017, none⟩)) rfl (by kernel_rfl) (by kernel_rfl) (by kernel_rfl) (fun _ _ _ h => h) (Or.inl ⟨by rfl, fun w' hSw => ?_⟩) hHeld3 ?_
  · clear hSw
    go_simp
  simp only [Act.put, List.getElem_toArray, List.getElem_cons_succ, List.getElem_cons_zero, List.setIfInBounds_toArray, List.set_cons_zero, List.set_cons_succ]
  refine wpAnyH_ready (rs := [12]) (by kernel_rfl) (by simp) ?_
  refine AllReadyH.cons rfl (fun K hK => ?_) AllReadyH.nil
  go_simp
  have HP5 := Lib.hid (HP4.out.1.reMap HM4.out (by omega))
  have hg5 : GrX (fun k => k = PB) w4 (w4.setCell ⟨PB, 2017, none⟩ (.map (some w2.heap.size))) := GrX.setCell _ _ rfl
  refine hK.out _ _ (hHeld3.trans hg5) (fun _ => ?_)
  clear hK K
  have HG5 := Lib.hid ((((GrX.of_gr HG2.out).trans (GrX.of_gr HG3.out)).trans HP4.out.2).trans hg5)
  have hle := HG2.out.size
  clear hg5 c1 z1
  generalize w4.setCell ⟨PB, 2017, none⟩ (.map (some w2.heap.size)) = w5 at *
  refine wpAnyH_done (by kernel_rfl) ?_ _
  go_wp2_with fail
  go_ret
  exact ⟨rfl, ⟨_, HP5.out, hle⟩, HG5.out⟩
end Go.Proofs.YtcdoeninajpbmaaGreatDoor
