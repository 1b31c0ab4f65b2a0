/-
  Structs of many cells, built of their parts.
-/
import Derived.Test.YtmjkalpjciddbaaMg3
import Derived.Laws.Tables
import Derived.Test.YtmjkalpjciddbaaMg8
import Derived.Test.YtmjkalpjciddbaaMg9
import Derived.Deep.QuietTactic
import Derived.WalkSpells
import Derived.Test.YtmjkalpjciddbaaMg10
namespace Go.Proofs.Ytmjkalpjciddbaa
open Go Go.RowKit

theorem fold_set_size (off : Nat) : ∀ (vs : List Value) (s : Nat) (cs : Array Value), ((vs.zipIdx s).foldl (fun cs (x : Value × Nat) => cs.setIfInBounds (off + x.2) x.1) cs).size = cs.size
  | [], _, _ => rfl
  | v :: vs, s, cs => by
    rw [List.zipIdx_cons, List.foldl_cons, fold_set_size off vs (s + 1)]
    simp
theorem fold_set_get (off : Nat) : ∀ (vs : List Value) (s : Nat) (cs : Array Value) (k : Nat), off + s + vs.length ≤ cs.size →
    ((vs.zipIdx s).foldl (fun cs (x : Value × Nat) => cs.setIfInBounds (off + x.2) x.1) cs)[k]? = if off + s ≤ k ∧ k < off + s + vs.length then vs[k - (off + s)]? else cs[k]?
  | [], s, cs, k, _ => by
    rw [if_neg (by simp only [List.length_nil]; omega)]
    rfl
  | v :: vs, s, cs, k, h => by
    rw [List.length_cons] at h
    rw [List.zipIdx_cons, List.foldl_cons, fold_set_get off vs (s + 1) _ k (by simp; omega), List.length_cons]
    by_cases h1 : off + s = k
    · subst h1
      rw [if_neg (by omega), if_pos (by omega), Nat.sub_self, List.getElem?_cons_zero, Array.getElem?_setIfInBounds_self_of_lt (by omega)]
    · by_cases h2 : off + (s + 1) ≤ k ∧ k < off + (s + 1) + vs.length
      · rw [if_pos h2, if_pos (by omega), show k - (off + s) = (k - (off + (s + 1))) + 1 by omega, List.getElem?_cons_succ]
      · rw [if_neg h2, if_neg (by omega), Array.getElem?_setIfInBounds_ne h1]
theorem fill_one (place : Nat → Option (Nat × Nat)) (cells : Array Value) (i : Nat) (v : Value) (rest : List (Nat × Value)) (off size : Nat) (hp : place i = some (off, size)) (hs : v.cells.size = size) (hb : off + size ≤ cells.size) :
    Instr.fill place cells ((i, v) :: rest) = Instr.fill place ((v.cells.toList.zipIdx 0).foldl (fun cs (x : Value × Nat) => cs.setIfInBounds (off + x.2) x.1) cells) rest := by
  rw [Instr.fill, hp]
  simp only
  rw [if_neg (by simp; omega)]
  congr 1
  rw [← Array.foldl_toList, Array.toList_zipIdx]
end Go.Proofs.Ytmjkalpjciddbaa

/-
  A noted state's cells.
-/
namespace Go.Proofs.Ytmjkalpjciddbaa
open Go Go.RowKit

/-- A noted state's cells. -/
def markCells (h : Head) (m : Option Nat) (times : Int) : List Value := h.cells ++ [.map m, .int .i64 times]
theorem markCells_len (h : Head) (m : Option Nat) (times : Int) : (markCells h m times).length = 2018 := by
  rw [markCells, List.length_append, Head.cells_len]
  rfl
theorem markCells_one (h : Head) (m : Option Nat) (times : Int) : ∀ v ∈ markCells h m times, v.oneCell' = true := by
  intro v hv
  rcases List.mem_append.1 hv with hv | hv
  · exact Head.cells_one h v hv
  · simp only [List.mem_cons, List.not_mem_nil, or_false] at hv
    rcases hv with rfl | rfl <;> rfl
set_option maxRecDepth 100000 in
theorem fill_mark_places (L : List (Nat × Value)) : Try.prog.built 48 L = Instr.fill (fun i => (#[(0, 2016), (2016, 1), (2017, 1)] : Array (Nat × Nat))[i]?) Try.zeroCells48 L := by kernel_rfl
set_option maxRecDepth 100000 in
theorem zero_mark_size : Try.zeroCells48.size = 2018 := by kernel_rfl
set_option maxRecDepth 100000 in
theorem info_mark : (Try.prog.info? 48).map (·.size) = some 2018 := by kernel_rfl
set_option maxRecDepth 100000 in
theorem built_mark (h : Head) (m : Option Nat) (times : Int) : Try.prog.built 48 [(0, .agg h.cells.toArray), (1, .map m), (2, .int .i64 times)] = some (markCells h m times).toArray := by
  have hz := zero_mark_size
  rw [fill_mark_places]
  generalize Try.zeroCells48 = Z at *
  have hl : (Value.agg h.cells.toArray).cells.size = 2016 := h.arr_len
  have hl2 : (Value.map m).cells.size = 1 := rfl
  have hl3 : (Value.int .i64 times).cells.size = 1 := rfl
  rw [fill_one _ _ 0 _ _ 0 2016 rfl hl (by omega), fill_one _ _ 1 _ _ 2016 1 rfl hl2 (by rw [fold_set_size]; omega), fill_one _ _ 2 _ _ 2017 1 rfl hl3 (by rw [fold_set_size, fold_set_size]; omega), Instr.fill]
  refine congrArg some ?_
  have h1 : (Value.agg h.cells.toArray).cells.toList = h.cells := rfl
  have h2 : (Value.map m).cells.toList = [.map m] := rfl
  have h3 : (Value.int .i64 times).cells.toList = [.int .i64 times] := rfl
  rw [h1, h2, h3]
  have hcl := h.cells_len
  apply Array.ext_getElem?
  intro k
  rw [fold_set_get 2017 _ 0 _ k (by rw [fold_set_size, fold_set_size, hz]; simp), fold_set_get 2016 _ 0 _ k (by rw [fold_set_size, hz]; simp), fold_set_get 0 _ 0 _ k (by rw [hcl]; omega), hcl]
  have hR : (markCells h m times).toArray[k]? = (h.cells ++ [Value.map m, Value.int .i64 times])[k]? := List.getElem?_toArray
  rw [hR]
  by_cases e1 : k < 2016
  · rw [if_neg (by omega), if_neg (by omega), if_pos (by omega), List.getElem?_append_left (by omega)]
    rfl
  · rw [List.getElem?_append_right (by omega), hcl]
    by_cases e2 : k = 2016
    · subst e2
      rw [if_neg (by omega), if_pos (by simp)]
      rfl
    · by_cases e3 : k = 2017
      · subst e3
        rw [if_pos (by simp)]
        rfl
      · rw [if_neg (by simp; omega), if_neg (by simp; omega), if_neg (by omega), Array.getElem?_eq_none (by omega), List.getElem?_eq_none (by simp; omega)]
end Go.Proofs.Ytmjkalpjciddbaa

/-
  The contract of a pager's Mark.
-/
namespace Go.Proofs.Ytmjkalpjciddbaa
open Go Go.RowKit Go.Maps Go.Sort Go.Shelf

/-- 'maps.Clone(m)'. -/
theorem clone_c {M n : Nat} {F : Int → Option ByteArray} {W : World} (h : MapAt W M n F) :
    Calls Try.prog 28 #[.map (some M)] W fun e w' => e = .returned (.map (some W.heap.size)) ∧ MapAt w' W.heap.size n F ∧ Gr W w' ∧ W.heap.size < w'.heap.size := by
  obtain ⟨D, h1, h2⟩ := h
  refine (AnyW.maps_Clone_owns Try.cloneM _ _ M n D W h1).mono ?_
  rintro e w' ⟨rfl, h3, _, hb⟩
  exact ⟨rfl, ⟨D, h3, h2⟩, hb, h3.lt⟩

/-- A struct is built: it yields the same in whatever world. -/
theorem yieldsIf_build {P : Program} {ops : Array Oper} {S : World → Prop} {op : Oper} {a : Act} (hw : Region.wanted op (yielded ops a.tmps) = true) (t : TypeId) (parts : Array (Nat × Operand)) (ho : op.op = .build t parts)
    (L : List (Nat × Value)) (hL : (parts.map fun (i, x) => (i, a.eval x)).toList = L) (cells : Array Value) (hc : P.built t L = some cells) : YieldsIf P ops S op (.agg cells) a := by
  subst hL
  exact .inl ⟨hw, fun w _ => by
    unfold execOp
    simp only [ho, Sem.run_bind, run_build w t _ cells hc, Result.andThen_ok, Sem.run_pure]⟩
/-- A head is loaded: it yields the same in every world that holds it. -/
theorem yieldsIf_load_head {ops : Array Oper} {S : World → Prop} {op : Oper} {a : Act} (hw : Region.wanted op (yielded ops a.tmps) = true) (x : Operand) (ho : op.op = .load 45 x) (b o : Nat) (h : Head)
    (hx : a.eval x = .pointer (some ⟨b, o, none⟩)) (A : Array Value) (hA : A = h.cells.toArray) (hS : ∀ w, S w → HeadAt w b o h) : YieldsIf Try.prog ops S op (.agg A) a := by
  subst hA
  exact yieldsIf_load_mid hw 45 x ho b o hx _ _ (fun w h => (hS w h).range) Try.underlying45 rfl (by rw [info_head, Head.cells_len])
theorem markCells_size (h : Head) (m : Option Nat) (times : Int) : (markCells h m times).toArray.size = 2018 := by rw [List.size_toArray, markCells_len]
set_option maxRecDepth 100000 in
set_option maxHeartbeats 1600000 in
theorem mark_pg (PB DB M n : Nat) (h sv : Head) (F : Int → Option ByteArray) (down : Bool) (times : Int) (w : World) (p : PagerAt w PB DB M n h sv F down times) :
    Calls Try.prog 11 #[.pointer (some ⟨PB, 0, none⟩)] w fun e w' => ∃ M2, e = .returned (.agg (markCells h (some M2) times).toArray) ∧ MapAt w' M2 n F ∧ w.heap.size ≤ M2 ∧ Gr w w' := by
  have P := Lib.hid p
  have hlt := p.lt
  clear p
  obtain ⟨A, hA⟩ : ∃ A : Array Value, A = h.cells.toArray := ⟨_, rfl⟩
  have HA := Lib.hid hA
  clear hA
  go_enter Try.func11, Try.ntmps11
  go_wp2_with fail
  have g0 : Gr w (w.alloc (.cells Try.zeroCells48 48)) := (Gr.refl w).alloc _
  have P1 := Lib.hid (P.out.gr g0)
  have hrow : (w.alloc (.cells Try.zeroCells48 48)).there w.heap.size 0 2018 := fun j hj => by
    constructor
    · rw [World.cell?_alloc_new, Array.getElem?_eq_getElem (by rw [zero_mark_size]; omega)]
      rfl
    · simp
  have hsz1 : w.heap.size < (w.alloc (.cells Try.zeroCells48 48)).heap.size := by simp
  generalize (w.alloc (.cells Try.zeroCells48 48)) = w1 at *
  have HR := Lib.hid hrow
  have hPB : ¬ (fun k => k = w.heap.size) PB := fun e => absurd e (by omega)
  have hMB : ¬ (fun k => k = w.heap.size) M := fun e => by
    have := P.out.dirty.lt
    have e2 : M = w.heap.size := e
    omega
  have HG0 := Lib.hid g0
  clear hrow g0
  refine wp_region_held_drew (S := fun w' => GrX (fun k => k = w.heap.size) w1 w') (by kernel_rfl) (GrX.drew _) (fun hHeld => ?_)
  refine wpAnyH_take (i := 0) (v := .pointer (some ⟨PB, 0, none⟩)) rfl (by kernel_rfl) (by kernel_rfl) (by kernel_rfl) (fun _ _ _ h => h) (Or.inl ⟨by rfl, fun w' hSw => ?_⟩) hHeld ?_
  · clear hSw
    go_simp
  simp only [Act.put, List.getElem_toArray, List.getElem_cons_succ, List.getElem_cons_zero, List.setIfInBounds_toArray, List.set_cons_zero, List.set_cons_succ]
  refine wpAnyH_take (i := 1) (v := .pointer (some ⟨PB, 0, none⟩)) rfl (by kernel_rfl) (by kernel_rfl) (by kernel_rfl) (fun _ _ _ h => h) (Or.inl ⟨by rfl, fun w' hSw => ?_⟩) hHeld ?_
  · clear hSw
    go_simp
  simp only [Act.put, List.getElem_toArray, List.getElem_cons_succ, List.getElem_cons_zero, List.setIfInBounds_toArray, List.set_cons_zero, List.set_cons_succ]
  refine wpAnyH_take (i := 2) (v := .pointer (some ⟨PB, 1, none⟩)) rfl (by kernel_rfl) (by kernel_rfl) (by kernel_rfl) (fun _ _ _ h => h) (Or.inl ⟨by rfl, fun w' hSw => ?_⟩) hHeld ?_
  · clear hSw
    go_simp
  simp only [Act.put, List.getElem_toArray, List.getElem_cons_succ, List.getElem_cons_zero, List.setIfInBounds_toArray, List.set_cons_zero, List.set_cons_succ]
  refine wpAnyH_take (i := 3) rfl (by kernel_rfl) (by kernel_rfl) (by kernel_rfl) (fun _ _ _ h => h) (yieldsIf_load_head (by rfl) _ rfl PB 1 h rfl A HA.out (fun w' g => (P1.out.keepX g hPB hMB).head)) hHeld ?_
  simp only [Act.put, List.getElem_toArray, List.getElem_cons_succ, List.getElem_cons_zero, List.setIfInBounds_toArray, List.set_cons_zero, List.set_cons_succ]
  refine wpAnyH_take (i := 4) (v := .pointer (some ⟨PB, 0, none⟩)) rfl (by kernel_rfl) (by kernel_rfl) (by kernel_rfl) (fun _ _ _ h => h) (Or.inl ⟨by rfl, fun w' hSw => ?_⟩) hHeld ?_
  · clear hSw
    go_simp
  simp only [Act.put, List.getElem_toArray, List.getElem_cons_succ, List.getElem_cons_zero, List.setIfInBounds_toArray, List.set_cons_zero, List.set_cons_succ]
  refine wpAnyH_take (i := 5) (v := .pointer (some ⟨PB, 0, none⟩)) rfl (by kernel_rfl) (by kernel_rfl) (by kernel_rfl) (fun _ _ _ h => h) (Or.inl ⟨by rfl, fun w' hSw => ?_⟩) hHeld ?_
  · clear hSw
    go_simp
  simp only [Act.put, List.getElem_toArray, List.getElem_cons_succ, List.getElem_cons_zero, List.setIfInBounds_toArray, List.set_cons_zero, List.set_cons_succ]
  refine wpAnyH_take (i := 6) (v := .pointer (some ⟨PB, 2017, none⟩)) rfl (by kernel_rfl) (by kernel_rfl) (by kernel_rfl) (fun _ _ _ h => h) (Or.inl ⟨by rfl, fun w' hSw => ?_⟩) hHeld ?_
  · clear hSw
    go_simp
  simp only [Act.put, List.getElem_toArray, List.getElem_cons_succ, List.getElem_cons_zero, List.setIfInBounds_toArray, List.set_cons_zero, List.set_cons_succ]
  refine wpAnyH_take (i := 7) (v := .map (some M)) rfl (by kernel_rfl) (by kernel_rfl) (by kernel_rfl) (fun _ _ _ h => h) (Or.inl ⟨by rfl, fun w' hSw => ?_⟩) hHeld ?_
  · have c0 := (P1.out.keepX hSw hPB hMB).map
    clear hSw
    go_simp
  simp only [Act.put, List.getElem_toArray, List.getElem_cons_succ, List.getElem_cons_zero, List.setIfInBounds_toArray, List.set_cons_zero, List.set_cons_succ]
  refine wpAnyH_take (i := 9) (v := .pointer (some ⟨PB, 0, none⟩)) rfl (by kernel_rfl) (by kernel_rfl) (by kernel_rfl) (fun _ _ _ h => h) (Or.inl ⟨by rfl, fun w' hSw => ?_⟩) hHeld ?_
  · clear hSw
    go_simp
  simp only [Act.put, List.getElem_toArray, List.getElem_cons_succ, List.getElem_cons_zero, List.setIfInBounds_toArray, List.set_cons_zero, List.set_cons_succ]
  refine wpAnyH_take (i := 10) (v := .pointer (some ⟨PB, 0, none⟩)) rfl (by kernel_rfl) (by kernel_rfl) (by kernel_rfl) (fun _ _ _ h => h) (Or.inl ⟨by rfl, fun w' hSw => ?_⟩) hHeld ?_
  · clear hSw
    go_simp
  simp only [Act.put, List.getElem_toArray, List.getElem_cons_succ, List.getElem_cons_zero, List.setIfInBounds_toArray, List.set_cons_zero, List.set_cons_succ]
  refine wpAnyH_take (i := 11) (v := .pointer (some ⟨PB, 4035, none⟩)) rfl (by kernel_rfl) (by kernel_rfl) (by kernel_rfl) (fun _ _ _ h => h) (Or.inl ⟨by rfl, fun w' hSw => ?_⟩) hHeld ?_
  · clear hSw
    go_simp
  simp only [Act.put, List.getElem_toArray, List.getElem_cons_succ, List.getElem_cons_zero, List.setIfInBounds_toArray, List.set_cons_zero, List.set_cons_succ]
  refine wpAnyH_take (i := 12) (v := .int .i64 times) rfl (by kernel_rfl) (by kernel_rfl) (by kernel_rfl) (fun _ _ _ h => h) (Or.inl ⟨by rfl, fun w' hSw => ?_⟩) hHeld ?_
  · have c0 := (P1.out.keepX hSw hPB hMB).times
    clear hSw
    go_simp
  simp only [Act.put, List.getElem_toArray, List.getElem_cons_succ, List.getElem_cons_zero, List.setIfInBounds_toArray, List.set_cons_zero, List.set_cons_succ]
  refine wpAnyH_ready (rs := [8]) (by kernel_rfl) (by simp) ?_
  refine AllReadyH.cons rfl (fun K hK => ?_) AllReadyH.nil
  go_simp
  refine (clone_c (P1.out.gr (Gr.refl w1).drew).dirty).mono ?_
  rintro e w2 ⟨rfl, hM2, hg2, hz2⟩
  have HM2 : Hid (MapAt w2 w1.heap.size n F) := Lib.hid hM2
  have HG2 := Lib.hid ((Gr.refl w1).drew.trans hg2)
  clear hM2 hg2 hz2
  go_wp2_with fail
  refine hK.out _ _ (GrX.of_gr HG2.out) (fun hHeld2 => ?_)
  clear hK K
  obtain ⟨C, hC⟩ : ∃ C : Array Value, C = (markCells h (some w1.heap.size) times).toArray := ⟨_, rfl⟩
  have HB : Try.prog.built 48 [(0, .agg A), (1, .map (some w1.heap.size)), (2, .int .i64 times)] = some C := by
    rw [HA.out, hC]
    exact built_mark h (some w1.heap.size) times
  have HC := Lib.hid hC
  clear hC
  refine wpAnyH_take (i := 13) rfl (by kernel_rfl) (by kernel_rfl) (by kernel_rfl) (fun _ _ _ h => h) (yieldsIf_build (by rfl) 48 #[(0, .tmp 6), (1, .tmp 11), (2, .tmp 15)] rfl [(0, .agg A), (1, .map (some w1.heap.size)), (2, .int .i64 times)] (by kernel_rfl) _ HB) hHeld2 ?_
  simp only [Act.put, List.getElem_toArray, List.getElem_cons_succ, List.getElem_cons_zero, List.setIfInBounds_toArray, List.set_cons_zero, List.set_cons_succ]
  clear HB
  refine wpAnyH_ready (rs := [14]) (by kernel_rfl) (by simp) ?_
  refine AllReadyH.cons rfl (fun K hK => ?_) AllReadyH.nil
  rw [if_pos (by rfl)]
  have hth : w2.there w.heap.size 0 C.size := by
    rw [HC.out, markCells_size]
    exact fun j hj => ⟨by rw [HG2.out.cell _ hsz1]; exact (HR.out j hj).1, by rw [HG2.out.frozen _ hsz1]; exact (HR.out j hj).2⟩
  refine wp_store_mid 48 _ _ rfl w.heap.size 0 C rfl rfl hth (by rw [info_mark, HC.out, markCells_size]) (by rw [HC.out]; exact all_oneCell_toArray (markCells_one _ _ _)) ?_
  have hg3 : Gr w (w2.setCells w.heap.size 0 C.toList) := (setCells_block w.heap.size C.toList 0 w2).gr (HG0.out.trans HG2.out) (fun k e => by rw [e]; exact Nat.le_refl _)
  have hg4 : GrX (fun k => k = w.heap.size) w2 (w2.setCells w.heap.size 0 C.toList) := setCells_block w.heap.size C.toList 0 w2
  have HM4 := Lib.hid (HM2.out.keepX hg4 (show ¬ w1.heap.size = w.heap.size by omega))
  have HC5 := Lib.hid (World.rangeAt_setCells_same w2 w.heap.size 0 C.toList (by rw [Array.length_toList]; exact hth))
  have HG3 := Lib.hid hg3
  refine hK.out _ _ ((GrX.of_gr HG2.out).trans hg4) (fun _ => ?_)
  clear hK K hth hg3 hg4
  generalize w2.setCells w.heap.size 0 C.toList = w5 at *
  refine wpAnyH_done (by kernel_rfl) ?_ _
  go_wp2_with fail
  have hld := run_loadVar_mid (P := Try.prog) w5 w.heap.size 0 48 C.toList _ HC5.out Try.underlying48 rfl (by rw [info_mark, Array.length_toList, HC.out, markCells_size])
  refine bodyPost_ret (results_cell rfl rfl hld) rfl ⟨w1.heap.size, ?_, HM4.out, by omega, HG3.out⟩
  rw [Array.toArray_toList, HC.out]
end Go.Proofs.Ytmjkalpjciddbaa

/-
  The contract of a pager's Back.
-/
namespace Go.Proofs.Ytmjkalpjciddbaa
open Go Go.RowKit

theorem markCells_head (h : Head) (m : Option Nat) (times : Int) {k : Nat} (hk : k < 2016) : (markCells h m times).toArray[k]? = h.cells[k]? := by
  rw [List.getElem?_toArray, markCells, List.getElem?_append_left (by rw [Head.cells_len]; omega)]
theorem markCells_map (h : Head) (m : Option Nat) (times : Int) : (markCells h m times).toArray[2016]? = some (.map m) := by
  rw [List.getElem?_toArray, markCells, List.getElem?_append_right (by rw [Head.cells_len]; omega), Head.cells_len]
  rfl
theorem markCells_times (h : Head) (m : Option Nat) (times : Int) : (markCells h m times).toArray[2017]? = some (.int .i64 times) := by
  rw [List.getElem?_toArray, markCells, List.getElem?_append_right (by rw [Head.cells_len]; omega), Head.cells_len]
  rfl
/-- A noted state that has just been laid. -/
theorem mark_boxed (w : World) (h : Head) (m : Option Nat) (times : Int) (C : Array Value) (hC : C = (markCells h m times).toArray) (t : TypeId) :
    HeadAt (w.alloc (.cells C t)) w.heap.size 0 h ∧ (w.alloc (.cells C t)).cell? ⟨w.heap.size, 2016, none⟩ = some (.map m) ∧ (w.alloc (.cells C t)).cell? ⟨w.heap.size, 2017, none⟩ = some (.int .i64 times) := by
  subst hC
  refine ⟨HeadAt.of_range fun j v hv => ?_, ?_, ?_⟩
  · have hj : j < 2016 := by
      have := (List.getElem?_eq_some_iff.1 hv).1
      rw [h.cells_len] at this
      exact this
    rw [World.cell?_alloc_new, Nat.zero_add, markCells_head h m times hj]
    exact hv
  · rw [World.cell?_alloc_new]
    exact markCells_map h m times
  · rw [World.cell?_alloc_new]
    exact markCells_times h m times
set_option maxRecDepth 100000 in
set_option maxHeartbeats 1600000 in
theorem back_none_pg (PB DB M n : Nat) (h sv : Head) (F : Int → Option ByteArray) (times : Int) (w : World) (p : PagerAt w PB DB M n h sv F false times) (h2 : Head) (times2 : Int) :
    Calls Try.prog 13 #[.pointer (some ⟨PB, 0, none⟩), .agg (markCells h2 none times2).toArray] w (Ret w (.iface 56 (.int .i64 1))) := by
  obtain ⟨C, hC⟩ : ∃ C : Array Value, C = (markCells h2 none times2).toArray := ⟨_, rfl⟩
  rw [← hC]
  have hg1 := (Gr.refl w).alloc (.cells C 48)
  obtain ⟨HB, c16, c17⟩ := mark_boxed w h2 none times2 C hC 48
  have hsz : C.size = 2018 := by rw [hC, markCells_size]
  have P := Lib.hid p
  have P1 := Lib.hid (p.gr hg1)
  have cd := P1.out.down
  have ct := P1.out.times
  have HG1 := Lib.hid hg1
  have HB1 := Lib.hid HB
  clear hC HB p hg1
  have qT : ∀ (w : World) (r : Option Nat), (binOp .eql 46 (.map r) (.map none)).run Try.prog w = .ok (.bool r.isNone) w := fun w r => run_eql_map_nil w _ _ _ r Try.underlying46
  go_enter Try.func13, Try.ntmps13
  go_wp2_with fail
  clear hsz
  generalize w.alloc (.cells C 48) = w1 at *
  go_quiet (fail)
  go_wp2_with fail
  go_ret
  refine Ret.mk rfl (HG1.out.trans ?_)
  repeat (with_reducible first | refine Gr.drew ?_ | refine Gr.drewN ?_ _ | refine Gr.alloc ?_ _)
  exact Gr.refl _
set_option maxRecDepth 100000 in
set_option maxHeartbeats 1600000 in
theorem back_old_pg (PB DB M n : Nat) (h sv : Head) (F : Int → Option ByteArray) (times : Int) (w : World) (p : PagerAt w PB DB M n h sv F false times) (h2 : Head) (times2 : Int) (M2 : Nat) (hne : times2 ≠ times) :
    Calls Try.prog 13 #[.pointer (some ⟨PB, 0, none⟩), .agg (markCells h2 (some M2) times2).toArray] w (Ret w (.iface 56 (.int .i64 1))) := by
  obtain ⟨C, hC⟩ : ∃ C : Array Value, C = (markCells h2 (some M2) times2).toArray := ⟨_, rfl⟩
  rw [← hC]
  have hg1 := (Gr.refl w).alloc (.cells C 48)
  obtain ⟨HB, c16, c17⟩ := mark_boxed w h2 (some M2) times2 C hC 48
  have hsz : C.size = 2018 := by rw [hC, markCells_size]
  have P := Lib.hid p
  have P1 := Lib.hid (p.gr hg1)
  have cd := P1.out.down
  have ct := P1.out.times
  have HG1 := Lib.hid hg1
  have HB1 := Lib.hid HB
  clear hC HB p hg1
  have hneq : (times2 != times) = true := by simpa using hne
  clear hne
  have qT : ∀ (w : World) (r : Option Nat), (binOp .eql 46 (.map r) (.map none)).run Try.prog w = .ok (.bool r.isNone) w := fun w r => run_eql_map_nil w _ _ _ r Try.underlying46
  go_enter Try.func13, Try.ntmps13
  go_wp2_with fail
  clear hsz
  generalize w.alloc (.cells C 48) = w1 at *
  go_quiet (fail)
  go_wp2_with fail
  go_ret
  refine Ret.mk rfl (HG1.out.trans ?_)
  repeat (with_reducible first | refine Gr.drew ?_ | refine Gr.drewN ?_ _ | refine Gr.alloc ?_ _)
  exact Gr.refl _
set_option maxRecDepth 100000 in
set_option maxHeartbeats 1600000 in
theorem back_pg (PB DB M n : Nat) (h sv : Head) (F : Int → Option ByteArray) (times : Int) (w : World) (p : PagerAt w PB DB M n h sv F false times) (h2 : Head) (times2 : Int) (M2 n2 : Nat) (F2 : Int → Option ByteArray) (hm : MapAt w M2 n2 F2) (ht : times2 = times) :
    Calls Try.prog 13 #[.pointer (some ⟨PB, 0, none⟩), .agg (markCells h2 (some M2) times2).toArray] w fun e w' => e = .returned .nilIface ∧ (∃ M', PagerAt w' PB DB M' n2 h2 sv F2 false times ∧ w.heap.size ≤ M') ∧ GrX (fun b => b = PB) w w' := by
  obtain ⟨C, hC⟩ : ∃ C : Array Value, C = (markCells h2 (some M2) times2).toArray := ⟨_, rfl⟩
  rw [← hC]
  have hg1 := (Gr.refl w).alloc (.cells C 48)
  obtain ⟨HB, c16, c17⟩ := mark_boxed w h2 (some M2) times2 C hC 48
  have hsz : C.size = 2018 := by rw [hC, markCells_size]
  have P := Lib.hid p
  have P1 := Lib.hid (p.gr hg1)
  have cd := P1.out.down
  have ct := P1.out.times
  have HG1 := Lib.hid hg1
  have HB1 := Lib.hid HB
  clear hC HB p hg1
  subst ht
  have HM := Lib.hid hm
  have hlt := P.out.lt
  have hneq : (times2 != times2) = false := by simp
  clear hm
  have qT : ∀ (w : World) (r : Option Nat), (binOp .eql 46 (.map r) (.map none)).run Try.prog w = .ok (.bool r.isNone) w := fun w r => run_eql_map_nil w _ _ _ r Try.underlying46
  go_enter Try.func13, Try.ntmps13
  go_wp2_with fail
  clear hsz
  generalize w.alloc (.cells C 48) = w1 at *
  go_quiet (fail)
  go_wp2_with fail
  have hgq : Gr w1 (w1.drewN nq) := (Gr.refl w1).drewN nq
  have P2 := Lib.hid (P1.out.gr hgq)
  have HB2 := Lib.hid (HB1.out.gr hgq)
  have k16 := hgq.keeps c16
  have HG2 := Lib.hid (HG1.out.trans hgq)
  have HM2 := Lib.hid (HM.out.gr HG2.out)
  have hsz2 := lt_of_cell k16
  clear hgq c16 c17 cd ct HG1 HB1 P1 qT
  generalize w1.drewN nq = w2 at *
  obtain ⟨A, hA⟩ : ∃ A : Array Value, A = h2.cells.toArray := ⟨_, rfl⟩
  have HA := Lib.hid hA
  clear hA
  have hne1 : ¬ (fun k => k = PB) w.heap.size := fun e => absurd e (by omega)
  refine wp_region_held_drew (S := fun w' => GrX (fun k => k = PB) w2 w') (by kernel_rfl) (GrX.drew _) (fun hHeld => ?_)
  refine wpAnyH_take (i := 0) (v := .pointer (some ⟨PB, 0, none⟩)) rfl (by kernel_rfl) (by kernel_rfl) (by kernel_rfl) (fun _ _ _ h => h) (Or.inl ⟨by rfl, fun w' hSw => ?_⟩) hHeld ?_
  · clear hSw
    go_simp
  simp only [Act.put, List.getElem_toArray, List.getElem_cons_succ, List.getElem_cons_zero, List.setIfInBounds_toArray, List.set_cons_zero, List.set_cons_succ]
  refine wpAnyH_take (i := 1) (v := .pointer (some ⟨PB, 0, none⟩)) rfl (by kernel_rfl) (by kernel_rfl) (by kernel_rfl) (fun _ _ _ h => h) (Or.inl ⟨by rfl, fun w' hSw => ?_⟩) hHeld ?_
  · clear hSw
    go_simp
  simp only [Act.put, List.getElem_toArray, List.getElem_cons_succ, List.getElem_cons_zero, List.setIfInBounds_toArray, List.set_cons_zero, List.set_cons_succ]
  refine wpAnyH_take (i := 2) (v := .pointer (some ⟨w.heap.size, 0, none⟩)) rfl (by kernel_rfl) (by kernel_rfl) (by kernel_rfl) (fun _ _ _ h => h) (Or.inl ⟨by rfl, fun w' hSw => ?_⟩) hHeld ?_
  · clear hSw
    go_simp
  simp only [Act.put, List.getElem_toArray, List.getElem_cons_succ, List.getElem_cons_zero, List.setIfInBounds_toArray, List.set_cons_zero, List.set_cons_succ]
  refine wpAnyH_take (i := 3) rfl (by kernel_rfl) (by kernel_rfl) (by kernel_rfl) (fun _ _ _ h => h) (yieldsIf_load_head (by rfl) _ rfl w.heap.size 0 h2 rfl A HA.out (fun w' g => HB2.out.keepX g hne1)) hHeld ?_
  simp only [Act.put, List.getElem_toArray, List.getElem_cons_succ, List.getElem_cons_zero, List.setIfInBounds_toArray, List.set_cons_zero, List.set_cons_succ]
  refine wpAnyH_take (i := 4) (v := .pointer (some ⟨w.heap.size, 2016, none⟩)) rfl (by kernel_rfl) (by kernel_rfl) (by kernel_rfl) (fun _ _ _ h => h) (Or.inl ⟨by rfl, fun w' hSw => ?_⟩) hHeld ?_
  · clear hSw
    go_simp
  simp only [Act.put, List.getElem_toArray, List.getElem_cons_succ, List.getElem_cons_zero, List.setIfInBounds_toArray, List.set_cons_zero, List.set_cons_succ]
  refine wpAnyH_take (i := 5) (v := .map (some M2)) rfl (by kernel_rfl) (by kernel_rfl) (by kernel_rfl) (fun _ _ _ h => h) (Or.inl ⟨by rfl, fun w' hSw => ?_⟩) hHeld ?_
  · have c0 := hSw.keeps hne1 k16
    clear hSw
    go_simp
  simp only [Act.put, List.getElem_toArray, List.getElem_cons_succ, List.getElem_cons_zero, List.setIfInBounds_toArray, List.set_cons_zero, List.set_cons_succ]
  refine wpAnyH_ready (rs := [6]) (by kernel_rfl) (by simp) ?_
  refine AllReadyH.cons rfl (fun K hK => ?_) AllReadyH.nil
  go_simp
  refine (clone_c (HM2.out.gr (Gr.refl w2).drew)).mono ?_
  rintro e w3 ⟨rfl, hM3, hg3, hz3⟩
  have HM3 : Hid (MapAt w3 w2.heap.size n2 F2) := Lib.hid hM3
  have HG3 := Lib.hid ((Gr.refl w2).drew.trans hg3)
  clear hM3 hg3 hz3
  go_wp2_with fail
  refine hK.out _ _ (GrX.of_gr HG3.out) (fun hHeld2 => ?_)
  clear hK K
  have P3 := Lib.hid (P2.out.gr HG3.out)
  refine wpAnyH_take (i := 7) (v := .pointer (some ⟨PB, 0, none⟩)) rfl (by kernel_rfl) (by kernel_rfl) (by kernel_rfl) (fun _ _ _ h => h) (Or.inl ⟨by rfl, fun w' hSw => ?_⟩) hHeld2 ?_
  · clear hSw
    go_simp
  simp only [Act.put, List.getElem_toArray, List.getElem_cons_succ, List.getElem_cons_zero, List.setIfInBounds_toArray, List.set_cons_zero, List.set_cons_succ]
  refine wpAnyH_take (i := 8) (v := .pointer (some ⟨PB, 1, none⟩)) rfl (by kernel_rfl) (by kernel_rfl) (by kernel_rfl) (fun _ _ _ h => h) (Or.inl ⟨by rfl, fun w' hSw => ?_⟩) hHeld2 ?_
  · clear hSw
    go_simp
  simp only [Act.put, List.getElem_toArray, List.getElem_cons_succ, List.getElem_cons_zero, List.setIfInBounds_toArray, List.set_cons_zero, List.set_cons_succ]
  refine wpAnyH_ready (rs := [9]) (by kernel_rfl) (by simp) ?_
  refine AllReadyH.cons rfl (fun K hK => ?_) AllReadyH.nil
  rw [if_pos (by rfl)]
  have hth : w3.there PB 1 A.size := by
    rw [HA.out, Head.arr_len]
    exact P3.out.head.there P3.out.free
  refine wp_store_mid 45 _ _ rfl PB 1 A rfl rfl hth (by rw [info_head, HA.out, Head.arr_len]) (by rw [HA.out]; exact all_oneCell_toArray (Head.cells_one _)) ?_
  obtain ⟨w4, hw4⟩ : ∃ w4, w4 = w3.setCells PB 1 h2.cells := ⟨_, rfl⟩
  have hwe : w3.setCells PB 1 A.toList = w4 := by rw [hw4, HA.out]
  rw [hwe]
  have HP4 := Lib.hid (reHead_of (Lib.hid hw4) P3.out)
  clear hw4 hwe hth
  have HM4 := Lib.hid (HM3.out.keepX HP4.out.2 (show ¬ w2.heap.size = PB by omega))
  refine hK.out _ _ ((GrX.of_gr HG3.out).trans HP4.out.2) (fun hHeld3 => ?_)
  clear hK K
  have c1 := HP4.out.1.map
  have z1 := HP4.out.1.free 2017
  try simp only [Act.put, List.getElem_toArray, List.getElem_cons_succ, List.getElem_cons_zero, List.setIfInBounds_toArray, List.set_cons_zero, List.set_cons_succ]
  refine wpAnyH_take (i := 10) (v := .pointer (some ⟨PB, 0, none⟩)) rfl (by kernel_rfl) (by kernel_rfl) (by kernel_rfl) (fun _ _ _ h => h) (Or.inl ⟨by rfl, fun w' hSw => ?_⟩) hHeld3 ?_
  · clear hSw
    go_simp
  simp only [Act.put, List.getElem_toArray, List.getElem_cons_succ, List.getElem_cons_zero, List.setIfInBounds_toArray, List.set_cons_zero, List.set_cons_succ]
  refine wpAnyH_take (i := 11) (v := .pointer (some ⟨PB, 2017, none⟩)) rfl (by kernel_rfl) (by kernel_rfl) (by kernel_rfl) (fun _ _ _ h => h) (Or.inl ⟨by rfl, fun w' hSw => ?_⟩) hHeld3 ?_
  · clear hSw
    go_simp
  simp only [Act.put, List.getElem_toArray, List.getElem_cons_succ, List.getElem_cons_zero, List.setIfInBounds_toArray, List.set_cons_zero, List.set_cons_succ]
  refine wpAnyH_ready (rs := [12]) (by kernel_rfl) (by simp) ?_
  refine AllReadyH.cons rfl (fun K hK => ?_) AllReadyH.nil
  go_simp
  have HP5 := Lib.hid (HP4.out.1.reMap HM4.out (by omega))
  have hg5 : GrX (fun k => k = PB) w4 (w4.setCell ⟨PB, 2017, none⟩ (.map (some w2.heap.size))) := GrX.setCell _ _ rfl
  refine hK.out _ _ (hHeld3.trans hg5) (fun _ => ?_)
  clear hK K
  have HG5 := Lib.hid ((((GrX.of_gr HG2.out).trans (GrX.of_gr HG3.out)).trans HP4.out.2).trans hg5)
  have hle := HG2.out.size
  clear hg5 c1 z1
  generalize w4.setCell ⟨PB, 2017, none⟩ (.map (some w2.heap.size)) = w5 at *
  refine wpAnyH_done (by kernel_rfl) ?_ _
  go_wp2_with fail
  go_ret
  exact ⟨rfl, ⟨_, HP5.out, hle⟩, HG5.out⟩
end Go.Proofs.Ytmjkalpjciddbaa

/-
  A pager's Mark and Back, and a noted state that is kept.
-/
namespace Go.Proofs.Ytmjkalpjciddbaa
open Go Go.RowKit

section
variable {w : World} {PB DB M n : Nat} {c : Ch} {sv : Head} {t : Int} {d : Dk}
set_option maxRecDepth 100000 in
theorem mark_s (h : PgS w PB DB M n c sv t d) : Calls Try.prog 11 #[.pointer (some ⟨PB, 0, none⟩)] w fun e w' => ∃ M2 n2, e = .returned (.agg (markCells c.h (some M2) t).toArray) ∧ n2 ≤ n ∧ MapAt w' M2 n2 c.F ∧ w.heap.size ≤ M2 ∧ Gr w w' := by
  obtain ⟨⟨n', h1, h2⟩, _⟩ := h
  refine (mark_pg PB DB M n' c.h sv c.F false t w h2).mono ?_
  rintro e w' ⟨M2, h, hm, hle, g⟩
  exact ⟨M2, n', h, h1, hm, hle, g⟩
set_option maxRecDepth 100000 in
theorem back_s (h : PgS w PB DB M n c sv t d) (h2 : Head) (M2 n2 : Nat) (F2 : Int → Option ByteArray) (hm : MapAt w M2 n2 F2) : Calls Try.prog 13 #[.pointer (some ⟨PB, 0, none⟩), .agg (markCells h2 (some M2) t).toArray] w fun e w' => e = .returned .nilIface ∧ ∃ M', PgS w' PB DB M' n2 ⟨h2, F2⟩ sv t d ∧ PgF PB DB M M' w w' := by
  obtain ⟨⟨n', h1, hp⟩, h3, h4, h5⟩ := h
  refine (back_pg PB DB M n' c.h sv c.F t w hp h2 t M2 n2 F2 hm rfl).mono ?_
  rintro e w' ⟨rfl, ⟨M', p, hM⟩, g⟩
  have := h3.lt
  exact ⟨rfl, M', ⟨⟨n2, Nat.le_refl _, p⟩, h3.keepX g (fun e => h4 e.symm), h4, by omega⟩, .inr hM, grX_imp g fun _ e => .inl e⟩
end
/-- A noted state is stored, is loaded. -/
theorem wpList_store_mark {ops : Array Oper} {rest : List Oper} {op : Oper} {a : Act} {w : World} {Q : Exit → Act → World → Prop} (hgd : op.guard = none) (x y : Operand) (ho : op.op = .store 48 x y) (b : Nat) (h : Head) (m : Option Nat) (t : Int) (A : Array Value)
    (hx : a.eval x = .pointer (some ⟨b, 0, none⟩)) (hy : a.eval y = .agg A) (hA : A = (markCells h m t).toArray) (hth : w.there b 0 2018)
    (hk : ∀ w', w'.rangeAt b 0 (markCells h m t) → GrX (fun k => k = b) w w' → wpList Try.prog ops Q rest (a.put op.dst undef) w') : wpList Try.prog ops Q (op :: rest) a w := by
  subst hA
  refine wpList_store_mid hgd 48 x y ho b 0 _ hx hy (by rw [markCells_size]; exact hth) (by rw [info_mark, markCells_size]) (all_oneCell_toArray (markCells_one _ _ _)) ?_
  exact hk _ (World.rangeAt_setCells_same w b 0 _ (by rw [markCells_len]; exact hth)) (setCells_block b _ 0 w)
theorem wpList_load_mark {ops : Array Oper} {rest : List Oper} {op : Oper} {a : Act} {w : World} {Q : Exit → Act → World → Prop} (hgd : op.guard = none) (x : Operand) (ho : op.op = .load 48 x) (b : Nat) (h : Head) (m : Option Nat) (t : Int)
    (hx : a.eval x = .pointer (some ⟨b, 0, none⟩)) (hr : w.rangeAt b 0 (markCells h m t)) (hk : ∀ A : Array Value, Hid (A = (markCells h m t).toArray) → wpList Try.prog ops Q rest (a.put op.dst (.agg A)) w) : wpList Try.prog ops Q (op :: rest) a w :=
  wpList_load_mid hgd 48 x ho b 0 hx _ _ hr Try.underlying48 rfl (by rw [info_mark, markCells_len]) (hk _ (Lib.hid rfl))
theorem range_kept {S : Nat → Prop} {w w' : World} {b : Nat} {cs : List Value} (h : w.rangeAt b 0 cs) (g : GrX S w w') (hs : ¬ S b) : w'.rangeAt b 0 cs := fun j v hv => g.keeps hs (h j v hv)
theorem range_pg {PB DB M M' : Nat} {w w' : World} {b : Nat} {cs : List Value} (h : w.rangeAt b 0 cs) (g : PgF PB DB M M' w w') (h1 : b ≠ PB) (h2 : b ≠ DB) (h3 : b ≠ M) : w'.rangeAt b 0 cs := range_kept h g.2 fun e => e.elim h1 fun e => e.elim h2 h3
theorem map_pg {PB DB M M' : Nat} {w w' : World} {b n : Nat} {F : Int → Option ByteArray} (h : MapAt w b n F) (g : PgF PB DB M M' w w') (h1 : b ≠ PB) (h2 : b ≠ DB) (h3 : b ≠ M) : MapAt w' b n F := h.keepX g.2 fun e => e.elim h1 fun e => e.elim h2 h3
/-- A noted state that is kept. -/
structure KeepM (w : World) (PB DB M MB MK nK : Nat) (cs : List Value) (F : Int → Option ByteArray) : Prop where
  rng : w.rangeAt MB 0 cs
  map : MapAt w MK nK F
  lt : MB < w.heap.size
  b1 : MB ≠ PB
  b2 : MB ≠ DB
  b3 : MB ≠ M
  k1 : MK ≠ PB
  k2 : MK ≠ DB
  k3 : MK ≠ M
theorem KeepM.step {w w' : World} {PB DB M M' MB MK nK : Nat} {cs : List Value} {F : Int → Option ByteArray} (h : KeepM w PB DB M MB MK nK cs F) (g : PgF PB DB M M' w w') : KeepM w' PB DB M' MB MK nK cs F :=
  ⟨range_pg h.rng g h.b1 h.b2 h.b3, map_pg h.map g h.k1 h.k2 h.k3, Nat.lt_of_lt_of_le h.lt g.size, h.b1, h.b2, g.off h.lt h.b3, h.k1, h.k2, g.off h.map.lt h.k3⟩
theorem PgS.far {w w' : World} {PB DB M n b : Nat} {c : Ch} {sv : Head} {t : Int} {d : Dk} (h : PgS w PB DB M n c sv t d) (g : GrX (fun k => k = b) w w') (h1 : PB ≠ b) (h2 : DB ≠ b) (h3 : M ≠ b) : PgS w' PB DB M n c sv t d := by
  obtain ⟨⟨n', h4, h5⟩, h6, h7, h8⟩ := h
  exact ⟨⟨n', h4, h5.keepX g h1 h3⟩, h6.keepX g h2, h7, h8⟩
end Go.Proofs.Ytmjkalpjciddbaa
