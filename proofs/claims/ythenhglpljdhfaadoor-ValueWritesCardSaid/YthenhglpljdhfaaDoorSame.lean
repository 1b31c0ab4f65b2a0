/-
  A list of values of the call's own as a list in memory; the contract of the laws' sameValues.
-/
import Derived.Test.YthenhglpljdhfaaDoorRead
namespace Go.Proofs.YthenhglpljdhfaaDoor
open Go Go.RowKit

def cellsL (xs : List GVal) : List Value := xs.flatMap fun x => [.int .i64 x.kind, .int .i64 x.num, .string x.text]
theorem cellsL_len (xs : List GVal) : (cellsL xs).length = xs.length * 3 := by
  induction xs with
  | nil => rfl
  | cons x xs ih => show (_ :: _ :: _ :: cellsL xs).length = _; simp [ih]; omega
theorem cellsL_one (xs : List GVal) : ∀ u ∈ cellsL xs, u.oneCell' = true := by
  intro u hu
  obtain ⟨x, _, hx⟩ := List.mem_flatMap.1 hu
  exact valCells_one _ _ _ u hx
theorem fm_get : ∀ (xs : List GVal) (i : Nat) (h : i < xs.length), (xs.flatMap fun x => [Value.int .i64 x.kind, .int .i64 x.num, .string x.text])[i * 3]? = some (.int .i64 xs[i].kind) ∧ (xs.flatMap fun x => [Value.int .i64 x.kind, .int .i64 x.num, .string x.text])[i * 3 + 1]? = some (.int .i64 xs[i].num) ∧ (xs.flatMap fun x => [Value.int .i64 x.kind, .int .i64 x.num, .string x.text])[i * 3 + 2]? = some (.string xs[i].text)
  | [], i, h => by simp at h
  | x :: xs, 0, _ => by simp
  | x :: xs, i + 1, h => by
    have := fm_get xs i (by simpa using h)
    have e : (i + 1) * 3 = i * 3 + 3 := by omega
    rw [e, List.flatMap_cons]
    simpa using this

theorem ValsAt.cells {w : World} {b off : Nat} : ∀ {xs : List GVal}, ValsAt w b off xs → ∀ j u, (cellsL xs)[j]? = some u → w.cell? ⟨b, off + j, none⟩ = some u := by
  intro xs h j u hj
  have hlt : j < xs.length * 3 := by rw [← cellsL_len]; exact (List.getElem?_eq_some_iff.1 hj).1
  have hi : j / 3 < xs.length := by omega
  have hg := fm_get xs (j / 3) hi
  have hc := h (j / 3) hi
  rcases (show j = j / 3 * 3 ∨ j = j / 3 * 3 + 1 ∨ j = j / 3 * 3 + 2 by omega) with e | e | e
  · rw [e] at hj ⊢
    have := hg.1.symm.trans hj
    rw [← Option.some.inj this]; exact hc.1
  · rw [e] at hj ⊢
    have := hg.2.1.symm.trans hj
    rw [← Option.some.inj this]; exact hc.2.1
  · rw [e] at hj ⊢
    have := hg.2.2.symm.trans hj
    rw [← Option.some.inj this]; exact hc.2.2

/-- A list of the call's own lies in memory. -/
theorem OwnV.vals {a0 w : World} {v : Value} {xs : List GVal} (h : OwnV a0 w v xs) : ∃ ao b c, v = .slice ao xs.length c ∧ (0 < xs.length → ao = some ⟨b, 0, none⟩) ∧ ValsAt w b 0 xs := by
  have hc := fun g hg => World.ownsRow.cells (g := g) h.row hg
  rcases h.row.2 with ⟨rfl, h0⟩ | ⟨g, cap, cur, rfl, _⟩
  · have h0' : xs.length = 0 := h0
    exact ⟨none, 0, 0, by rw [h0'], fun h => by omega, fun i hi => by omega⟩
  · refine ⟨_, g, cap, rfl, fun _ => rfl, fun i hi => ?_⟩
    have hg := fm_get xs i hi
    have c1 := hc g rfl _ _ hg.1
    have c2 := hc g rfl _ _ hg.2.1
    have c3 := hc g rfl _ _ hg.2.2
    have e : ∀ j, (⟨g, 0, none⟩ : Addr).add j = ⟨g, 0 + j, none⟩ := by
      intro j; unfold Addr.add; split <;> simp_all
    rw [e] at c1 c2 c3
    refine ⟨c1, ?_, ?_⟩
    · rw [Nat.add_assoc]; exact c2
    · rw [Nat.add_assoc]; exact c3

set_option maxHeartbeats 800000 in
theorem same_t (xs : List GVal) (b off c : Nat) (ao : Option Addr) (hao : 0 < xs.length → ao = some ⟨b, off, none⟩) (hl : xs.length ≤ 9223372036854775807)
    (b' off' c' : Nat) (ao' : Option Addr) (hao' : 0 < xs.length → ao' = some ⟨b', off', none⟩) (w : World) (hc : ValsAt w b off xs) (hc' : ValsAt w b' off' xs) :
    Calls Tryd.prog 49 #[.slice ao xs.length c, .slice ao' xs.length c'] w (Ret w (.bool true)) := by
  have HC := Lib.hid hc
  have HA := Lib.hid hao
  have HC' := Lib.hid hc'
  have HA' := Lib.hid hao'
  clear hc hao hc' hao'
  go_enter Tryd.func49, Tryd.ntmps49
  go_wp2_with fail
  go_loopw [5] (fun i w' => ∃ j : Nat, j ≤ xs.length ∧ i = .int .i64 j ∧ Gr w w') (fun i _ => xs.length - (intOf i).toNat)
  case atStart => exact ⟨0, Nat.zero_le _, rfl, Gr.refl _⟩
  case round =>
    obtain ⟨j, hj, rfl, hg⟩ := hrel
    by_cases h1 : j < xs.length
    · obtain rfl := HA.out (by omega)
      obtain rfl := HA'.out (by omega)
      have hv := HC.out.gr hg j h1
      have hv' := HC'.out.gr hg j h1
      have f1 := fun d os => cell_regrown hv.1 d os
      have f2 := fun d os => cell_regrown hv.2.1 d os
      have f3 := fun d os => cell_regrown hv.2.2 d os
      have f1' := fun d os => cell_regrown hv'.1 d os
      have f2' := fun d os => cell_regrown hv'.2.1 d os
      have f3' := fun d os => cell_regrown hv'.2.2 d os
      clear hv hv'
      go_wp2_with fail
      refine wp_region_quiet_below (by kernel_rfl) (by kernel_rfl) ?_
      repeat (go_big_quiet_step (fail))
      refine wpQuiet_nil ?_
      intro w3 hw3
      have hg3 := hg.trans (gr_regrown hw3)
      clear hw3 f1 f2 f3 f1' f2' f3' hg
      go_wp2_with fail
      exact ⟨⟨j + 1, by omega, by go_num, hg3⟩, by simp [intOf]; omega⟩
    · go_wp2_with fail
      go_ret
      exact Ret.mk rfl hg
end Go.Proofs.YthenhglpljdhfaaDoor
