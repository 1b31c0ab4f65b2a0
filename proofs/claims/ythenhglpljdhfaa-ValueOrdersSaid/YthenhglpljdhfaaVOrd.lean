/-
  The walk of the law ValueOrders: it returns true.
-/
import Derived.Test.YthenhglpljdhfaaValL
namespace Go.Proofs.Ythenhglpljdhfaa
open Go Go.RowKit

theorem short_sizes {xs : List GVal} (h : shortB xs = true) : xs.length ≤ 30 ∧ ∀ i (hi : i < xs.length), xs[i].text.size ≤ 100 := by
  unfold shortB at h
  simp only [Bool.and_eq_true, decide_eq_true_eq, List.all_eq_true] at h
  exact ⟨h.1, fun i hi => h.2 _ (List.getElem_mem hi)⟩

theorem eqF_of {a b : Bool} (h : a = b) : (a != b) = false := by simp [h]

set_option maxHeartbeats 1600000 in
theorem valueOrders_walk (xs ys : List GVal) (b off c : Nat) (ao : Option Addr) (hao : 0 < xs.length → ao = some ⟨b, off, none⟩) (hl : xs.length ≤ 9223372036854775807)
    (b' off' c' : Nat) (ao' : Option Addr) (hao' : 0 < ys.length → ao' = some ⟨b', off', none⟩) (hl' : ys.length ≤ 9223372036854775807) (w : World) (hc : ValsAt w b off xs) (hc' : ValsAt w b' off' ys) :
    Calls Try.prog 3 #[.slice ao xs.length c, .slice ao' ys.length c'] w (Ret w (.bool true)) := by
  have HC := Lib.hid hc
  have HA := Lib.hid hao
  have HC' := Lib.hid hc'
  have HA' := Lib.hid hao'
  clear hc hao hc' hao'
  cases hx : shortB xs
  · have HX := Lib.hid hx
    clear hx
    go_enter Try.func3, Try.ntmps3
    go_wp2_with fail
    refine (short_t xs b off c ao HA.out hl _ HC.out).mono ?_
    rintro e w1 ⟨rfl, hg1⟩
    rw [HX.out]
    go_wp2_with fail
    go_ret
    exact Ret.mk rfl hg1
  cases hy : shortB ys
  · have HX := Lib.hid hx
    have HY := Lib.hid hy
    clear hx hy
    go_enter Try.func3, Try.ntmps3
    go_wp2_with fail
    refine (short_t xs b off c ao HA.out hl _ HC.out).mono ?_
    rintro e w1 ⟨rfl, hg1⟩
    rw [HX.out]
    go_wp2_with fail
    refine (short_t ys b' off' c' ao' HA'.out hl' _ (HC'.out.gr hg1)).mono ?_
    rintro e w2 ⟨rfl, hg2⟩
    rw [HY.out]
    go_wp2_with fail
    go_ret
    exact Ret.mk rfl (hg1.trans hg2)
  have HX := Lib.hid hx
  have HY := Lib.hid hy
  clear hx hy
  have HS := Lib.hid (short_sizes HX.out).2
  have HS' := Lib.hid (short_sizes HY.out).2
  have hl30 := (short_sizes HX.out).1
  have hl30' := (short_sizes HY.out).1
  go_enter Try.func3, Try.ntmps3
  go_wp2_with fail
  refine (short_t xs b off c ao HA.out hl _ HC.out).mono ?_
  rintro e w1 ⟨rfl, hg1⟩
  rw [HX.out]
  go_wp2_with fail
  refine (short_t ys b' off' c' ao' HA'.out hl' _ (HC'.out.gr hg1)).mono ?_
  rintro e w2 ⟨rfl, hg2⟩
  rw [HY.out]
  have hg := hg1.trans hg2
  clear hg1 hg2
  go_wp2_with fail
  go_loopw [5] (fun i w' => ∃ j : Nat, j ≤ xs.length ∧ i = .int .i64 j ∧ Gr w w') (fun i _ => xs.length - (intOf i).toNat)
  case atStart => exact ⟨0, Nat.zero_le _, rfl, hg⟩
  case round =>
    obtain ⟨j, hj, rfl, hg⟩ := hrel
    by_cases h1 : j < xs.length
    · obtain rfl := HA.out (by omega)
      have hv := HC.out.gr hg j h1
      have f1 := fun d os => cell_regrown hv.1 d os
      have f2 := fun d os => cell_regrown hv.2.1 d os
      have f3 := fun d os => cell_regrown hv.2.2 d os
      clear hv
      go_wp2_with fail
      refine wp_region_quiet_below (by kernel_rfl) (by kernel_rfl) ?_
      repeat (go_big_quiet_step (first | (go_at_call 8; exact Ret.regrown (right_t _ (Nat.le_trans (HS.out j h1) (by omega)) _)) | (go_at_call 9; exact Ret.regrown (right_ref _ (Nat.le_trans (HS.out j h1) (by omega)) _))))
      refine wpQuiet_nil ?_
      intro w3 hw3
      have hg3 := hg.trans (gr_regrown hw3)
      clear hw3 f1 f2 f3 hg
      have hne : (rightB xs[j] != rightB xs[j]) = false := eqF_of rfl
      go_wp2_with fail
      go_loopw [6] (fun i w' => ∃ k : Nat, k ≤ ys.length ∧ i = .int .i64 k ∧ Gr w w') (fun i _ => ys.length - (intOf i).toNat)
      case atStart => exact ⟨0, Nat.zero_le _, rfl, hg3⟩
      case round =>
        obtain ⟨k, hk, rfl, hg⟩ := hrel
        by_cases h2 : k < ys.length
        · obtain rfl := HA'.out (by omega)
          have hv := HC.out.gr hg j h1
          have hv' := HC'.out.gr hg k h2
          have f1 := fun d os => cell_regrown hv.1 d os
          have f2 := fun d os => cell_regrown hv.2.1 d os
          have f3 := fun d os => cell_regrown hv.2.2 d os
          have f1' := fun d os => cell_regrown hv'.1 d os
          have f2' := fun d os => cell_regrown hv'.2.1 d os
          have f3' := fun d os => cell_regrown hv'.2.2 d os
          clear hv hv'
          go_wp2_with fail
          refine wp_region_quiet_below (by kernel_rfl) (by kernel_rfl) ?_
          repeat (go_big_quiet_step (first | (go_at_call 10; exact Ret.regrown (compare_t _ _ _)) | (go_at_call 11; exact Ret.regrown (compare_ref _ _ _))))
          refine wpQuiet_nil ?_
          intro w4 hw4
          have hg4 := hg.trans (gr_regrown hw4)
          clear hw4 f1 f2 f3 f1' f2' f3' hg
          have hne : (cmpV xs[j] ys[k] != cmpV xs[j] ys[k]) = false := by simp
          go_wp2_with fail
          exact ⟨⟨k + 1, by omega, by go_num, hg4⟩, by simp [intOf]; omega⟩
        · go_wp2_with fail
          exact ⟨⟨j + 1, by omega, by go_num, hg⟩, by simp [intOf]; omega⟩
    · go_wp2_with (first | (go_at_call 12; refine (order_t xs ys b off c ao HA.out hl b' off' c' ao' HA'.out hl' _ (HC.out.gr hg) (HC'.out.gr hg)).mono ?_; rintro e w3 ⟨rfl, hg3⟩))
      refine (order_ref xs ys b off c ao HA.out hl b' off' c' ao' HA'.out hl' _ (HC.out.gr (hg.trans hg3)) (HC'.out.gr (hg.trans hg3))).mono ?_
      rintro e w4 ⟨rfl, hg4⟩
      go_wp2_with fail
      go_ret
      exact Ret.mk (by simp) ((hg.trans hg3).trans hg4)
end Go.Proofs.Ythenhglpljdhfaa
