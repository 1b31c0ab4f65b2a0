/-
  The contract of posting.Right.
-/
import Derived.Test.YtkdplnbdhkckhaaPostX
namespace Go.Proofs.Ytkdplnbdhkckhaa
open Go Go.RowKit

theorem inP_bad {x1 x2 : Int} (h : x1 < 1 ∨ 1073741824 < x1 ∨ x2 < 0 ∨ 1073741824 ≤ x2) : inP (x1, x2) = false := by
  rw [Bool.eq_false_iff]
  intro h1
  rw [inP_iff] at h1
  simp only at h1
  omega
theorem inP_good {x1 x2 : Int} (h : 1 ≤ x1 ∧ x1 ≤ 1073741824 ∧ 0 ≤ x2 ∧ x2 < 1073741824) : inP (x1, x2) = true := by
  rw [inP_iff]
  simp only
  omega
theorem cmpP_before (a b : GPlace) : decide (0 ≤ cmpP a b) = !beforeB a b := by
  obtain ⟨a1, a2⟩ := a
  obtain ⟨b1, b2⟩ := b
  unfold cmpP orI Lib.compareInt
  cases h : beforeB (a1, a2) (b1, b2)
  · rw [Bool.eq_false_iff, ne_eq, before_iff] at h
    simp only at h
    simp only [Bool.not_false, decide_eq_true_eq]
    split <;> split <;> omega
  · rw [before_iff] at h
    simp only at h
    simp only [Bool.not_true, decide_eq_false_iff_not]
    split <;> split <;> omega
set_option maxHeartbeats 1600000 in
theorem right_p (xs : List GPlace) (b off c : Nat) (ao : Option Addr) (hao : 0 < xs.length → ao = some ⟨b, off, none⟩) (hl : xs.length ≤ 9223372036854775807) (w : World) (hc : PlacesAt w b off xs) :
    Calls Try.prog 6 #[.slice ao xs.length c] w (Ret w (.bool (placesB xs))) := by
  have HC := Lib.hid hc
  have HA := Lib.hid hao
  clear hc hao
  go_enter Try.func6, Try.ntmps6
  go_wp2_with fail
  go_loopw [7] (fun i w' => ∃ j : Nat, j ≤ xs.length ∧ i = .int .i64 j ∧ Gr w w' ∧ ∀ k, k < j → okAt xs k = true) (fun i _ => xs.length - (intOf i).toNat)
  case atStart => exact ⟨0, Nat.zero_le _, rfl, Gr.refl _, fun k hk => by omega⟩
  case round =>
    obtain ⟨j, hj, rfl, hg, hok⟩ := hrel
    have HO := Lib.hid hok
    clear hok
    by_cases hlt : j < xs.length
    · obtain rfl := HA.out (by omega)
      obtain ⟨c0, c1⟩ := HC.out.gr hg j hlt
      cases j with
      | zero =>
        have hok := okAt_zero xs hlt
        generalize hx : xs[0] = x at *
        obtain ⟨x1, x2⟩ := x
        simp only [Nat.zero_mul, Nat.add_zero] at c0 c1
        have HOK := Lib.hid hok
        clear hok
        have p0 : (wr.alloc (.cells #[.int .i64 x1, .int .i64 x2] 39)).cell? ⟨wr.heap.size, 0, none⟩ = some (.int .i64 x1) := by rw [World.cell?_alloc_new]; rfl
        have p1 : (wr.alloc (.cells #[.int .i64 x1, .int .i64 x2] 39)).cell? ⟨wr.heap.size, 1, none⟩ = some (.int .i64 x2) := by rw [World.cell?_alloc_new]; rfl
        have f0 := fun d os => cell_regrown p0 d os
        have f1 := fun d os => cell_regrown p1 d os
        clear p0 p1
        go_wp2_with fail
        cases hA : decide (x1 < 1)
        · cases hB : decide (1073741824 < x1)
          · cases hC : decide (x2 < 0)
            · cases hD : decide (1073741824 ≤ x2)
              · refine wp_region_quiet_below (by kernel_rfl) (by kernel_rfl) ?_
                repeat (go_big_quiet_step (fail))
                refine wpQuiet_nil ?_
                intro w3 hw3
                have hg3 := (hg.alloc _).trans (gr_regrown hw3)
                clear hw3 hg f0 f1
                go_wp2_with fail
                refine ⟨⟨0 + 1, by omega, by go_num, hg3, fun m hm => ?_⟩, by simp [intOf]; omega⟩
                rcases Nat.lt_succ_iff_lt_or_eq.1 hm with h | rfl
                · exact HO.out m h
                · exact (by rw [HOK.out]; exact inP_good (by simp only [decide_eq_false_iff_not] at *; omega))
              · refine wp_region_quiet_below (by kernel_rfl) (by kernel_rfl) ?_
                repeat (go_big_quiet_step (fail))
                refine wpQuiet_nil ?_
                intro w3 hw3
                have hg3 := (hg.alloc _).trans (gr_regrown hw3)
                clear hw3 hg f0 f1
                go_wp2_with fail
                go_ret
                exact Ret.mk (by rw [placesB_false hlt (by rw [HOK.out]; exact inP_bad (by simp only [decide_eq_false_iff_not, decide_eq_true_eq] at *; omega))]; rfl) hg3
            · refine wp_region_quiet_below (by kernel_rfl) (by kernel_rfl) ?_
              repeat (go_big_quiet_step (fail))
              refine wpQuiet_nil ?_
              intro w3 hw3
              have hg3 := (hg.alloc _).trans (gr_regrown hw3)
              clear hw3 hg f0 f1
              go_wp2_with fail
              go_ret
              exact Ret.mk (by rw [placesB_false hlt (by rw [HOK.out]; exact inP_bad (by simp only [decide_eq_false_iff_not, decide_eq_true_eq] at *; omega))]; rfl) hg3
          · refine wp_region_quiet_below (by kernel_rfl) (by kernel_rfl) ?_
            repeat (go_big_quiet_step (fail))
            refine wpQuiet_nil ?_
            intro w3 hw3
            have hg3 := (hg.alloc _).trans (gr_regrown hw3)
            clear hw3 hg f0 f1
            go_wp2_with fail
            go_ret
            exact Ret.mk (by rw [placesB_false hlt (by rw [HOK.out]; exact inP_bad (by simp only [decide_eq_false_iff_not, decide_eq_true_eq] at *; omega))]; rfl) hg3
        · refine wp_region_quiet_below (by kernel_rfl) (by kernel_rfl) ?_
          repeat (go_big_quiet_step (fail))
          refine wpQuiet_nil ?_
          intro w3 hw3
          have hg3 := (hg.alloc _).trans (gr_regrown hw3)
          clear hw3 hg f0 f1
          go_wp2_with fail
          go_ret
          exact Ret.mk (by rw [placesB_false hlt (by rw [HOK.out]; exact inP_bad (by simp only [decide_eq_true_eq] at *; omega))]; rfl) hg3
      | succ k =>
        obtain ⟨d0, d1⟩ := HC.out.gr hg k (by omega)
        have hok := okAt_succ xs k hlt
        generalize hx : xs[k + 1] = x at *
        generalize hy : xs[k] = y at *
        obtain ⟨x1, x2⟩ := x
        obtain ⟨y1, y2⟩ := y
        simp only at c0 c1 d0 d1
        have HOK := Lib.hid hok
        clear hok
        have p0 : (wr.alloc (.cells #[.int .i64 x1, .int .i64 x2] 39)).cell? ⟨wr.heap.size, 0, none⟩ = some (.int .i64 x1) := by rw [World.cell?_alloc_new]; rfl
        have p1 : (wr.alloc (.cells #[.int .i64 x1, .int .i64 x2] 39)).cell? ⟨wr.heap.size, 1, none⟩ = some (.int .i64 x2) := by rw [World.cell?_alloc_new]; rfl
        have f0 := fun d os => cell_regrown p0 d os
        have f1 := fun d os => cell_regrown p1 d os
        have f2 := fun d os => cell_regrown (((Gr.refl wr).alloc (.cells #[.int .i64 x1, .int .i64 x2] 39)).keeps d0) d os
        have f3 := fun d os => cell_regrown (((Gr.refl wr).alloc (.cells #[.int .i64 x1, .int .i64 x2] 39)).keeps d1) d os
        clear p0 p1
        go_wp2_with fail
        cases hA : decide (x1 < 1)
        · cases hB : decide (1073741824 < x1)
          · cases hC : decide (x2 < 0)
            · cases hD : decide (1073741824 ≤ x2)
              · cases hE : beforeB (y1, y2) (x1, x2)
                · have hE' : decide (0 ≤ cmpP (y1, y2) (x1, x2)) = true := by rw [cmpP_before, hE]; rfl
                  refine wp_region_quiet_below (by kernel_rfl) (by kernel_rfl) ?_
                  repeat (go_big_quiet_step ((go_at_call 22; exact Ret.regrown (compare_p (y1, y2) (x1, x2) _))))
                  refine wpQuiet_nil ?_
                  intro w3 hw3
                  have hg3 := (hg.alloc _).trans (gr_regrown hw3)
                  clear hw3 hg f0 f1
                  go_wp2_with fail
                  go_ret
                  exact Ret.mk (by rw [placesB_false hlt (by rw [HOK.out, hE]; simp)]; rfl) hg3
                · have hE' : decide (0 ≤ cmpP (y1, y2) (x1, x2)) = false := by rw [cmpP_before, hE]; rfl
                  refine wp_region_quiet_below (by kernel_rfl) (by kernel_rfl) ?_
                  repeat (go_big_quiet_step ((go_at_call 22; exact Ret.regrown (compare_p (y1, y2) (x1, x2) _))))
                  refine wpQuiet_nil ?_
                  intro w3 hw3
                  have hg3 := (hg.alloc _).trans (gr_regrown hw3)
                  clear hw3 hg f0 f1
                  go_wp2_with fail
                  refine ⟨⟨k + 1 + 1, by omega, by go_num, hg3, fun m hm => ?_⟩, by simp [intOf]; omega⟩
                  rcases Nat.lt_succ_iff_lt_or_eq.1 hm with h | rfl
                  · exact HO.out m h
                  · exact (by rw [HOK.out, hE, inP_good (by simp only [decide_eq_false_iff_not] at *; omega)]; rfl)
              · refine wp_region_quiet_below (by kernel_rfl) (by kernel_rfl) ?_
                repeat (go_big_quiet_step (fail))
                refine wpQuiet_nil ?_
                intro w3 hw3
                have hg3 := (hg.alloc _).trans (gr_regrown hw3)
                clear hw3 hg f0 f1
                go_wp2_with fail
                go_ret
                exact Ret.mk (by rw [placesB_false hlt (by rw [HOK.out, inP_bad (by simp only [decide_eq_false_iff_not, decide_eq_true_eq] at *; omega)]; rfl)]; rfl) hg3
            · refine wp_region_quiet_below (by kernel_rfl) (by kernel_rfl) ?_
              repeat (go_big_quiet_step (fail))
              refine wpQuiet_nil ?_
              intro w3 hw3
              have hg3 := (hg.alloc _).trans (gr_regrown hw3)
              clear hw3 hg f0 f1
              go_wp2_with fail
              go_ret
              exact Ret.mk (by rw [placesB_false hlt (by rw [HOK.out, inP_bad (by simp only [decide_eq_false_iff_not, decide_eq_true_eq] at *; omega)]; rfl)]; rfl) hg3
          · refine wp_region_quiet_below (by kernel_rfl) (by kernel_rfl) ?_
            repeat (go_big_quiet_step (fail))
            refine wpQuiet_nil ?_
            intro w3 hw3
            have hg3 := (hg.alloc _).trans (gr_regrown hw3)
            clear hw3 hg f0 f1
            go_wp2_with fail
            go_ret
            exact Ret.mk (by rw [placesB_false hlt (by rw [HOK.out, inP_bad (by simp only [decide_eq_false_iff_not, decide_eq_true_eq] at *; omega)]; rfl)]; rfl) hg3
        · refine wp_region_quiet_below (by kernel_rfl) (by kernel_rfl) ?_
          repeat (go_big_quiet_step (fail))
          refine wpQuiet_nil ?_
          intro w3 hw3
          have hg3 := (hg.alloc _).trans (gr_regrown hw3)
          clear hw3 hg f0 f1
          go_wp2_with fail
          go_ret
          exact Ret.mk (by rw [placesB_false hlt (by rw [HOK.out, inP_bad (by simp only [decide_eq_true_eq] at *; omega)]; rfl)]; rfl) hg3
    · go_wp2_with fail
      go_ret
      exact Ret.mk (by rw [placesB_true (fun k hk => HO.out k (by omega))]; rfl) hg
end Go.Proofs.Ytkdplnbdhkckhaa
