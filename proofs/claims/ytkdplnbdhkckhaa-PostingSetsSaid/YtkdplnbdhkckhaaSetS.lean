/-
  The law's samePlaces and sameInts.
-/
import Derived.Test.YtkdplnbdhkckhaaSetJ
namespace Go.Proofs.Ytkdplnbdhkckhaa
open Go Go.RowKit Go.Shelf Go.Lib Go.Sort

theorem IsP.at {w : World} {v : Value} {xs : List GPlace} (h : IsP w v xs) {i : Nat} (hi : i < xs.length) : ∃ b off c, v = .slice (some ⟨b, off, none⟩) xs.length c ∧ b < w.heap.size ∧ PlacesAt w b off xs := by
  rcases h with ⟨_, e2⟩ | h
  · rw [e2] at hi
    exact absurd hi (by simp)
  · exact h
set_option maxRecDepth 100000 in
set_option maxHeartbeats 1600000 in
theorem same_places (xs ys : List GPlace) (va vb : Value) (w : World) (hx : IsP w va xs) (hy : IsP w vb ys) (hl : xs.length ≤ 1000000) (hly : ys.length ≤ 1000000) :
    Calls Try.prog 16 #[va, vb] w (Ret w (.bool (decide (xs = ys)))) := by
  have HX := Lib.hid hx
  have HY := Lib.hid hy
  obtain ⟨ao, ca, rfl⟩ := hx.form
  obtain ⟨bo, cb, rfl⟩ := hy.form
  clear hx hy
  by_cases hlen : xs.length = ys.length
  · generalize hN : xs.length = n at *
    subst hlen
    have HN := Lib.hid hN
    go_enter Try.func16, Try.ntmps16
    clear hN
    go_wp2_with fail
    go_loopw [5] (fun kv w' => ∃ i : Nat, i ≤ ys.length ∧ kv = .int .i64 i ∧ xs.take i = ys.take i ∧ Gr w w') (fun kv _ => ys.length - (intOf kv).toNat)
    case atStart => exact ⟨0, Nat.zero_le _, rfl, rfl, Gr.refl _⟩
    case round =>
      obtain ⟨i, hi, rfl, ht, hg⟩ := hrel
      by_cases hlt : i < ys.length
      · have hltx : i < xs.length := by rw [HN.out]; exact hlt
        obtain ⟨b, off, rfl, hb, hp⟩ : ∃ b off, ao = some ⟨b, off, none⟩ ∧ b < w.heap.size ∧ PlacesAt w b off xs := by
          rcases HX.out with ⟨_, e2⟩ | ⟨b, off, c, e, hb, hp⟩
          · rw [e2] at hltx
            exact absurd hltx (by simp)
          · simp only [Value.slice.injEq] at e
            exact ⟨b, off, e.1, hb, hp⟩
        obtain ⟨b', off', rfl, hb', hp'⟩ : ∃ b off, bo = some ⟨b, off, none⟩ ∧ b < w.heap.size ∧ PlacesAt w b off ys := by
          rcases HY.out with ⟨_, e2⟩ | ⟨b, off, c, e, hb, hp⟩
          · rw [e2] at hlt
            exact absurd hlt (by simp)
          · simp only [Value.slice.injEq] at e
            exact ⟨b, off, e.1, hb, hp⟩
        have hil : (i : Int) < (ys.length : Int) := by omega
        have f1 := fun d os => cell_regrown (hg.keeps (hp i hltx).1) d os
        have f2 := fun d os => cell_regrown (hg.keeps (hp i hltx).2) d os
        have f3 := fun d os => cell_regrown (hg.keeps (hp' i hlt).1) d os
        have f4 := fun d os => cell_regrown (hg.keeps (hp' i hlt).2) d os
        have hnx := List.take_succ_eq_append_getElem hltx
        have hny := List.take_succ_eq_append_getElem hlt
        generalize hx : xs[i] = x at *
        generalize hy : ys[i] = y at *
        by_cases he : x = y
        · subst he
          obtain ⟨x1, x2⟩ := x
          simp only at f1 f2 f3 f4
          have hq : ∀ W, (Op.equalIn 10000 39 (.agg #[.int .i64 x1, .int .i64 x2]) (.agg #[.int .i64 x1, .int .i64 x2])).run Try.prog W = .ok true W := fun W => by
            rw [equalIn_place]
            simp
          have ht2 := Lib.hid (hnx.trans ((congrArg (· ++ [(x1, x2)]) ht).trans hny.symm))
          clear hx hy hp hp' hnx hny ht
          go_wp2_with fail
          refine wp_region_quiet_below (by kernel_rfl) (by kernel_rfl) ?_
          repeat (go_big_quiet_step (fail))
          refine wpQuiet_nil ?_
          intro w3 hw3
          have hg3 := hg.trans (gr_regrown hw3)
          clear hw3 f1 f2 f3 f4
          go_wp2_with fail
          exact ⟨⟨i + 1, by omega, by go_num, ht2.out, hg3⟩, by simp [intOf]; omega⟩
        · have hd : decide (xs = ys) = false := by
            rw [decide_eq_false_iff_not]
            intro e
            subst e
            exact he (hx.symm.trans hy)
          obtain ⟨x1, x2⟩ := x
          obtain ⟨y1, y2⟩ := y
          simp only at f1 f2 f3 f4
          have hq : ∀ W, (Op.equalIn 10000 39 (.agg #[.int .i64 x1, .int .i64 x2]) (.agg #[.int .i64 y1, .int .i64 y2])).run Try.prog W = .ok false W := fun W => by
            rw [equalIn_place, show (x1 == y1 && x2 == y2) = false from by
              rw [Bool.eq_false_iff]
              intro h
              simp only [Bool.and_eq_true, beq_iff_eq] at h
              exact he (by rw [h.1, h.2])]
          clear hx hy hp hp' hnx hny ht
          go_wp2_with fail
          refine wp_region_quiet_below (by kernel_rfl) (by kernel_rfl) ?_
          repeat (go_big_quiet_step (fail))
          refine wpQuiet_nil ?_
          intro w3 hw3
          have hg3 := hg.trans (gr_regrown hw3)
          clear hw3 f1 f2 f3 f4
          go_wp2_with fail
          go_ret
          exact Ret.mk (by rw [hd]; rfl) hg3
      · have hd : decide (xs = ys) = true := by
          have hii : i = ys.length := by omega
          subst hii
          rw [List.take_length, List.take_of_length_le (by rw [HN.out]; exact Nat.le_refl _)] at ht
          simpa using ht
        clear ht
        go_wp2_with fail
        go_ret
        exact Ret.mk (by rw [hd]; rfl) hg
  · have hne : ¬ (xs.length : Int) = (ys.length : Int) := by omega
    have hd : decide (xs = ys) = false := by
      rw [decide_eq_false_iff_not]
      intro e
      exact hlen (by rw [e])
    rw [hd]
    go_enter Try.func16, Try.ntmps16
    go_wp2_with fail
    go_ret
    exact Ret.mk rfl (Gr.refl _)
set_option maxRecDepth 100000 in
set_option maxHeartbeats 1600000 in
theorem same_ints (xs ys : List Int) (va vb : Value) (a0 b0 w : World) (hx : OwnI a0 w va xs) (hy : OwnI b0 w vb ys) (hl : xs.length ≤ 1000000) (hly : ys.length ≤ 1000000) :
    Calls Try.prog 18 #[va, vb] w (Ret w (.bool (decide (xs = ys)))) := by
  have HX := Lib.hid hx
  have HY := Lib.hid hy
  obtain ⟨ao, ca, rfl⟩ := hx.form
  obtain ⟨bo, cb, rfl⟩ := hy.form
  clear hx hy
  by_cases hlen : xs.length = ys.length
  · generalize hN : xs.length = n at *
    subst hlen
    have HN := Lib.hid hN
    go_enter Try.func18, Try.ntmps18
    clear hN
    go_wp2_with fail
    go_loopw [5] (fun kv w' => ∃ i : Nat, i ≤ ys.length ∧ kv = .int .i64 i ∧ xs.take i = ys.take i ∧ Gr w w') (fun kv _ => ys.length - (intOf kv).toNat)
    case atStart => exact ⟨0, Nat.zero_le _, rfl, rfl, Gr.refl _⟩
    case round =>
      obtain ⟨i, hi, rfl, ht, hg⟩ := hrel
      by_cases hlt : i < ys.length
      · have hltx : i < xs.length := by rw [HN.out]; exact hlt
        obtain ⟨b, rfl, hb, hp⟩ : ∃ b, ao = some ⟨b, 0, none⟩ ∧ b < w.heap.size ∧ Holds (Value.int .i64) w b 0 xs.toArray := by
          rcases HX.out with ⟨_, e2⟩ | ⟨b, c, e, _, _, hb, hp⟩
          · rw [e2] at hltx
            exact absurd hltx (by simp)
          · simp only [Value.slice.injEq] at e
            exact ⟨b, e.1, hb, hp⟩
        obtain ⟨b', rfl, hb', hp'⟩ : ∃ b, bo = some ⟨b, 0, none⟩ ∧ b < w.heap.size ∧ Holds (Value.int .i64) w b 0 ys.toArray := by
          rcases HY.out with ⟨_, e2⟩ | ⟨b, c, e, _, _, hb, hp⟩
          · rw [e2] at hlt
            exact absurd hlt (by simp)
          · simp only [Value.slice.injEq] at e
            exact ⟨b, e.1, hb, hp⟩
        have hil : (i : Int) < (ys.length : Int) := by omega
        have g1 : wr.cell? ⟨b, i, none⟩ = some (.int .i64 xs[i]) := by
          have := hg.keeps (hp i (by simpa using hltx)).1
          rw [Nat.zero_add] at this
          simpa [hltx] using this
        have g2 : wr.cell? ⟨b', i, none⟩ = some (.int .i64 ys[i]) := by
          have := hg.keeps (hp' i (by simpa using hlt)).1
          rw [Nat.zero_add] at this
          simpa [hlt] using this
        have hnx := List.take_succ_eq_append_getElem hltx
        have hny := List.take_succ_eq_append_getElem hlt
        have hd : xs[i] ≠ ys[i] → decide (xs = ys) = false := fun h => by
          rw [decide_eq_false_iff_not]
          intro e
          subst e
          exact h rfl
        have HD := Lib.hid hd
        clear hd
        generalize hx : xs[i] = x at *
        generalize hy : ys[i] = y at *
        by_cases he : x = y
        · subst he
          have ht2 := Lib.hid (hnx.trans ((congrArg (· ++ [x]) ht).trans hny.symm))
          have f1 := fun d os => cell_regrown g1 d os
          have f2 := fun d os => cell_regrown g2 d os
          clear hx hy hp hp' hnx hny ht HD
          go_wp2_with fail
          refine wp_region_quiet_below (by kernel_rfl) (by kernel_rfl) ?_
          repeat (go_big_quiet_step (fail))
          refine wpQuiet_nil ?_
          intro w3 hw3
          have hg3 := hg.trans (gr_regrown hw3)
          clear hw3 f1 f2 g1 g2
          go_wp2_with fail
          exact ⟨⟨i + 1, by omega, by go_num, ht2.out, hg3⟩, by simp [intOf]; omega⟩
        · have hd := HD.out he
          have f1 := fun d os => cell_regrown g1 d os
          have f2 := fun d os => cell_regrown g2 d os
          clear hx hy hp hp' hnx hny ht
          go_wp2_with fail
          refine wp_region_quiet_below (by kernel_rfl) (by kernel_rfl) ?_
          repeat (go_big_quiet_step (fail))
          refine wpQuiet_nil ?_
          intro w3 hw3
          have hg3 := hg.trans (gr_regrown hw3)
          clear hw3 f1 f2 g1 g2
          go_wp2_with fail
          go_ret
          exact Ret.mk (by rw [hd]; rfl) hg3
      · have hd : decide (xs = ys) = true := by
          have hii : i = ys.length := by omega
          subst hii
          rw [List.take_length, List.take_of_length_le (by rw [HN.out]; exact Nat.le_refl _)] at ht
          simpa using ht
        clear ht
        go_wp2_with fail
        go_ret
        exact Ret.mk (by rw [hd]; rfl) hg
  · have hne : ¬ (xs.length : Int) = (ys.length : Int) := by omega
    have hd : decide (xs = ys) = false := by
      rw [decide_eq_false_iff_not]
      intro e
      exact hlen (by rw [e])
    rw [hd]
    go_enter Try.func18, Try.ntmps18
    go_wp2_with fail
    go_ret
    exact Ret.mk rfl (Gr.refl _)
end Go.Proofs.Ytkdplnbdhkckhaa
