/-
  The reference's sorted.
-/
import Derived.Test.YtkdplnbdhkckhaaSetX
namespace Go.Proofs.Ytkdplnbdhkckhaa
open Go Go.RowKit Go.Shelf Go.Lib Go.Sort

set_option maxRecDepth 100000 in
set_option maxHeartbeats 1600000 in
theorem sorted_t (a0 w : World) (v : Value) (zs : List GPlace) (h : OwnR a0 w v zs) (hg : Gr a0 w) (hl : zs.length ≤ 1000000) :
    Calls Try.prog 39 #[v] w fun e w' => ∃ v', e = .returned v' ∧ OwnR a0 w' v' (setOf beforeB zs) ∧ Gr a0 w' := by
  have H := Lib.hid h
  have hga : Gr w (w.alloc (.cells #[v] 22)) := (Gr.refl w).alloc _
  have hso := slice_own a0 (w.alloc (.cells #[v] 22)) w.heap.size v zs (h.gr hga) (hg.trans hga) (by rw [World.cell?_alloc_new]; rfl) hg.size (fun B n c e => by
    rcases h with ⟨rfl, _⟩ | ⟨B', cap, rfl, _, _, h5, _⟩
    · cases e
    · cases e
      omega) hl
  have HSO := Lib.hid hso
  have hcl : (w.alloc (.cells #[v] 22)).cell? ⟨w.heap.size, 0, none⟩ = some v := by rw [World.cell?_alloc_new]; rfl
  obtain ⟨ao, ca, rfl⟩ := h.form
  clear h hso
  go_enter Try.func39, Try.ntmps39
  go_wp2_with fail
  refine HSO.out.mono ?_
  rintro e w1 ⟨rfl, ys, hp, hw, ho, hg1, hb1⟩
  have hlen := hp.length_eq
  generalize hN : zs.length = N at *
  subst hlen
  have HP := Lib.hid hp
  have HW := Lib.hid hw
  have HO := Lib.hid ho
  obtain ⟨LB, hLB⟩ : ∃ LB, w.heap.size = LB := ⟨_, rfl⟩
  rw [hLB] at hb1 ⊢
  have HLB := Lib.hid hLB
  clear hp hw ho H hcl hga hLB HSO
  go_wp2_with fail
  go_loopw [3, 12] (fun kv iv w' => ∃ i : Nat, i ≤ ys.length ∧ iv = .int .i64 i ∧ OwnP w1 w' kv (squeeze (ys.take i)) ∧ Gr w1 w') (fun _ iv _ => ys.length - (intOf iv).toNat)
  case atStart => exact ⟨0, Nat.zero_le _, rfl, World.ownsRow_nil _ _ _ _, Gr.refl _⟩
  case round =>
    obtain ⟨i, hi, rfl, ho, hg2⟩ := hrel
    have HO2 := Lib.hid ho
    have HG2 := Lib.hid hg2
    by_cases hlt : i < ys.length
    · obtain ⟨b, rfl, hb, hp⟩ : ∃ b, ao = some ⟨b, 0, none⟩ ∧ b < w1.heap.size ∧ RowP w1 b ys := by
        rcases HO.out with ⟨_, e2⟩ | ⟨b, c, e, _, _, hb, hp⟩
        · rw [e2] at hlt
          exact absurd hlt (by simp)
        · cases e
          exact ⟨b, rfl, hb, hp⟩
      have hil : (i : Int) < (ys.length : Int) := by omega
      have hcell : ∀ j (hj : j < ys.length), wr.cell? ⟨b, j * 2, none⟩ = some (.int .i64 ys[j].1) ∧ wr.cell? ⟨b, j * 2 + 1, none⟩ = some (.int .i64 ys[j].2) := fun j hj => ⟨hg2.keeps (hp j hj).1.1, hg2.keeps (hp j hj).2.1⟩
      obtain ⟨c1, c2⟩ := hcell i hlt
      have hbx := hg2.keeps hb1
      have hll : (squeeze (ys.take i)).length ≤ 1000000 := by
        have := squeeze_len (ys.take i)
        rw [List.length_take] at this
        omega
      have hga : Gr wr (wr.alloc (.cells #[.int .i64 ys[i].1, .int .i64 ys[i].2] 39)) := (Gr.refl wr).alloc _
      have ho1 : OwnP w1 (wr.alloc (.cells #[.int .i64 ys[i].1, .int .i64 ys[i].2] 39)) u3 (squeeze (ys.take i)) := World.ownsRow.alloc ho _
      have hg3 := hg2.trans hga
      have k1 : (wr.alloc (.cells #[.int .i64 ys[i].1, .int .i64 ys[i].2] 39)).cell? ⟨wr.heap.size, 0, none⟩ = some (.int .i64 ys[i].1) := by
        rw [World.cell?_alloc_new]
        rfl
      have k2 : (wr.alloc (.cells #[.int .i64 ys[i].1, .int .i64 ys[i].2] 39)).cell? ⟨wr.heap.size, 1, none⟩ = some (.int .i64 ys[i].2) := by
        rw [World.cell?_alloc_new]
        rfl
      have hbx3 := hga.keeps hbx
      have hcell3 := fun j hj => (⟨hga.keeps (hcell j hj).1, hga.keeps (hcell j hj).2⟩ : _ ∧ _)
      clear ho hg2
      rcases Nat.eq_zero_or_pos i with rfl | hpos
      · have hnx : squeeze (ys.take (0 + 1)) = squeeze (ys.take 0) ++ [ys[0]] := by
          rw [List.take_succ_eq_append_getElem hlt]
          rfl
        generalize hx : ys[0] = x at *
        obtain ⟨x1, x2⟩ := x
        simp only at c1 c2 k1 k2 hga ho1 hg3 hbx3
        have HN := Lib.hid hnx
        have HO3 := Lib.hid ho1
        have HG3 := Lib.hid hg3
        have K1 := Lib.hid k1
        have K2 := Lib.hid k2
        clear hnx hcell hcell3 hp ho1 hg3 hga hx hbx3 k1 k2
        go_wp2_with fail
        clear c1 c2
        generalize hW : wr.alloc (.cells #[.int .i64 x1, .int .i64 x2] 39) = W1 at *
        refine wp_region_quiet_below (by kernel_rfl) (by kernel_rfl) ?_
        repeat (go_big_quiet_step (fail))
        refine wpQuiet_nil ?_
        intro w5 hw5
        have hg5 := gr_regrown hw5
        have HO5 : Hid (OwnP w1 w5 u3 (squeeze (ys.take 0))) := Lib.hid (ownsRow_gr HO3.out hg5)
        have k15 := hg5.keeps K1.out
        have k25 := hg5.keeps K2.out
        have HG5 := Lib.hid (HG3.out.trans hg5)
        clear hw5 hg5
        go_wp2_with (at_builtin; refine append_place (a0 := w1) rfl _ _ rfl u3 _ (x1, x2) rfl HO5.out _ rfl rfl hll HG5.out ?_; intro v6 w6 ho6 hg6 hm6)
        exact ⟨⟨1, by omega, by go_num, by rw [show (1 : Nat) = 0 + 1 from rfl, HN.out]; exact ho6, hg6⟩, by simp [intOf]; omega⟩
      · obtain ⟨m, rfl⟩ : ∃ m, i = m + 1 := ⟨i - 1, by omega⟩
        obtain ⟨d1, d2⟩ := hcell3 m (by omega)
        have hnx := squeeze_next ys (m + 1) (by omega) hlt
        simp only [Nat.add_sub_cancel] at hnx
        have hm0 : (m : Int) < (ys.length : Int) := by omega
        have hz : ((m : Int) + 1 == 0) = false := by
          rw [beq_eq_false_iff_ne]
          omega
        generalize hx : ys[m + 1] = x at *
        generalize hy : ys[m]'(by omega) = y at *
        obtain ⟨x1, x2⟩ := x
        obtain ⟨y1, y2⟩ := y
        simp only at c1 c2 k1 k2 hga ho1 hg3 hbx3 d1 d2
        have HO3 := Lib.hid ho1
        have HG3 := Lib.hid hg3
        have K1 := Lib.hid k1
        have K2 := Lib.hid k2
        have D1 := Lib.hid d1
        have D2 := Lib.hid d2
        have BX := Lib.hid hbx3
        clear hcell hcell3 hp ho1 hg3 hga hx hy hbx3 k1 k2 d1 d2 hbx
        by_cases he : (x1, x2) = (y1, y2)
        · have hn2 := hnx.trans (if_pos he)
          injection he with e1 e2
          subst e1 e2
          have hq : ∀ W, (Op.equalIn 10000 39 (.agg #[.int .i64 x1, .int .i64 x2]) (.agg #[.int .i64 x1, .int .i64 x2])).run Try.prog W = .ok true W := fun W => by
            rw [equalIn_place]
            simp
          have HN := Lib.hid hn2
          clear hnx hn2
          go_wp2_with fail
          clear c1 c2
          generalize hW : wr.alloc (.cells #[.int .i64 x1, .int .i64 x2] 39) = W1 at *
          have f0 := fun d os => cell_regrown BX.out d os
          have f1 := fun d os => cell_regrown K1.out d os
          have f2 := fun d os => cell_regrown K2.out d os
          have f3 := fun d os => cell_regrown D1.out d os
          have f4 := fun d os => cell_regrown D2.out d os
          refine wp_region_quiet_below (by kernel_rfl) (by kernel_rfl) ?_
          repeat (go_big_quiet_step (fail))
          refine wpQuiet_nil ?_
          intro w5 hw5
          have hg5 := gr_regrown hw5
          have HO5 : Hid (OwnP w1 w5 u3 (squeeze (ys.take (m + 1)))) := Lib.hid (ownsRow_gr HO3.out hg5)
          have HG5 := Lib.hid (HG3.out.trans hg5)
          clear hw5 hg5 f0 f1 f2 f3 f4
          go_wp2_with fail
          exact ⟨⟨m + 2, by omega, by go_num, by rw [show m + 2 = m + 1 + 1 from rfl, HN.out]; exact HO5.out, HG5.out⟩, by simp [intOf]; omega⟩
        · have hn2 := hnx.trans (if_neg he)
          have hq : ∀ W, (Op.equalIn 10000 39 (.agg #[.int .i64 y1, .int .i64 y2]) (.agg #[.int .i64 x1, .int .i64 x2])).run Try.prog W = .ok false W := fun W => by
            rw [equalIn_place, show (y1 == x1 && y2 == x2) = false from by
              rw [Bool.eq_false_iff]
              intro h
              simp only [Bool.and_eq_true, beq_iff_eq] at h
              exact he (by rw [h.1, h.2])]
          have HN := Lib.hid hn2
          clear hnx hn2 he
          go_wp2_with fail
          clear c1 c2
          generalize hW : wr.alloc (.cells #[.int .i64 x1, .int .i64 x2] 39) = W1 at *
          have f0 := fun d os => cell_regrown BX.out d os
          have f1 := fun d os => cell_regrown K1.out d os
          have f2 := fun d os => cell_regrown K2.out d os
          have f3 := fun d os => cell_regrown D1.out d os
          have f4 := fun d os => cell_regrown D2.out d os
          refine wp_region_quiet_below (by kernel_rfl) (by kernel_rfl) ?_
          repeat (go_big_quiet_step (fail))
          refine wpQuiet_nil ?_
          intro w5 hw5
          have hg5 := gr_regrown hw5
          have HO5 : Hid (OwnP w1 w5 u3 (squeeze (ys.take (m + 1)))) := Lib.hid (ownsRow_gr HO3.out hg5)
          have k15 := hg5.keeps K1.out
          have k25 := hg5.keeps K2.out
          have HG5 := Lib.hid (HG3.out.trans hg5)
          clear hw5 hg5 f0 f1 f2 f3 f4
          go_wp2_with (at_builtin; refine append_place (a0 := w1) rfl _ _ rfl u3 _ (x1, x2) rfl HO5.out _ rfl rfl hll HG5.out ?_; intro v6 w6 ho6 hg6 hm6)
          exact ⟨⟨m + 2, by omega, by go_num, by rw [show m + 2 = m + 1 + 1 from rfl, HN.out]; exact ho6, hg6⟩, by simp [intOf]; omega⟩
    · have hii : i = ys.length := by omega
      subst hii
      rw [List.take_length] at HO2
      have hs : squeeze ys = setOf beforeB zs := squeeze_set parts_place HW.out (fun x => HP.out.mem_iff)
      rw [hs] at HO2
      have HS := Lib.hid hs
      have HO3 := Lib.hid (HO2.out.own.back hg1)
      have HG3 := Lib.hid (hg1.trans hg2)
      obtain ⟨uo, uc, rfl⟩ := HO3.out.form
      clear ho hg2 hs
      obtain ⟨n3, hn3⟩ : ∃ n, n = (setOf beforeB zs).length := ⟨_, rfl⟩
      have HN3 := Lib.hid hn3
      rw [← hn3]
      clear hn3
      go_wp2_with fail
      go_ret
      refine ⟨_, rfl, ?_, HG3.out⟩
      have := HO3.out
      rw [← HN3.out] at this
      exact this
end Go.Proofs.Ytkdplnbdhkckhaa
