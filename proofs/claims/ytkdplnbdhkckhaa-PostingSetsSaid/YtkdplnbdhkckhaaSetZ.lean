/-
  The reference's Merge and Follow.
-/
import Derived.Test.YtkdplnbdhkckhaaSetY
import Derived.Test.YtkdplnbdhkckhaaSetQ
namespace Go.Proofs.Ytkdplnbdhkckhaa
open Go Go.RowKit Go.Shelf Go.Lib Go.Sort

set_option maxRecDepth 100000 in
set_option maxHeartbeats 1600000 in
theorem merge_t (xs ys : List GPlace) (va vb : Value) (w : World) (hx : IsP w va xs) (hy : IsP w vb ys) (hl : xs.length + ys.length ≤ 1000000) :
    Calls Try.prog 17 #[va, vb] w fun e w' => ∃ v, e = .returned v ∧ OwnR w w' v (setOf beforeB (xs ++ ys)) ∧ Gr w w' := by
  have HX := Lib.hid hx
  have HY := Lib.hid hy
  obtain ⟨ao, ca, rfl⟩ := hx.form
  obtain ⟨bo, cb, rfl⟩ := hy.form
  clear hx hy
  have hga : Gr w (w.alloc (.cells #[] 39)) := (Gr.refl w).alloc _
  have h0 : OwnP w (w.alloc (.cells #[] 39)) (.slice (some ⟨w.heap.size, 0, none⟩) 0 0) [] := World.ownsRow_lit w #[] 0 (Nat.le_refl _) (by decide) rfl
  have H0 := Lib.hid h0
  have HGA := Lib.hid hga
  have hl1 : ([] : List GPlace).length + xs.length ≤ 1000000 := by simp; omega
  have hl2 : ([] ++ xs).length + ys.length ≤ 1000000 := by simpa using hl
  have hl3 : ([] ++ xs ++ ys).length ≤ 1000000 := by simpa using hl
  clear h0 hga
  go_enter Try.func17, Try.ntmps17
  go_wp2_with (at_builtin; first | (refine append_places (a0 := w) rfl _ _ rfl _ [] rfl H0.out _ xs rfl (HX.out.gr HGA.out) hl1 HGA.out ?_; intro v3 w3 ho3 hg3; have HO3 := Lib.hid ho3; have HG3 := Lib.hid hg3; clear ho3 hg3) | (refine append_places (a0 := w) rfl _ _ rfl _ ([] ++ xs) rfl HO3.out _ ys rfl (HY.out.gr HG3.out) hl2 HG3.out ?_; intro v4 w4 ho4 hg4; have HO4 := Lib.hid ho4; have HG4 := Lib.hid hg4; clear ho4 hg4))
  refine (sorted_t w w4 _ _ HO4.out.own HG4.out hl3).mono ?_
  rintro e w5 ⟨v5, rfl, ho5, hg5⟩
  rw [List.nil_append] at ho5
  have HO5 := Lib.hid ho5
  clear ho5
  go_wp2_with fail
  go_ret
  exact ⟨_, rfl, HO5.out, hg5⟩
theorem followOut1_len (xs : List GPlace) (q : GPlace) : (followOut1 xs q).length ≤ xs.length := by
  unfold followOut1
  rw [List.length_map]
  exact List.length_filter_le _ _
theorem followOut_len (xs : List GPlace) : ∀ ys : List GPlace, (followOut xs ys).length ≤ ys.length * xs.length
  | [] => by simp [followOut]
  | q :: ys => by
    have ih := followOut_len xs ys
    have h1 := followOut1_len xs q
    unfold followOut at *
    rw [List.flatMap_cons, List.length_append, List.length_cons, Nat.add_mul]
    omega
theorem followOut_next (xs ys : List GPlace) (i : Nat) (h : i < ys.length) : followOut xs (ys.take (i + 1)) = followOut xs (ys.take i) ++ followOut1 xs ys[i] := by
  unfold followOut
  rw [List.take_succ_eq_append_getElem h, List.flatMap_append]
  simp
theorem followOut1_next (xs : List GPlace) (q : GPlace) (j : Nat) (h : j < xs.length) : followOut1 (xs.take (j + 1)) q = if followT xs[j] q then followOut1 (xs.take j) q ++ [q] else followOut1 (xs.take j) q := by
  unfold followOut1
  rw [filter_next _ _ _ h]
  split
  · rw [List.map_append]
    rfl
  · rfl
set_option maxRecDepth 100000 in
set_option maxHeartbeats 1600000 in
theorem follow_t (xs ys : List GPlace) (va vb : Value) (w : World) (hx : IsP w va xs) (hy : IsP w vb ys) (hl : xs.length ≤ 1000) (hly : ys.length ≤ 1000) :
    Calls Try.prog 20 #[va, vb] w fun e w' => ∃ v', e = .returned v' ∧ OwnR w w' v' (setOf beforeB (followOut xs ys)) ∧ Gr w w' := by
  have HX := Lib.hid hx
  have HY := Lib.hid hy
  obtain ⟨ao, ca, rfl⟩ := hx.form
  obtain ⟨bo, cb, rfl⟩ := hy.form
  clear hx hy
  go_enter Try.func20, Try.ntmps20
  go_wp2_with fail
  go_loopw [5, 12] (fun kv iv w' => ∃ i : Nat, i ≤ ys.length ∧ iv = .int .i64 i ∧ OwnP w w' kv (followOut xs (ys.take i)) ∧ Gr w w') (fun _ iv _ => ys.length - (intOf iv).toNat)
  case atStart => exact ⟨0, Nat.zero_le _, rfl, World.ownsRow_nil _ _ _ _, Gr.refl _⟩
  case round =>
    obtain ⟨i, hi, rfl, ho, hg⟩ := hrel
    have HO := Lib.hid ho
    have HG := Lib.hid hg
    by_cases hlt : i < ys.length
    · obtain ⟨b, off, rfl, hb, hp⟩ : ∃ b off, bo = some ⟨b, off, none⟩ ∧ b < w.heap.size ∧ PlacesAt w b off ys := by
        rcases HY.out with ⟨_, e2⟩ | ⟨b, off, c, e, hb, hp⟩
        · rw [e2] at hlt
          exact absurd hlt (by simp)
        · cases e
          exact ⟨b, off, rfl, hb, hp⟩
      have hil : (i : Int) < (ys.length : Int) := by omega
      have c1 := hg.keeps (hp i hlt).1
      have c2 := hg.keeps (hp i hlt).2
      have hnx := followOut_next xs ys i hlt
      have hln := followOut_len xs (ys.take i)
      have hln2 : (followOut xs (ys.take i)).length ≤ 999 * 1000 := Nat.le_trans hln (Nat.mul_le_mul (by rw [List.length_take]; omega) hl)
      generalize hx : ys[i] = x at *
      obtain ⟨x1, x2⟩ := x
      simp only at c1 c2
      have HN := Lib.hid hnx
      have hg1 := hg.alloc (.cells #[.int .i64 x1, .int .i64 x2] 39)
      have k1 : (wr.alloc (.cells #[.int .i64 x1, .int .i64 x2] 39)).cell? ⟨wr.heap.size, 0, none⟩ = some (.int .i64 x1) := by
        rw [World.cell?_alloc_new]
        rfl
      have k2 : (wr.alloc (.cells #[.int .i64 x1, .int .i64 x2] 39)).cell? ⟨wr.heap.size, 1, none⟩ = some (.int .i64 x2) := by
        rw [World.cell?_alloc_new]
        rfl
      have hnk : u5.ownBlock ≠ some wr.heap.size := fun e => by
        have := ownBlock_lt ho _ e
        omega
      have ho1 : OwnP w (wr.alloc (.cells #[.int .i64 x1, .int .i64 x2] 39)) u5 (followOut xs (ys.take i)) := World.ownsRow.alloc ho _
      have hks : wr.heap.size < (wr.alloc (.cells #[.int .i64 x1, .int .i64 x2] 39)).heap.size := by simp
      have HI : Hid (wr.heap.size < (wr.alloc (.cells #[.int .i64 x1, .int .i64 x2] 39)).heap.size ∧ u5.ownBlock ≠ some wr.heap.size ∧ OwnP w (wr.alloc (.cells #[.int .i64 x1, .int .i64 x2] 39)) u5 (followOut xs (ys.take i)) ∧ Gr w (wr.alloc (.cells #[.int .i64 x1, .int .i64 x2] 39)) ∧ (wr.alloc (.cells #[.int .i64 x1, .int .i64 x2] 39)).cell? ⟨wr.heap.size, 0, none⟩ = some (.int .i64 x1) ∧ (wr.alloc (.cells #[.int .i64 x1, .int .i64 x2] 39)).cell? ⟨wr.heap.size, 1, none⟩ = some (.int .i64 x2)) := Lib.hid ⟨hks, hnk, ho1, hg1, k1, k2⟩
      clear ho hg hnx hg1 k1 k2 hp hx hnk ho1 hks
      go_wp2_with fail
      have hA : ∃ A, Hid (A = followOut xs (ys.take i)) := ⟨_, Lib.hid rfl⟩
      obtain ⟨A, HA⟩ := hA
      rw [← HA.out] at HI HN hln2
      obtain ⟨kp, HKP⟩ : ∃ kp, Hid (kp = wr.heap.size) := ⟨_, Lib.hid rfl⟩
      rw [← HKP.out] at HI ⊢
      obtain ⟨w1, HW1⟩ : ∃ w1, Hid (w1 = wr.alloc (.cells #[.int .i64 x1, .int .i64 x2] 39)) := ⟨_, Lib.hid rfl⟩
      rw [← HW1.out] at HI ⊢
      go_loopw [5, 18] (fun kv jv w' => ∃ j : Nat, j ≤ xs.length ∧ jv = .int .i64 j ∧ OwnP w w' kv (A ++ followOut1 (xs.take j) (x1, x2)) ∧ Gr w w' ∧ kp < w'.heap.size ∧ kv.ownBlock ≠ some kp ∧ w'.cell? ⟨kp, 0, none⟩ = some (.int .i64 x1) ∧ w'.cell? ⟨kp, 1, none⟩ = some (.int .i64 x2)) (fun _ jv _ => xs.length - (intOf jv).toNat)
      case atStart =>
        obtain ⟨h1, h2, h3, h4, h5, h6⟩ := HI.out
        exact ⟨0, Nat.zero_le _, rfl, by simpa [followOut1] using h3, h4, h1, h2, h5, h6⟩
      case round =>
        obtain ⟨j, hj, rfl, ho, hg, hk, hnk, k1, k2⟩ := hrel
        have HO2 := Lib.hid ho
        have HG2 := Lib.hid hg
        have HNK := Lib.hid hnk
        clear hnk
        by_cases hltj : j < xs.length
        · obtain ⟨b2, off2, rfl, hb2, hp2⟩ : ∃ b2 off2, ao = some ⟨b2, off2, none⟩ ∧ b2 < w.heap.size ∧ PlacesAt w b2 off2 xs := by
            rcases HX.out with ⟨_, e2⟩ | ⟨b, off, c, e, hb, hp⟩
            · rw [e2] at hltj
              exact absurd hltj (by simp)
            · cases e
              exact ⟨b, off, rfl, hb, hp⟩
          have hjl : (j : Int) < (xs.length : Int) := by omega
          have d1 := hg.keeps (hp2 j hltj).1
          have d2 := hg.keeps (hp2 j hltj).2
          have hnx2 := followOut1_next xs (x1, x2) j hltj
          have hln3 := followOut1_len (xs.take j) (x1, x2)
          have hll : (A ++ followOut1 (xs.take j) (x1, x2)).length ≤ 1000000 := by
            rw [List.length_append]
            rw [List.length_take] at hln3
            omega
          generalize hy : xs[j] = y at *
          obtain ⟨y1, y2⟩ := y
          simp only at d1 d2
          have HN2 := Lib.hid hnx2
          clear hnx2 hln3 hp2 hy
          have k1' := fun o => (Gr.alloc (Gr.refl wr) o).keeps k1
          have k2' := fun o => (Gr.alloc (Gr.refl wr) o).keeps k2
          have HO3 : Hid (OwnP w (wr.alloc (.cells #[.int .i64 y1, .int .i64 y2] 39)) u5 (A ++ followOut1 (xs.take j) (x1, x2))) := Lib.hid (World.ownsRow.alloc ho _)
          have HG3 := Lib.hid (hg.alloc (.cells #[.int .i64 y1, .int .i64 y2] 39))
          have hkb : kp < (wr.alloc (.cells #[.int .i64 y1, .int .i64 y2] 39)).heap.size := by
            simp
            omega
          have HKB := Lib.hid hkb
          clear ho hg hkb
          have hnt : followT (y1, y2) (x1, x2) = (y1 == x1 && decide (x2 = IntKind.i64.wrap (y2 + 1))) := rfl
          obtain ⟨dd, hdd⟩ : ∃ dd, IntKind.i64.wrap (y2 + 1) = dd := ⟨_, rfl⟩
          rw [hdd] at hnt
          by_cases hnear : y1 = x1 ∧ x2 = dd
          · have hn1 : followT (y1, y2) (x1, x2) = true := by
              rw [hnt]
              simp [hnear.1, hnear.2]
            rw [hn1] at HN2
            obtain ⟨e1, e2⟩ := hnear
            subst e1 e2
            clear hnt hn1
            go_wp2_with (at_builtin; refine append_place (a0 := w) rfl _ _ rfl u5 _ (y1, x2) rfl HO3.out _ (by simp) rfl hll HG3.out ?_; intro v4 w4 ho4 hg4 hm4)
            exact ⟨⟨j + 1, by omega, by go_num, by rw [HN2.out, if_pos rfl, ← List.append_assoc]; exact ho4, hg4, by have := hm4.1; have := HKB.out; omega, (hm4.2 kp HKB.out HNK.out).1, hm4.keeps HNK.out (k1' _), hm4.keeps HNK.out (k2' _)⟩, by simp [intOf]; omega⟩
          · have hn1 : followT (y1, y2) (x1, x2) = false := by
              rw [hnt]
              rw [Bool.eq_false_iff]
              intro h
              simp only [Bool.and_eq_true, beq_iff_eq, decide_eq_true_eq] at h
              exact hnear h
            rw [hn1] at HN2
            clear hnt hn1
            by_cases he1 : y1 = x1
            · subst he1
              have he2 : ¬ x2 = dd := fun e => hnear ⟨rfl, e⟩
              go_wp2_with fail
              exact ⟨⟨j + 1, by omega, by go_num, by rw [HN2.out, if_neg (by simp)]; exact HO3.out, HG3.out, HKB.out, HNK.out, k1' _, k2' _⟩, by simp [intOf]; omega⟩
            · go_wp2_with fail
              exact ⟨⟨j + 1, by omega, by go_num, by rw [HN2.out, if_neg (by simp)]; exact HO3.out, HG3.out, HKB.out, HNK.out, k1' _, k2' _⟩, by simp [intOf]; omega⟩
        · have hjj : j = xs.length := by omega
          subst hjj
          rw [List.take_length] at HO2
          go_wp2_with fail
          go_roundw
          case measure =>
            simp [intOf]
            omega
          case rel =>
            exact ⟨i + 1, by omega, by go_num, by rw [HN.out]; exact HO2.out, HG2.out⟩
    · have hii : i = ys.length := by omega
      subst hii
      rw [List.take_length] at HO
      obtain ⟨L, HL⟩ : ∃ L, Hid (L = followOut xs ys) := ⟨_, Lib.hid rfl⟩
      have hoi : OwnR w wr u5 L := by
        rw [HL.out]
        exact HO.out.own
      have hln : L.length ≤ 1000000 := by
        rw [HL.out]
        exact Nat.le_trans (followOut_len xs ys) (Nat.mul_le_mul hly hl)
      have HOI := Lib.hid hoi
      obtain ⟨uo, uc, rfl⟩ := hoi.form
      clear ho hg hoi HO
      go_wp2_with fail
      refine (sorted_t w wr _ L HOI.out HG.out hln).mono ?_
      rintro e w2 ⟨v2, rfl, ho2, hg2⟩
      rw [HL.out] at ho2
      have HO2 := Lib.hid ho2
      clear ho2
      go_wp2_with fail
      go_ret
      exact ⟨_, rfl, HO2.out, hg2⟩
end Go.Proofs.Ytkdplnbdhkckhaa
