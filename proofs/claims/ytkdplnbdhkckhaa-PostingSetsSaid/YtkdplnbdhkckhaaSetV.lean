/-
  The walk of the law PostingSets: it returns true.
-/
import Derived.Test.YtkdplnbdhkckhaaSetZ
import Derived.Test.YtkdplnbdhkckhaaSetS
namespace Go.Proofs.Ytkdplnbdhkckhaa
open Go Go.RowKit Go.Shelf Go.Lib Go.Sort

theorem places_is (xs : List GPlace) (v : Value) (w : World) (h : IsP w v xs) (hl : xs.length ≤ 1000000) : Calls Try.prog 15 #[v] w (Ret w (.bool (placesB xs))) := by
  rcases h with ⟨rfl, rfl⟩ | ⟨b, off, c, rfl, _, hp⟩
  · exact places_t [] 0 0 0 none (by simp) (by simp) w (fun i hi => absurd hi (by simp))
  · exact places_t xs b off c _ (fun _ => rfl) (by omega) w hp
theorem setP_len' (zs : List GPlace) : (setOf beforeB zs).length ≤ zs.length := by
  unfold setOf
  have h1 := squeeze_len (zs.mergeSort fun x y => !beforeB y x)
  rw [List.length_mergeSort] at h1
  exact h1
theorem setI_len' (zs : List Int) : (setOf lessI zs).length ≤ zs.length := by
  unfold setOf
  have h1 := squeeze_len (zs.mergeSort fun x y => !lessI y x)
  rw [List.length_mergeSort] at h1
  exact h1
theorem nearRows_len (far : Int) (xs ys : List GPlace) : (nearRows far xs ys).length ≤ xs.length := by
  unfold nearRows
  rw [List.length_map]
  exact List.length_filter_le _ _
set_option maxRecDepth 100000 in
set_option maxHeartbeats 4000000 in
theorem sets_walk (xs ys : List GPlace) (va vb : Value) (row far : Int) (w : World) (hx : IsP w va xs) (hy : IsP w vb ys) (hxl : xs.length ≤ 9223372036854775807) (hyl : ys.length ≤ 9223372036854775807) :
    Calls Try.prog 4 #[va, vb, .int .i64 row, .int .i64 far] w (Ret w (.bool true)) := by
  have HX := Lib.hid hx
  have HY := Lib.hid hy
  obtain ⟨ao, ca, hva⟩ := hx.form
  obtain ⟨bo, cb, hvb⟩ := hy.form
  clear hx hy
  subst hva hvb
  by_cases hlx : xs.length ≤ 40
  · by_cases hly : ys.length ≤ 40
    · have nlx : ¬ (40 : Int) < (xs.length : Int) := by omega
      have nly : ¬ (40 : Int) < (ys.length : Int) := by omega
      cases hpx : placesB xs
      · have HPX := Lib.hid hpx
        clear hpx
        go_enter Try.func4, Try.ntmps4
        go_wp2_with fail
        refine (places_is xs _ w HX.out (by omega)).mono ?_
        rintro e w2 ⟨rfl, hg2⟩
        rw [HPX.out]
        go_wp2_with fail
        go_ret
        exact Ret.mk rfl hg2
      cases hpy : placesB ys
      · have HPX := Lib.hid hpx
        have HPY := Lib.hid hpy
        clear hpx hpy
        go_enter Try.func4, Try.ntmps4
        go_wp2_with fail
        refine (places_is xs _ w HX.out (by omega)).mono ?_
        rintro e w2 ⟨rfl, hg2⟩
        rw [HPX.out]
        go_wp2_with fail
        refine (places_is ys _ w2 (HY.out.gr hg2) (by omega)).mono ?_
        rintro e w3 ⟨rfl, hg3⟩
        rw [HPY.out]
        go_wp2_with fail
        go_ret
        exact Ret.mk rfl (hg2.trans hg3)
      have HPX := Lib.hid hpx
      have HPY := Lib.hid hpy
      clear hpx hpy
      go_enter Try.func4, Try.ntmps4
      go_wp2_with fail
      refine (places_is xs _ w HX.out (by omega)).mono ?_
      rintro e w2 ⟨rfl, hg2⟩
      rw [HPX.out]
      go_wp2_with fail
      refine (places_is ys _ w2 (HY.out.gr hg2) (by omega)).mono ?_
      rintro e w3 ⟨rfl, hg3⟩
      rw [HPY.out]
      have hgw3 := hg2.trans hg3
      have HX3 := Lib.hid (HX.out.gr hgw3)
      have HY3 := Lib.hid (HY.out.gr hgw3)
      clear hg2 hg3
      go_wp2_with fail
      go_loopw [9, 10] (fun kv iv w' => ∃ i : Nat, i ≤ xs.length ∧ iv = .int .i64 i ∧ OwnP w3 w' kv ((xs.take i).filter fun x => !(x.1 == row)) ∧ Gr w3 w') (fun _ iv _ => xs.length - (intOf iv).toNat)
      case atStart => exact ⟨0, Nat.zero_le _, rfl, World.ownsRow_nil _ _ _ _, Gr.refl _⟩
      case round =>
        obtain ⟨i, hi, rfl, ho, hg⟩ := hrel
        have HO := Lib.hid ho
        have HG := Lib.hid hg
        by_cases hlt : i < xs.length
        · obtain ⟨b, off, rfl, hb, hp⟩ : ∃ b off, ao = some ⟨b, off, none⟩ ∧ b < w3.heap.size ∧ PlacesAt w3 b off xs := by
            rcases HX3.out with ⟨_, e2⟩ | ⟨b, off, c, e, hb, hp⟩
            · rw [e2] at hlt
              exact absurd hlt (by simp)
            · cases e
              exact ⟨b, off, rfl, hb, hp⟩
          have hil : (i : Int) < (xs.length : Int) := by omega
          have c1 := hg.keeps (hp i hlt).1
          have c2 := hg.keeps (hp i hlt).2
          have hnx := filter_next (fun x : GPlace => !(x.1 == row)) xs i hlt
          have hll : ((xs.take i).filter fun x => !(x.1 == row)).length ≤ 1000000 := by
            have := List.length_filter_le (fun x : GPlace => !(x.1 == row)) (xs.take i)
            rw [List.length_take] at this
            omega
          generalize hx : xs[i] = x at *
          obtain ⟨x1, x2⟩ := x
          simp only at c1 c2 hnx
          clear ho hg hp hx
          by_cases he : x1 = row
          · subst he
            have hn2 := hnx.trans (if_neg (by simp))
            have HN := Lib.hid hn2
            clear hnx hn2
            go_wp2_with fail
            exact ⟨⟨i + 1, by omega, by go_num, by rw [HN.out]; exact HO.out, HG.out⟩, by simp [intOf]; omega⟩
          · have hn2 := hnx.trans (if_pos (by simp [he]))
            have HN := Lib.hid hn2
            clear hnx hn2
            go_wp2_with (at_builtin; refine append_place (a0 := w3) rfl _ _ rfl u9 _ (x1, x2) rfl HO.out _ rfl rfl hll HG.out ?_; intro v6 w6 ho6 hg6 hm6)
            exact ⟨⟨i + 1, by omega, by go_num, by rw [HN.out]; exact ho6, hg6⟩, by simp [intOf]; omega⟩
        · have hii : i = xs.length := by omega
          subst hii
          rw [List.take_length] at HO
          have HOUT := Lib.hid HO.out.own.isP
          obtain ⟨oo, oc, rfl⟩ := HOUT.out.form
          have HXr := Lib.hid (HX3.out.gr hg)
          have HYr := Lib.hid (HY3.out.gr hg)
          have HGr := Lib.hid (hgw3.trans hg)
          have hm1 := setP_len' (xs ++ ys)
          rw [List.length_append] at hm1
          have hwa := List.length_filter_le (fun x : GPlace => !(x.1 == row)) xs
          have hfl := List.length_filter_le (fun x => !!aheadW xs x) ys
          have hrl := setI_len' (xs.map (·.1))
          rw [List.length_map] at hrl
          have hnl := setI_len' (nearRows far xs ys)
          have hnl2 := nearRows_len far xs ys
          have HFE := Lib.hid (follow_eq HPX.out HPY.out)
          have HNE := Lib.hid (near_eq HPX.out HPY.out far)
          clear ho hg HO HG HX3 HY3
          generalize hms : setOf beforeB (xs ++ ys) = ms at *
          generalize hws : xs.filter (fun x => !(x.1 == row)) = ws at *
          generalize hfs : ys.filter (fun x => !!aheadW xs x) = fs at *
          generalize hrs : setOf lessI (xs.map (·.1)) = rs at *
          generalize hns : setOf lessI (nearRows far xs ys) = ns at *
          have HMS := Lib.hid hms
          have HWS := Lib.hid hws
          have HFS := Lib.hid hfs
          have HRS := Lib.hid hrs
          have HNS := Lib.hid hns
          clear hms hws hfs hrs hns hgw3
          go_wp2_with fail
          refine (merge_p xs ys _ _ wr HXr.out HYr.out (by omega)).mono ?_
          rintro e w4 ⟨v1, rfl, ho1, hg4⟩
          rw [HMS.out] at ho1
          have HO1 := Lib.hid ho1.isP
          obtain ⟨o1, k1, rfl⟩ := ho1.form
          clear ho1
          go_wp2_with fail
          refine (merge_t xs ys _ _ w4 (HXr.out.gr hg4) (HYr.out.gr hg4) (by omega)).mono ?_
          rintro e w5 ⟨v2, rfl, ho2, hg5⟩
          rw [HMS.out] at ho2
          have HO2 := Lib.hid ho2.isP
          obtain ⟨o2, k2, rfl⟩ := ho2.form
          clear ho2
          go_wp2_with fail
          refine (same_places ms ms _ _ w5 (HO1.out.gr hg5) HO2.out (by omega) (by omega)).mono ?_
          rintro e w6 ⟨rfl, hg6⟩
          rw [decide_eq_true rfl]
          have h6 := (hg4.trans hg5).trans hg6
          clear hg4 hg5 hg6 HO1 HO2
          go_wp2_with fail
          refine (without_p xs _ row w6 (HXr.out.gr h6) (by omega)).mono ?_
          rintro e w7 ⟨v3, rfl, ho3, hg7⟩
          rw [HWS.out] at ho3
          have HO3 := Lib.hid ho3.isP
          obtain ⟨o3, k3, rfl⟩ := ho3.form
          have h7 := h6.trans hg7
          clear ho3 hg7 h6
          go_wp2_with fail
          refine (same_places ws ws _ _ w7 HO3.out (HOUT.out.gr h7) (by omega) (by omega)).mono ?_
          rintro e w8 ⟨rfl, hg8⟩
          rw [decide_eq_true rfl]
          have h8 := h7.trans hg8
          clear hg8 h7 HO3
          go_wp2_with fail
          refine (rows_p xs _ w8 (HXr.out.gr h8) (by omega)).mono ?_
          rintro e w9 ⟨v4, rfl, ho4, hg9⟩
          rw [HRS.out] at ho4
          have HO4 := Lib.hid ho4
          obtain ⟨o4, k4, rfl⟩ := ho4.form
          have h9 := h8.trans hg9
          clear ho4 hg9 h8
          go_wp2_with fail
          refine (rows_t xs _ w9 (HXr.out.gr h9) (by omega)).mono ?_
          rintro e w10 ⟨v5, rfl, ho5, hg10⟩
          rw [HRS.out] at ho5
          have HO5 := Lib.hid ho5
          obtain ⟨o5, k5, rfl⟩ := ho5.form
          clear ho5
          go_wp2_with fail
          refine (same_ints rs rs _ _ _ _ w10 (HO4.out.gr hg10) HO5.out (by omega) (by omega)).mono ?_
          rintro e w11 ⟨rfl, hg11⟩
          rw [decide_eq_true rfl]
          have h11 := (h9.trans hg10).trans hg11
          clear hg10 hg11 h9 HO4 HO5
          go_wp2_with fail
          refine (follow_p xs ys _ _ w11 (HXr.out.gr h11) (HYr.out.gr h11) (by omega) (by omega)).mono ?_
          rintro e w12 ⟨v6, rfl, ho6, hg12⟩
          rw [HFS.out] at ho6
          have HO6 := Lib.hid ho6.isP
          obtain ⟨o6, k6, rfl⟩ := ho6.form
          have h12 := h11.trans hg12
          clear ho6 hg12 h11
          go_wp2_with fail
          refine (follow_t xs ys _ _ w12 (HXr.out.gr h12) (HYr.out.gr h12) (by omega) (by omega)).mono ?_
          rintro e w13 ⟨v7, rfl, ho7, hg13⟩
          rw [HFE.out] at ho7
          have HO7 := Lib.hid ho7.isP
          obtain ⟨o7, k7, rfl⟩ := ho7.form
          clear ho7
          go_wp2_with fail
          refine (same_places fs fs _ _ w13 (HO6.out.gr hg13) HO7.out (by omega) (by omega)).mono ?_
          rintro e w14 ⟨rfl, hg14⟩
          rw [decide_eq_true rfl]
          have h14 := (h12.trans hg13).trans hg14
          clear hg13 hg14 h12 HO6 HO7
          by_cases hf0 : far < 0
          · go_wp2_with fail
            go_ret
            exact Ret.mk rfl (HGr.out.trans h14)
          by_cases hf1 : 2147483648 < far
          · go_wp2_with fail
            go_ret
            exact Ret.mk rfl (HGr.out.trans h14)
          go_wp2_with fail
          all_goals first | omega | skip
          refine (near_p xs ys _ _ far w14 (HXr.out.gr h14) (HYr.out.gr h14) (by omega) (by omega)).mono ?_
          rintro e w15 ⟨v8, rfl, ho8, hg15⟩
          rw [HNS.out] at ho8
          have HO8 := Lib.hid ho8
          obtain ⟨o8, k8, rfl⟩ := ho8.form
          have h15 := h14.trans hg15
          clear ho8 hg15 h14
          go_wp2_with fail
          refine (near_t xs ys _ _ far w15 (HXr.out.gr h15) (HYr.out.gr h15) (by omega) (by omega)).mono ?_
          rintro e w16 ⟨v9, rfl, ho9, hg16⟩
          rw [HNE.out] at ho9
          have HO9 := Lib.hid ho9
          obtain ⟨o9, k9, rfl⟩ := ho9.form
          clear ho9
          go_wp2_with fail
          refine (same_ints ns ns _ _ _ _ w16 (HO8.out.gr hg16) HO9.out (by omega) (by omega)).mono ?_
          rintro e w17 ⟨rfl, hg17⟩
          rw [decide_eq_true rfl]
          have h17 := (h15.trans hg16).trans hg17
          clear hg16 hg17 h15 HO8 HO9
          go_wp2_with fail
          go_ret
          exact Ret.mk rfl (HGr.out.trans h17)
    · have nlx : ¬ (40 : Int) < (xs.length : Int) := by omega
      have nly : (40 : Int) < (ys.length : Int) := by omega
      go_enter Try.func4, Try.ntmps4
      go_wp2_with fail
      go_ret
      exact Ret.mk rfl (Gr.refl _)
  · have nlx : (40 : Int) < (xs.length : Int) := by omega
    go_enter Try.func4, Try.ntmps4
    go_wp2_with fail
    go_ret
    exact Ret.mk rfl (Gr.refl _)
end Go.Proofs.Ytkdplnbdhkckhaa
