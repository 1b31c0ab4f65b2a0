/-
  The walk of the law PostingBack: it returns true.
-/
import Derived.Test.YtpgnjjagjlggkaaBackP
import Derived.Test.YtpgnjjagjlggkaaBackL
import Derived.Test.YtpgnjjagjlggkaaBackM
namespace Go.Proofs.Ytpgnjjagjlggkaa
open Go Go.RowKit Go.Shelf Go.Lib Go.Sort

theorem right_is (xs : List GPlace) (v : Value) (w : World) (h : IsP w v xs) (hl : xs.length ≤ 1000000) : Calls Try.prog 15 #[v] w (Ret w (.bool (placesB xs))) := by
  rcases h with ⟨rfl, rfl⟩ | ⟨b, off, c, rfl, _, hp⟩
  · exact right_p [] 0 0 0 none (by simp) (by simp) w (fun i hi => absurd hi (by simp))
  · exact right_p xs b off c _ (fun _ => rfl) (by omega) w hp
theorem write_is (xs : List GPlace) (v : Value) (w : World) (h : IsP w v xs) (hl : xs.length ≤ 1000000) : Calls Try.prog 16 #[v] w (Ret w (.tuple #[.string ⟨(wS xs).toArray⟩, wErr xs])) := by
  rcases h with ⟨rfl, rfl⟩ | ⟨b, off, c, rfl, _, hp⟩
  · exact write_p [] 0 0 0 none (by simp) (by simp) w (fun i hi => absurd hi (by simp))
  · exact write_p xs b off c _ (fun _ => rfl) hl w hp
theorem wS_right {xs : List GPlace} (h : placesB xs = true) : wS xs = writeP xs := by
  unfold wS
  rw [h, if_pos rfl]
theorem wErr_right {xs : List GPlace} (h : placesB xs = true) : wErr xs = .nilIface := by
  unfold wErr
  rw [h]
  rfl
theorem write_size {xs : List GPlace} (h : placesB xs = true) (hl : xs.length ≤ 40) : (writeP xs).length ≤ 400 := by
  have := wrP_len xs.length (Nat.le_refl _) (fun i hi => placesB_at h i hi)
  unfold writeP
  omega
theorem read_is (xs : List GPlace) (h : placesB xs = true) (hl : xs.length ≤ 40) (w : World) : Calls Try.prog 17 #[.string ⟨(wS xs).toArray⟩] w fun e w' => ∃ v, e = .returned (.tuple #[v, .nilIface]) ∧ OwnR w w' v xs ∧ Gr w w' := by
  have hs := write_size h hl
  rw [wS_right h]
  refine (read_p ⟨(writeP xs).toArray⟩ (by rw [ba_len]; omega) w).mono ?_
  intro e w' hp
  have hr : readP (⟨(writeP xs).toArray⟩ : ByteArray).data.toList = some xs := by
    show readP (writeP xs).toArray.toList = _
    rw [List.toList_toArray]
    exact read_write h
  unfold PReadPost at hp
  rw [hr] at hp
  obtain ⟨v, h1, h2, h3⟩ := hp
  exact ⟨v, h1, h2.own, h3⟩
theorem setP_len (xs ys : List GPlace) (_hl : xs.length + ys.length ≤ 1000000) : (setOf beforeB (xs ++ ys)).length ≤ xs.length + ys.length := by
  unfold setOf
  have h1 := squeeze_len ((xs ++ ys).mergeSort fun x y => !beforeB y x)
  rw [List.length_mergeSort, List.length_append] at h1
  exact h1
theorem isP_nil (w : World) : IsP w (.slice none 0 0) [] := .inl ⟨rfl, rfl⟩
set_option maxRecDepth 100000 in
set_option maxHeartbeats 4000000 in
theorem back_walk (xs ys : List GPlace) (va vb : Value) (row : Int) (w : World) (hx : IsP w va xs) (hy : IsP w vb ys) (hxl : xs.length ≤ 9223372036854775807) (hyl : ys.length ≤ 9223372036854775807) :
    Calls Try.prog 4 #[va, vb, .int .i64 row] w (Ret w (.bool true)) := by
  have HX := Lib.hid hx
  have HY := Lib.hid hy
  obtain ⟨ao, ca, hva⟩ := hx.form
  obtain ⟨bo, cb, hvb⟩ := hy.form
  clear hx hy
  subst hva hvb
  by_cases hlen : xs.length ≤ 40 ∧ ys.length ≤ 40
  · obtain ⟨hlx, hly⟩ := hlen
    cases hpx : placesB xs
    · have HPX := Lib.hid hpx
      clear hpx
      go_enter Try.func4, Try.ntmps4
      go_wp2_with fail
      all_goals first | omega | skip
      refine (posted_k _).mono ?_
      rintro e w1 ⟨rfl, hg1⟩
      go_wp2_with fail
      refine (right_is xs _ w1 (HX.out.gr hg1) (by omega)).mono ?_
      rintro e w2 ⟨rfl, hg2⟩
      rw [HPX.out]
      go_wp2_with fail
      go_ret
      exact Ret.mk rfl (hg1.trans hg2)
    cases hpy : placesB ys
    · have HPX := Lib.hid hpx
      have HPY := Lib.hid hpy
      clear hpx hpy
      go_enter Try.func4, Try.ntmps4
      go_wp2_with fail
      all_goals first | omega | skip
      refine (posted_k _).mono ?_
      rintro e w1 ⟨rfl, hg1⟩
      go_wp2_with fail
      refine (right_is xs _ w1 (HX.out.gr hg1) (by omega)).mono ?_
      rintro e w2 ⟨rfl, hg2⟩
      rw [HPX.out]
      have hgw2 := hg1.trans hg2
      clear hg1 hg2
      go_wp2_with fail
      refine (right_is ys _ w2 (HY.out.gr hgw2) (by omega)).mono ?_
      rintro e w3 ⟨rfl, hg3⟩
      rw [HPY.out]
      go_wp2_with fail
      go_ret
      exact Ret.mk rfl (hgw2.trans hg3)
    have HPX := Lib.hid hpx
    have HPY := Lib.hid hpy
    clear hpx hpy
    have hm1 := setP_len xs ys (by omega)
    have hm2 := setP_len ys xs (by omega)
    have hm3 := setP_len (setOf beforeB (xs ++ ys)) xs (by omega)
    have HMR := Lib.hid (set_right HPX.out HPY.out)
    have HCM := Lib.hid (set_comm ys xs)
    have HMM := Lib.hid (set_more HPX.out HPY.out)
    have HMN := Lib.hid (set_nil HPX.out)
    have HWR := Lib.hid (filter_right HMR.out (fun x => !(x.1 == row)))
    have HWE := Lib.hid (set_filter HPX.out HPY.out (fun x => !(x.1 == row)))
    have HFE := Lib.hid (set_follow ys (fun x => !!aheadW xs x))
    have HNM := Lib.hid (near_more xs ys)
    have HNS := Lib.hid (near_self ys (fun x => !!aheadW xs x))
    have hfl := List.length_filter_le (fun x => !!aheadW xs x) ys
    have hwa := List.length_filter_le (fun x : GPlace => !(x.1 == row)) xs
    have hwb := List.length_filter_le (fun x : GPlace => !(x.1 == row)) ys
    obtain ⟨ms, hms⟩ : ∃ ms, setOf beforeB (xs ++ ys) = ms := ⟨_, rfl⟩
    rw [hms] at hm1 hm3 HMR HCM HMM HWR HWE
    have HMS := Lib.hid hms
    clear hms
    have hwm := List.length_filter_le (fun x : GPlace => !(x.1 == row)) ms
    have hRE := read_is xs HPX.out hlx
    have hWS : xs.length ≤ (wS xs).length := by
      rw [wS_right HPX.out]
      exact write_len xs
    have hWZ : (⟨(wS xs).toArray⟩ : ByteArray).size = (wS xs).length := ba_len _
    have hWI := fun w h => write_is xs (.slice ao xs.length ca) w h (by omega)
    rw [wErr_right HPX.out] at hWI
    generalize wS xs = tx at *
    generalize (⟨tx.toArray⟩ : ByteArray) = ts at *
    go_enter Try.func4, Try.ntmps4
    go_wp2_with fail
    all_goals first | omega | skip
    refine (posted_k _).mono ?_
    rintro e w1 ⟨rfl, hg1⟩
    go_wp2_with fail
    refine (right_is xs _ w1 (HX.out.gr hg1) (by omega)).mono ?_
    rintro e w2 ⟨rfl, hg2⟩
    rw [HPX.out]
    have hgw2 := hg1.trans hg2
    clear hg1 hg2
    go_wp2_with fail
    refine (right_is ys _ w2 (HY.out.gr hgw2) (by omega)).mono ?_
    rintro e w3 ⟨rfl, hg3⟩
    rw [HPY.out]
    have hgw3 := hgw2.trans hg3
    clear hgw2 hg3
    go_wp2_with fail
    refine (hWI w3 (HX.out.gr hgw3)).mono ?_
    rintro e w4 ⟨rfl, hg4⟩
    have hgw4 := hgw3.trans hg4
    clear hgw3 hg4
    go_wp2_with fail
    refine (hRE w4).mono ?_
    rintro e w5 ⟨vl, rfl, hol, hg5⟩
    have hgw5 := hgw4.trans hg5
    have HOL := Lib.hid hol.isP
    clear hgw4 hg5 hol
    go_wp2_with fail
    refine (same_places xs xs vl _ w5 HOL.out (HX.out.gr hgw5) (by omega) (by omega)).mono ?_
    rintro e w6 ⟨rfl, hg6⟩
    rw [decide_eq_true rfl]
    have hgw6 := hgw5.trans hg6
    clear hgw5 hg6 HOL
    go_wp2_with fail
    all_goals first | omega | skip
    refine (merge_p xs ys _ _ w6 (HX.out.gr hgw6) (HY.out.gr hgw6) (by omega)).mono ?_
    rintro e w7 ⟨vm, rfl, hom, hg7⟩
    have hgw7 := hgw6.trans hg7
    rw [HMS.out] at hom
    have HOM := Lib.hid hom.isP
    obtain ⟨mo, mc, rfl⟩ := hom.form
    clear hgw6 hg7 hom
    go_wp2_with fail
    refine (merge_p ys xs _ _ w7 (HY.out.gr hgw7) (HX.out.gr hgw7) (by omega)).mono ?_
    rintro e w8 ⟨vn, rfl, hon, hg8⟩
    have hgw8 := hgw7.trans hg8
    rw [HCM.out] at hon
    have HON := Lib.hid hon.isP
    have HOM8 := Lib.hid (HOM.out.gr hg8)
    obtain ⟨no, nc, rfl⟩ := hon.form
    clear hgw7 hg8 hon HOM
    go_wp2_with fail
    refine (right_is ms _ w8 HOM8.out (by omega)).mono ?_
    rintro e w9 ⟨rfl, hg9⟩
    rw [HMR.out]
    have hgw9 := hgw8.trans hg9
    have HON9 := Lib.hid (HON.out.gr hg9)
    have HOM9 := Lib.hid (HOM8.out.gr hg9)
    clear hgw8 hg9 HON HOM8
    go_wp2_with fail
    refine (same_places ms ms _ _ w9 HOM9.out HON9.out (by omega) (by omega)).mono ?_
    rintro e w10 ⟨rfl, hg10⟩
    rw [decide_eq_true rfl]
    have hgw10 := hgw9.trans hg10
    have HOM10 := Lib.hid (HOM9.out.gr hg10)
    clear hgw9 hg10 HON9 HOM9
    go_wp2_with fail
    refine (merge_p ms xs _ _ w10 HOM10.out (HX.out.gr hgw10) (by omega)).mono ?_
    rintro e w11 ⟨vk, rfl, hok, hg11⟩
    rw [HMM.out] at hok
    have HOK := Lib.hid hok.isP
    obtain ⟨ko, kc, rfl⟩ := hok.form
    have hgw11 := hgw10.trans hg11
    have HOM11 := Lib.hid (HOM10.out.gr hg11)
    clear hgw10 hg11 HOM10 hok
    go_wp2_with fail
    refine (same_places ms ms _ _ w11 HOK.out HOM11.out (by omega) (by omega)).mono ?_
    rintro e w12 ⟨rfl, hg12⟩
    rw [decide_eq_true rfl]
    have hgw12 := hgw11.trans hg12
    have HOM12 := Lib.hid (HOM11.out.gr hg12)
    clear hgw11 hg12 HOM11 HOK
    go_wp2_with fail
    refine (merge_p xs [] _ _ w12 (HX.out.gr hgw12) (isP_nil _) (by simp; omega)).mono ?_
    rintro e w13 ⟨vk, rfl, hok, hg13⟩
    rw [HMN.out] at hok
    have HOK := Lib.hid hok.isP
    obtain ⟨ko, kc, rfl⟩ := hok.form
    have hgw13 := hgw12.trans hg13
    have HOM13 := Lib.hid (HOM12.out.gr hg13)
    clear hgw12 hg13 HOM12 hok
    go_wp2_with fail
    refine (same_places xs xs _ _ w13 HOK.out (HX.out.gr hgw13) (by omega) (by omega)).mono ?_
    rintro e w14 ⟨rfl, hg14⟩
    rw [decide_eq_true rfl]
    have hgw14 := hgw13.trans hg14
    have HOM14 := Lib.hid (HOM13.out.gr hg14)
    clear hgw13 hg14 HOM13 HOK
    go_wp2_with fail
    refine (without_p ms _ row w14 HOM14.out (by omega)).mono ?_
    rintro e w15 ⟨vw, rfl, how, hg15⟩
    have HOW := Lib.hid how.isP
    obtain ⟨wo, wc, rfl⟩ := how.form
    have hgw15 := hgw14.trans hg15
    clear hgw14 hg15 HOM14 how
    generalize hwmm : ms.filter (fun x => !(x.1 == row)) = wm at *
    generalize hwxx : xs.filter (fun x => !(x.1 == row)) = wx at *
    generalize hwyy : ys.filter (fun x => !(x.1 == row)) = wy at *
    have HWM := Lib.hid hwmm
    have HWX := Lib.hid hwxx
    have HWY := Lib.hid hwyy
    clear hwmm hwxx hwyy
    go_wp2_with fail
    refine (without_p xs _ row w15 (HX.out.gr hgw15) (by omega)).mono ?_
    rintro e w16 ⟨va, rfl, hoa, hg16⟩
    rw [HWX.out] at hoa
    have HOA := Lib.hid hoa.isP
    obtain ⟨ro, rc, rfl⟩ := hoa.form
    have hgw16 := hgw15.trans hg16
    have HOW16 := Lib.hid (HOW.out.gr hg16)
    clear hgw15 hg16 hoa HOW
    go_wp2_with fail
    refine (without_p ys _ row w16 (HY.out.gr hgw16) (by omega)).mono ?_
    rintro e w17 ⟨vb, rfl, hob, hg17⟩
    rw [HWY.out] at hob
    have HOB := Lib.hid hob.isP
    obtain ⟨so, sc, rfl⟩ := hob.form
    have hgw17 := hgw16.trans hg17
    have HOW17 := Lib.hid (HOW16.out.gr hg17)
    have HOA17 := Lib.hid (HOA.out.gr hg17)
    clear hgw16 hg17 hob HOW16 HOA
    go_wp2_with fail
    refine (merge_p wx wy _ _ w17 HOA17.out HOB.out (by omega)).mono ?_
    rintro e w18 ⟨vk, rfl, hok, hg18⟩
    rw [← HWE.out] at hok
    have HOK := Lib.hid hok.isP
    obtain ⟨ko, kc, rfl⟩ := hok.form
    have hgw18 := hgw17.trans hg18
    have HOW18 := Lib.hid (HOW17.out.gr hg18)
    clear hgw17 hg18 HOW17 hok HOA17 HOB
    go_wp2_with fail
    refine (same_places wm wm _ _ w18 HOW18.out HOK.out (by omega) (by omega)).mono ?_
    rintro e w19 ⟨rfl, hg19⟩
    rw [decide_eq_true rfl]
    have hgw19 := hgw18.trans hg19
    have HOW19 := Lib.hid (HOW18.out.gr hg19)
    clear hgw18 hg19 HOW18 HOK
    go_wp2_with fail
    refine (right_is wm _ w19 HOW19.out (by omega)).mono ?_
    rintro e w20 ⟨rfl, hg20⟩
    rw [HWR.out]
    have hgw20 := hgw19.trans hg20
    clear hgw19 hg20 HOW19
    go_wp2_with fail
    refine (follow_p xs ys _ _ w20 (HX.out.gr hgw20) (HY.out.gr hgw20) (by omega) (by omega)).mono ?_
    rintro e w21 ⟨vf, rfl, hof, hg21⟩
    have HOF := Lib.hid hof.isP
    obtain ⟨fo, fc, rfl⟩ := hof.form
    have hgw21 := hgw20.trans hg21
    clear hgw20 hg21 hof
    generalize hfff : ys.filter (fun x => !!aheadW xs x) = fs at *
    have HFF := Lib.hid hfff
    clear hfff
    go_wp2_with fail
    refine (merge_p ys fs _ _ w21 (HY.out.gr hgw21) HOF.out (by omega)).mono ?_
    rintro e w22 ⟨vk, rfl, hok, hg22⟩
    rw [HFE.out] at hok
    have HOK := Lib.hid hok.isP
    obtain ⟨ko, kc, rfl⟩ := hok.form
    have hgw22 := hgw21.trans hg22
    have HOF22 := Lib.hid (HOF.out.gr hg22)
    clear hgw21 hg22 hok HOF
    have hyl := setP_len ys [] (by simp; omega)
    rw [List.length_nil, Nat.add_zero] at hyl
    generalize hyyy : setOf beforeB (ys ++ []) = yz at *
    have HYZ := Lib.hid hyyy
    clear hyyy
    go_wp2_with fail
    refine (merge_p ys [] _ _ w22 (HY.out.gr hgw22) (isP_nil _) (by simp; omega)).mono ?_
    rintro e w23 ⟨vk, rfl, hok, hg23⟩
    rw [HYZ.out] at hok
    have HOL := Lib.hid hok.isP
    obtain ⟨lo, lc, rfl⟩ := hok.form
    have hgw23 := hgw22.trans hg23
    have HOF23 := Lib.hid (HOF22.out.gr hg23)
    have HOK23 := Lib.hid (HOK.out.gr hg23)
    clear hgw22 hg23 hok HOF22 HOK
    go_wp2_with fail
    refine (same_places yz yz _ _ w23 HOK23.out HOL.out (by omega) (by omega)).mono ?_
    rintro e w24 ⟨rfl, hg24⟩
    rw [decide_eq_true rfl]
    have hgw24 := hgw23.trans hg24
    have HOF24 := Lib.hid (HOF23.out.gr hg24)
    clear hgw23 hg24 HOF23 HOK23 HOL
    go_wp2_with fail
    refine (near_p xs ys _ _ 0 w24 (HX.out.gr hgw24) (HY.out.gr hgw24) (by omega) (by omega)).mono ?_
    rintro e w25 ⟨v0, rfl, ho0, hg25⟩
    obtain ⟨n0, c0, rfl⟩ := ho0.form
    have hgw25 := hgw24.trans hg25
    have HOF25 := Lib.hid (HOF24.out.gr hg25)
    clear hgw24 hg25 ho0 HOF24
    generalize hk0 : (setOf lessI (nearRows 0 xs ys)).length = k0 at *
    generalize hk5 : (setOf lessI (nearRows 5 xs ys)).length = k5 at *
    have HK5 := Lib.hid hk5
    clear hk0 hk5
    go_wp2_with fail
    refine (near_p xs ys _ _ 5 w25 (HX.out.gr hgw25) (HY.out.gr hgw25) (by omega) (by omega)).mono ?_
    rintro e w26 ⟨v5, rfl, ho5, hg26⟩
    obtain ⟨n5, c5, rfl⟩ := ho5.form
    rw [HK5.out]
    have hgw26 := hgw25.trans hg26
    have HOF26 := Lib.hid (HOF25.out.gr hg26)
    clear hgw25 hg26 ho5 HOF25
    have hkk : (k0 : Int) ≤ (k5 : Int) := by
      have := HNM.out
      omega
    go_wp2_with fail
    all_goals first | omega | skip
    refine (near_p fs ys _ _ 0 w26 HOF26.out (HY.out.gr hgw26) (by omega) (by omega)).mono ?_
    rintro e w27 ⟨v6, rfl, ho6, hg27⟩
    rw [HNS.out] at ho6
    obtain ⟨n6, c6, rfl⟩ := ho6.form
    have hgw27 := hgw26.trans hg27
    have HOF27 := Lib.hid (HOF26.out.gr hg27)
    clear hgw26 hg27 ho6 HOF26
    generalize hk6 : (setOf lessI (fs.map (·.1))).length = k6 at *
    have HK6 := Lib.hid hk6
    clear hk6
    go_wp2_with fail
    refine (rows_p fs _ w27 HOF27.out (by omega)).mono ?_
    rintro e w28 ⟨v7, rfl, ho7, hg28⟩
    obtain ⟨n7, c7, rfl⟩ := ho7.form
    rw [HK6.out]
    have hgw28 := hgw27.trans hg28
    clear hgw27 hg28 ho7 HOF27
    go_wp2_with fail
    go_ret
    exact Ret.mk (by simp) hgw28
  · go_enter Try.func4, Try.ntmps4
    go_wp2_with fail
    all_goals first | omega | skip
    all_goals
      go_ret
      exact Ret.mk rfl (Gr.refl _)
end Go.Proofs.Ytpgnjjagjlggkaa
