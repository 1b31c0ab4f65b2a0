/-
  The walk of PagerPlays.
-/
import Derived.Test.YtcdoeninajpbmaaGreatDoorPpS
import Derived.Test.YtcdoeninajpbmaaGreatDoorPageE
import Derived.Deep.RegionHeld3
import Derived.Deep.DeepCutAuto
import Derived.Deep.CutBlock
import Derived.Deep.LoopGhost
import Derived.Outline
namespace Go.Proofs.YtcdoeninajpbmaaGreatDoor
open Go Go.RowKit Go.Maps

set_option maxRecDepth 100000 in
set_option maxHeartbeats 100000000 in
theorem plays_walk (xs : List LAct) (v : Value) (w : World) (hE : ErrTypeAt w) (hx : LActs w v xs) (hr : ∀ x ∈ xs, x.ok) (hl : xs.length ≤ 50) :
    Calls Tryz.prog 3 #[v] w (Ret w (.bool true)) := by
  obtain ⟨ao, cp, rfl⟩ := hx.form
  have HE := Lib.hid hE
  have HX := Lib.hid hx
  have HR := Lib.hid hr
  have d1 : decide ((50 : Int) < xs.length) = false := by simp; omega
  have hmm := fun w => run_makeMap (P := Tryz.prog) 34 w
  clear hE hx hr
  go_enter Tryz.func3, Tryz.ntmps3
  go_wp2_with fail
  clear d1
  have hd := disk_made w
  have HG1 : Hid (Gr w (w.alloc (.cells Tryz.zeroCells26 26))) := Lib.hid ((Gr.refl w).alloc _)
  have HD1 := Lib.hid hd
  have hDB : w.heap.size ≤ w.heap.size := Nat.le_refl _
  clear hd
  generalize (Tryz.zeroCells26) = Z at *
  generalize w.alloc (.cells Z 26) = w1 at *
  obtain ⟨DB, hDBe⟩ : ∃ DB, DB = w.heap.size := ⟨_, rfl⟩
  rw [← hDBe] at HD1 ⊢
  have hDB1 : w.heap.size ≤ DB := by omega
  clear hDBe hDB
  refine (open_s DB dk0 headZ _ HD1.out clean0 (by decide)).mono ?_
  rintro e w2 ⟨PB, M2, rfl, hs, hle1, hle2, hgx⟩
  rw [headD_zero] at hs
  have hsz := HG1.out.size
  have HPB : Hid (w.heap.size ≤ PB ∧ w.heap.size ≤ DB) := Lib.hid ⟨by omega, hDB1⟩
  have HB2 : Hid (w.heap.size ≤ M2) := Lib.hid (by omega)
  have HS2 := Lib.hid hs
  have HG2 := Lib.hid (hgx.gr HG1.out (fun k e => by have e2 : k = DB := e; rw [e2]; exact hDB1))
  clear hs hle1 hle2 hgx hsz hDB1
  go_wp2_with fail
  refine (open_nil _).mono ?_
  rintro e w3 ⟨rfl, hg3⟩
  have HS3 := Lib.hid (HS2.out.gr hg3)
  have HG3 := Lib.hid (HG2.out.trans hg3)
  have hbt := bare_e 7 w3 (HE.out.gr HG3.out)
  go_wp2_with fail
  refine hbt.mono ?_
  rintro e w4 ⟨rfl, hg4⟩
  have HS4 := Lib.hid (HS3.out.gr hg4)
  have HG4 := Lib.hid (HG3.out.trans hg4)
  clear hbt
  go_upto_region 9 with (fail)
  have hn5 : RpAt ((w4.alloc (.map #[] 0)).alloc (.cells #[.map (some w4.heap.size), .int .i64 0, .int .i64 0, .int .i64 0, .int .i64 0, .int .i64 0, .int .i64 0, .int .i64 0, .int .i64 0, .int .i64 0, .int .i64 0, .int .i64 0, .int .i64 0, .int .i64 0, .int .i64 0, .int .i64 0, .int .i64 0] 38)) (w4.heap.size + 1) w4.heap.size 0 (fun _ => none) (fun _ => (0, 0)) := by
    have z : (w4.alloc (.map #[] 0)).heap.size = w4.heap.size + 1 := by simp
    refine ⟨fun j v hv => ?_, fun o => ?_, (MapAt.made w4).gr ((Gr.refl _).alloc _), by omega⟩
    · rw [← z, World.cell?_alloc_new, Nat.zero_add, ← Array.getElem?_toList]
      exact hv
    · rw [← z]
      simp
  have hg5 : Gr w4 ((w4.alloc (.map #[] 0)).alloc (.cells #[.map (some w4.heap.size), .int .i64 0, .int .i64 0, .int .i64 0, .int .i64 0, .int .i64 0, .int .i64 0, .int .i64 0, .int .i64 0, .int .i64 0, .int .i64 0, .int .i64 0, .int .i64 0, .int .i64 0, .int .i64 0, .int .i64 0, .int .i64 0] 38)) := ((Gr.refl w4).alloc _).alloc _
  generalize ((w4.alloc (.map #[] 0)).alloc (.cells #[.map (some w4.heap.size), .int .i64 0, .int .i64 0, .int .i64 0, .int .i64 0, .int .i64 0, .int .i64 0, .int .i64 0, .int .i64 0, .int .i64 0, .int .i64 0, .int .i64 0, .int .i64 0, .int .i64 0, .int .i64 0, .int .i64 0, .int .i64 0] 38)) = w5 at *
  obtain ⟨NM, hNM⟩ : ∃ NM, NM = w4.heap.size := ⟨_, rfl⟩
  rw [← hNM] at hn5 ⊢
  obtain ⟨NB, hNB⟩ : ∃ NB, NB = NM + 1 := ⟨_, rfl⟩
  rw [← hNB] at hn5 ⊢
  have q1 : w4.heap.size ≤ NM := by omega
  have q2 : NM < NB := by omega
  have HN5 := Lib.hid hn5
  have HS5 := Lib.hid (HS4.out.gr hg5)
  have HG5 := Lib.hid (HG4.out.trans hg5)
  have HH5 := Lib.hid hg5
  clear hNM hNB hn5 hg5
  have HCP : Hid (∀ W, Gr w5 W → Calls Tryz.prog 6 #[.agg (rp NM (fun _ => (0, 0))).toArray] W fun e w' => ∃ M', e = .returned (.agg (rp M' (fun _ => (0, 0))).toArray) ∧ MapAt w' M' 0 (fun _ => none) ∧ W.heap.size ≤ M' ∧ Gr W w') := Lib.hid fun W g => copy_r NM 0 _ _ W (HN5.out.gr g).map (by omega) (fun k s e => by cases e)
  obtain ⟨A0, hA0⟩ : ∃ A : Array Value, A = (rp NM (fun _ => (0, 0))).toArray := ⟨_, rfl⟩
  have hcp := HCP.out
  rw [← hA0] at hcp
  have HA0 := Lib.hid hA0
  clear hA0 HCP
  go_cut [9, 10] (fun s9 s10 wx => ∃ SB SM OB OM, s9 = .pointer (some ⟨SB, 0, none⟩) ∧ s10 = .pointer (some ⟨OB, 0, none⟩) ∧ RpAt wx SB SM 0 (fun _ => none) (fun _ => (0, 0)) ∧ RpAt wx OB OM 0 (fun _ => none) (fun _ => (0, 0)) ∧ Gr w5 wx ∧ (w5.heap.size ≤ SB ∧ w5.heap.size ≤ SM ∧ w5.heap.size ≤ OB ∧ w5.heap.size ≤ OM) ∧ (SB ≠ SM ∧ SB ≠ OB ∧ SB ≠ OM ∧ SM ≠ OB ∧ SM ≠ OM ∧ OB ≠ OM))
  case first =>
    refine wp_region_held_drew (S := fun w' => Gr w5 w') (by kernel_rfl) (Gr.refl _).drew (fun hHeld => ?_)
    generalize w5.drew = w6 at *
    refine wpAnyH_take (i := 0) rfl (by kernel_rfl) (by kernel_rfl) (by kernel_rfl) (fun _ _ _ h => h) (yieldsIf_load_rp (by rfl) _ rfl NB NM 0 _ _ rfl A0 HA0.out (fun w' g => HN5.out.gr g)) hHeld ?_
    simp only [Act.put, List.getElem_toArray, List.getElem_cons_zero, List.setIfInBounds_toArray, List.set_cons_zero, List.set_cons_succ]
    refine wpAnyH_take (i := 2) rfl (by kernel_rfl) (by kernel_rfl) (by kernel_rfl) (fun _ _ _ h => h) (yieldsIf_load_rp (by rfl) _ rfl NB NM 0 _ _ rfl A0 HA0.out (fun w' g => HN5.out.gr g)) hHeld ?_
    simp only [Act.put, List.getElem_toArray, List.getElem_cons_succ, List.getElem_cons_zero, List.setIfInBounds_toArray, List.set_cons_zero, List.set_cons_succ]
    refine wpAnyH_ready (rs := [1, 4, 5]) (by kernel_rfl) (by simp) ?_
    refine AllReadyH.cons rfl (fun K hK => ?_) ?_
    · as_aux_lemma =>
        go_simp
        refine (hcp _ hHeld).mono ?_
        rintro e ww6x ⟨C1, rfl, hm, hle, hg⟩
        obtain ⟨A1, hA1⟩ : ∃ A : Array Value, A = (rp C1 (fun _ => (0, 0))).toArray := ⟨_, rfl⟩
        rw [← hA1]
        have HA1 := Lib.hid hA1
        have b1 : w5.heap.size ≤ C1 := Nat.le_trans hHeld.size hle
        have HI1 := Lib.hid hm
        have hHeld := hHeld.trans hg
        clear hm hle hA1 hg
        go_wp2_with fail
        refine hK.out _ _ hHeld (fun hHeld => ?_)
        clear hK K
        try simp only [Act.put, List.getElem_toArray, List.getElem_cons_succ, List.getElem_cons_zero, List.setIfInBounds_toArray, List.set_cons_zero, List.set_cons_succ]
        refine wpAnyH_ready (rs := [3, 4, 5]) (by kernel_rfl) (by simp) ?_
        refine AllReadyH.cons rfl (fun K hK => ?_) ?_
        · as_aux_lemma =>
            go_simp
            refine (hcp _ hHeld).mono ?_
            rintro e www6xx ⟨C3, rfl, hm, hle, hg⟩
            obtain ⟨A3, hA3⟩ : ∃ A : Array Value, A = (rp C3 (fun _ => (0, 0))).toArray := ⟨_, rfl⟩
            rw [← hA3]
            have HA3 := Lib.hid hA3
            have o13 : C1 < C3 := Nat.lt_of_lt_of_le HI1.out.lt (by assumption)
            have b3 : w5.heap.size ≤ C3 := Nat.le_trans hHeld.size hle
            have HI1 := Lib.hid (HI1.out.gr hg)
            have HI3 := Lib.hid hm
            have hHeld := hHeld.trans hg
            clear hm hle hA3 hg
            go_wp2_with fail
            refine hK.out _ _ hHeld (fun hHeld => ?_)
            clear hK K
            try simp only [Act.put, List.getElem_toArray, List.getElem_cons_succ, List.getElem_cons_zero, List.setIfInBounds_toArray, List.set_cons_zero, List.set_cons_succ]
            refine wpAnyH_ready (rs := [4, 5]) (by kernel_rfl) (by simp) ?_
            refine AllReadyH.cons rfl (fun K hK => ?_) ?_
            · as_aux_lemma =>
                go_simp
                refine hK.out _ _ (hHeld.alloc _) (fun hHeld2 => ?_)
                obtain ⟨B4, hB4⟩ : ∃ B, B = www6xx.heap.size := ⟨_, rfl⟩
                have hnv := new_rp www6xx
                have hg := (Gr.refl www6xx).alloc (.cells #[.map none, .int .i64 0, .int .i64 0, .int .i64 0, .int .i64 0, .int .i64 0, .int .i64 0, .int .i64 0, .int .i64 0, .int .i64 0, .int .i64 0, .int .i64 0, .int .i64 0, .int .i64 0, .int .i64 0, .int .i64 0, .int .i64 0] 38)
                have hle : www6xx.heap.size ≤ B4 := by omega
                try simp only [World.heap_drew]
                rw [← hB4] at hnv ⊢
                have o14 : C1 < B4 := Nat.lt_of_lt_of_le HI1.out.lt (by assumption)
                have o34 : C3 < B4 := Nat.lt_of_lt_of_le HI3.out.lt (by assumption)
                have b4 : w5.heap.size ≤ B4 := Nat.le_trans hHeld.size hle
                generalize www6xx.alloc (.cells #[.map none, .int .i64 0, .int .i64 0, .int .i64 0, .int .i64 0, .int .i64 0, .int .i64 0, .int .i64 0, .int .i64 0, .int .i64 0, .int .i64 0, .int .i64 0, .int .i64 0, .int .i64 0, .int .i64 0, .int .i64 0, .int .i64 0] 38) = www6xxy at *
                have HI1 := Lib.hid (HI1.out.gr hg)
                have HI3 := Lib.hid (HI3.out.gr hg)
                have HI4 := Lib.hid hnv
                have hHeld := hHeld2
                clear hHeld2 hnv hg hle hB4
                clear hK K
                try simp only [Act.put, List.getElem_toArray, List.getElem_cons_succ, List.getElem_cons_zero, List.setIfInBounds_toArray, List.set_cons_zero, List.set_cons_succ]
                refine wpAnyH_ready (rs := [5]) (by kernel_rfl) (by simp) ?_
                refine AllReadyH.cons rfl (fun K hK => ?_) ?_
                · as_aux_lemma =>
                    go_simp
                    refine hK.out _ _ (hHeld.alloc _) (fun hHeld2 => ?_)
                    obtain ⟨B5, hB5⟩ : ∃ B, B = www6xxy.heap.size := ⟨_, rfl⟩
                    have hnv := new_rp www6xxy
                    have hg := (Gr.refl www6xxy).alloc (.cells #[.map none, .int .i64 0, .int .i64 0, .int .i64 0, .int .i64 0, .int .i64 0, .int .i64 0, .int .i64 0, .int .i64 0, .int .i64 0, .int .i64 0, .int .i64 0, .int .i64 0, .int .i64 0, .int .i64 0, .int .i64 0, .int .i64 0] 38)
                    have hle : www6xxy.heap.size ≤ B5 := by omega
                    try simp only [World.heap_drew]
                    rw [← hB5] at hnv ⊢
                    have o15 : C1 < B5 := Nat.lt_of_lt_of_le HI1.out.lt (by assumption)
                    have o35 : C3 < B5 := Nat.lt_of_lt_of_le HI3.out.lt (by assumption)
                    have o45 : B4 < B5 := Nat.lt_of_lt_of_le HI4.out.lt (by assumption)
                    have b5 : w5.heap.size ≤ B5 := Nat.le_trans hHeld.size hle
                    generalize www6xxy.alloc (.cells #[.map none, .int .i64 0, .int .i64 0, .int .i64 0, .int .i64 0, .int .i64 0, .int .i64 0, .int .i64 0, .int .i64 0, .int .i64 0, .int .i64 0, .int .i64 0, .int .i64 0, .int .i64 0, .int .i64 0, .int .i64 0, .int .i64 0] 38) = www6xxyy at *
                    have HI1 := Lib.hid (HI1.out.gr hg)
                    have HI3 := Lib.hid (HI3.out.gr hg)
                    have HI4 := Lib.hid (HI4.out.gr hg)
                    have HI5 := Lib.hid hnv
                    have hHeld := hHeld2
                    clear hHeld2 hnv hg hle hB5
                    clear hK K
                    try simp only [Act.put, List.getElem_toArray, List.getElem_cons_succ, List.getElem_cons_zero, List.setIfInBounds_toArray, List.set_cons_zero, List.set_cons_succ]
                    skip
                    refine wpAnyH_ready (rs := [6]) (by kernel_rfl) (by simp) ?_
                    refine AllReadyH.cons rfl (fun K hK => ?_) AllReadyH.nil
                    rw [if_pos (by rfl)]
                    refine wp_store_rp _ _ rfl B4 C1 0 (fun _ => none) (fun _ => (0, 0)) A1 rfl rfl HA1.out HI4.out.1 HI4.out.2 HI1.out (by omega) ?_
                    intro w7 hr7 hg7
                    have HR7 := Lib.hid hr7
                    have hHeld := hg7.gr hHeld (fun k e => by have e2 : k = B4 := e; omega)
                    have HI3 := Lib.hid (HI3.out.keepX hg7 (show ¬ C3 = B4 by omega))
                    have HI5 := Lib.hid (HI5.out.keepX hg7 (show ¬ B5 = B4 by omega))
                    clear hr7 hg7
                    refine hK.out _ _ hHeld (fun hHeld => ?_)
                    clear hK K
                    try simp only [Act.put, List.getElem_toArray, List.getElem_cons_succ, List.getElem_cons_zero]
                    refine wpAnyH_ready (rs := [7]) (by kernel_rfl) (by simp) ?_
                    refine AllReadyH.cons rfl (fun K hK => ?_) AllReadyH.nil
                    rw [if_pos (by rfl)]
                    refine wp_store_rp _ _ rfl B5 C3 0 (fun _ => none) (fun _ => (0, 0)) A3 rfl rfl HA3.out HI5.out.1 HI5.out.2 HI3.out (by omega) ?_
                    intro w8 hr8 hg8
                    have HR8 := Lib.hid hr8
                    have hHeld := hg8.gr hHeld (fun k e => by have e2 : k = B5 := e; omega)
                    have HR7 := Lib.hid (HR7.out.keepX hg8 (show ¬ B4 = B5 by omega) (show ¬ C1 = B5 by omega))
                    clear hr8 hg8
                    refine hK.out _ _ hHeld (fun hHeld => ?_)
                    clear hK K
                    refine wpAnyH_done (by kernel_rfl) ?_ _
                    go_wp2_with fail
                    go_meet
                    exact ⟨B4, C1, B5, C3, rfl, rfl, HR7.out, HR8.out, hHeld, ⟨by omega, by omega, by omega, by omega⟩, ⟨by omega, by omega, by omega, by omega, by omega, by omega⟩⟩
                exact AllReadyH.nil
            refine AllReadyH.cons rfl (fun K hK => ?_) ?_
            · as_aux_lemma =>
                go_simp
                refine hK.out _ _ (hHeld.alloc _) (fun hHeld2 => ?_)
                obtain ⟨B5, hB5⟩ : ∃ B, B = www6xx.heap.size := ⟨_, rfl⟩
                have hnv := new_rp www6xx
                have hg := (Gr.refl www6xx).alloc (.cells #[.map none, .int .i64 0, .int .i64 0, .int .i64 0, .int .i64 0, .int .i64 0, .int .i64 0, .int .i64 0, .int .i64 0, .int .i64 0, .int .i64 0, .int .i64 0, .int .i64 0, .int .i64 0, .int .i64 0, .int .i64 0, .int .i64 0] 38)
                have hle : www6xx.heap.size ≤ B5 := by omega
                try simp only [World.heap_drew]
                rw [← hB5] at hnv ⊢
                have o15 : C1 < B5 := Nat.lt_of_lt_of_le HI1.out.lt (by assumption)
                have o35 : C3 < B5 := Nat.lt_of_lt_of_le HI3.out.lt (by assumption)
                have b5 : w5.heap.size ≤ B5 := Nat.le_trans hHeld.size hle
                generalize www6xx.alloc (.cells #[.map none, .int .i64 0, .int .i64 0, .int .i64 0, .int .i64 0, .int .i64 0, .int .i64 0, .int .i64 0, .int .i64 0, .int .i64 0, .int .i64 0, .int .i64 0, .int .i64 0, .int .i64 0, .int .i64 0, .int .i64 0, .int .i64 0] 38) = www6xxy at *
                have HI1 := Lib.hid (HI1.out.gr hg)
                have HI3 := Lib.hid (HI3.out.gr hg)
                have HI5 := Lib.hid hnv
                have hHeld := hHeld2
                clear hHeld2 hnv hg hle hB5
                clear hK K
                try simp only [Act.put, List.getElem_toArray, List.getElem_cons_succ, List.getElem_cons_zero, List.setIfInBounds_toArray, List.set_cons_zero, List.set_cons_succ]
                refine wpAnyH_ready (rs := [4]) (by kernel_rfl) (by simp) ?_
                refine AllReadyH.cons rfl (fun K hK => ?_) ?_
                · as_aux_lemma =>
                    go_simp
                    refine hK.out _ _ (hHeld.alloc _) (fun hHeld2 => ?_)
                    obtain ⟨B4, hB4⟩ : ∃ B, B = www6xxy.heap.size := ⟨_, rfl⟩
                    have hnv := new_rp www6xxy
                    have hg := (Gr.refl www6xxy).alloc (.cells #[.map none, .int .i64 0, .int .i64 0, .int .i64 0, .int .i64 0, .int .i64 0, .int .i64 0, .int .i64 0, .int .i64 0, .int .i64 0, .int .i64 0, .int .i64 0, .int .i64 0, .int .i64 0, .int .i64 0, .int .i64 0, .int .i64 0] 38)
                    have hle : www6xxy.heap.size ≤ B4 := by omega
                    try simp only [World.heap_drew]
                    rw [← hB4] at hnv ⊢
                    have o14 : C1 < B4 := Nat.lt_of_lt_of_le HI1.out.lt (by assumption)
                    have o34 : C3 < B4 := Nat.lt_of_lt_of_le HI3.out.lt (by assumption)
                    have o54 : B5 < B4 := Nat.lt_of_lt_of_le HI5.out.lt (by assumption)
                    have b4 : w5.heap.size ≤ B4 := Nat.le_trans hHeld.size hle
                    generalize www6xxy.alloc (.cells #[.map none, .int .i64 0, .int .i64 0, .int .i64 0, .int .i64 0, .int .i64 0, .int .i64 0, .int .i64 0, .int .i64 0, .int .i64 0, .int .i64 0, .int .i64 0, .int .i64 0, .int .i64 0, .int .i64 0, .int .i64 0, .int .i64 0] 38) = www6xxyy at *
                    have HI1 := Lib.hid (HI1.out.gr hg)
                    have HI3 := Lib.hid (HI3.out.gr hg)
                    have HI5 := Lib.hid (HI5.out.gr hg)
                    have HI4 := Lib.hid hnv
                    have hHeld := hHeld2
                    clear hHeld2 hnv hg hle hB4
                    clear hK K
                    try simp only [Act.put, List.getElem_toArray, List.getElem_cons_succ, List.getElem_cons_zero, List.setIfInBounds_toArray, List.set_cons_zero, List.set_cons_succ]
                    skip
                    refine wpAnyH_ready (rs := [6]) (by kernel_rfl) (by simp) ?_
                    refine AllReadyH.cons rfl (fun K hK => ?_) AllReadyH.nil
                    rw [if_pos (by rfl)]
                    refine wp_store_rp _ _ rfl B4 C1 0 (fun _ => none) (fun _ => (0, 0)) A1 rfl rfl HA1.out HI4.out.1 HI4.out.2 HI1.out (by omega) ?_
                    intro w7 hr7 hg7
                    have HR7 := Lib.hid hr7
                    have hHeld := hg7.gr hHeld (fun k e => by have e2 : k = B4 := e; omega)
                    have HI3 := Lib.hid (HI3.out.keepX hg7 (show ¬ C3 = B4 by omega))
                    have HI5 := Lib.hid (HI5.out.keepX hg7 (show ¬ B5 = B4 by omega))
                    clear hr7 hg7
                    refine hK.out _ _ hHeld (fun hHeld => ?_)
                    clear hK K
                    try simp only [Act.put, List.getElem_toArray, List.getElem_cons_succ, List.getElem_cons_zero]
                    refine wpAnyH_ready (rs := [7]) (by kernel_rfl) (by simp) ?_
                    refine AllReadyH.cons rfl (fun K hK => ?_) AllReadyH.nil
                    rw [if_pos (by rfl)]
                    refine wp_store_rp _ _ rfl B5 C3 0 (fun _ => none) (fun _ => (0, 0)) A3 rfl rfl HA3.out HI5.out.1 HI5.out.2 HI3.out (by omega) ?_
                    intro w8 hr8 hg8
                    have HR8 := Lib.hid hr8
                    have hHeld := hg8.gr hHeld (fun k e => by have e2 : k = B5 := e; omega)
                    have HR7 := Lib.hid (HR7.out.keepX hg8 (show ¬ B4 = B5 by omega) (show ¬ C1 = B5 by omega))
                    clear hr8 hg8
                    refine hK.out _ _ hHeld (fun hHeld => ?_)
                    clear hK K
                    refine wpAnyH_done (by kernel_rfl) ?_ _
                    go_wp2_with fail
                    go_meet
                    exact ⟨B4, C1, B5, C3, rfl, rfl, HR7.out, HR8.out, hHeld, ⟨by omega, by omega, by omega, by omega⟩, ⟨by omega, by omega, by omega, by omega, by omega, by omega⟩⟩
                exact AllReadyH.nil
            exact AllReadyH.nil
        refine AllReadyH.cons rfl (fun K hK => ?_) ?_
        · as_aux_lemma =>
            go_simp
            refine hK.out _ _ (hHeld.alloc _) (fun hHeld2 => ?_)
            obtain ⟨B4, hB4⟩ : ∃ B, B = ww6x.heap.size := ⟨_, rfl⟩
            have hnv := new_rp ww6x
            have hg := (Gr.refl ww6x).alloc (.cells #[.map none, .int .i64 0, .int .i64 0, .int .i64 0, .int .i64 0, .int .i64 0, .int .i64 0, .int .i64 0, .int .i64 0, .int .i64 0, .int .i64 0, .int .i64 0, .int .i64 0, .int .i64 0, .int .i64 0, .int .i64 0, .int .i64 0] 38)
            have hle : ww6x.heap.size ≤ B4 := by omega
            try simp only [World.heap_drew]
            rw [← hB4] at hnv ⊢
            have o14 : C1 < B4 := Nat.lt_of_lt_of_le HI1.out.lt (by assumption)
            have b4 : w5.heap.size ≤ B4 := Nat.le_trans hHeld.size hle
            generalize ww6x.alloc (.cells #[.map none, .int .i64 0, .int .i64 0, .int .i64 0, .int .i64 0, .int .i64 0, .int .i64 0, .int .i64 0, .int .i64 0, .int .i64 0, .int .i64 0, .int .i64 0, .int .i64 0, .int .i64 0, .int .i64 0, .int .i64 0, .int .i64 0] 38) = ww6xy at *
            have HI1 := Lib.hid (HI1.out.gr hg)
            have HI4 := Lib.hid hnv
            have hHeld := hHeld2
            clear hHeld2 hnv hg hle hB4
            clear hK K
            try simp only [Act.put, List.getElem_toArray, List.getElem_cons_succ, List.getElem_cons_zero, List.setIfInBounds_toArray, List.set_cons_zero, List.set_cons_succ]
            refine wpAnyH_ready (rs := [3, 5]) (by kernel_rfl) (by simp) ?_
            refine AllReadyH.cons rfl (fun K hK => ?_) ?_
            · as_aux_lemma =>
                go_simp
                refine (hcp _ hHeld).mono ?_
                rintro e www6xyx ⟨C3, rfl, hm, hle, hg⟩
                obtain ⟨A3, hA3⟩ : ∃ A : Array Value, A = (rp C3 (fun _ => (0, 0))).toArray := ⟨_, rfl⟩
                rw [← hA3]
                have HA3 := Lib.hid hA3
                have o13 : C1 < C3 := Nat.lt_of_lt_of_le HI1.out.lt (by assumption)
                have o43 : B4 < C3 := Nat.lt_of_lt_of_le HI4.out.lt (by assumption)
                have b3 : w5.heap.size ≤ C3 := Nat.le_trans hHeld.size hle
                have HI1 := Lib.hid (HI1.out.gr hg)
                have HI4 := Lib.hid (HI4.out.gr hg)
                have HI3 := Lib.hid hm
                have hHeld := hHeld.trans hg
                clear hm hle hA3 hg
                go_wp2_with fail
                refine hK.out _ _ hHeld (fun hHeld => ?_)
                clear hK K
                try simp only [Act.put, List.getElem_toArray, List.getElem_cons_succ, List.getElem_cons_zero, List.setIfInBounds_toArray, List.set_cons_zero, List.set_cons_succ]
                refine wpAnyH_ready (rs := [5]) (by kernel_rfl) (by simp) ?_
                refine AllReadyH.cons rfl (fun K hK => ?_) ?_
                · as_aux_lemma =>
                    go_simp
                    refine hK.out _ _ (hHeld.alloc _) (fun hHeld2 => ?_)
                    obtain ⟨B5, hB5⟩ : ∃ B, B = www6xyx.heap.size := ⟨_, rfl⟩
                    have hnv := new_rp www6xyx
                    have hg := (Gr.refl www6xyx).alloc (.cells #[.map none, .int .i64 0, .int .i64 0, .int .i64 0, .int .i64 0, .int .i64 0, .int .i64 0, .int .i64 0, .int .i64 0, .int .i64 0, .int .i64 0, .int .i64 0, .int .i64 0, .int .i64 0, .int .i64 0, .int .i64 0, .int .i64 0] 38)
                    have hle : www6xyx.heap.size ≤ B5 := by omega
                    try simp only [World.heap_drew]
                    rw [← hB5] at hnv ⊢
                    have o15 : C1 < B5 := Nat.lt_of_lt_of_le HI1.out.lt (by assumption)
                    have o45 : B4 < B5 := Nat.lt_of_lt_of_le HI4.out.lt (by assumption)
                    have o35 : C3 < B5 := Nat.lt_of_lt_of_le HI3.out.lt (by assumption)
                    have b5 : w5.heap.size ≤ B5 := Nat.le_trans hHeld.size hle
                    generalize www6xyx.alloc (.cells #[.map none, .int .i64 0, .int .i64 0, .int .i64 0, .int .i64 0, .int .i64 0, .int .i64 0, .int .i64 0, .int .i64 0, .int .i64 0, .int .i64 0, .int .i64 0, .int .i64 0, .int .i64 0, .int .i64 0, .int .i64 0, .int .i64 0] 38) = www6xyxy at *
                    have HI1 := Lib.hid (HI1.out.gr hg)
                    have HI4 := Lib.hid (HI4.out.gr hg)
                    have HI3 := Lib.hid (HI3.out.gr hg)
                    have HI5 := Lib.hid hnv
                    have hHeld := hHeld2
                    clear hHeld2 hnv hg hle hB5
                    clear hK K
                    try simp only [Act.put, List.getElem_toArray, List.getElem_cons_succ, List.getElem_cons_zero, List.setIfInBounds_toArray, List.set_cons_zero, List.set_cons_succ]
                    skip
                    refine wpAnyH_ready (rs := [6]) (by kernel_rfl) (by simp) ?_
                    refine AllReadyH.cons rfl (fun K hK => ?_) AllReadyH.nil
                    rw [if_pos (by rfl)]
                    refine wp_store_rp _ _ rfl B4 C1 0 (fun _ => none) (fun _ => (0, 0)) A1 rfl rfl HA1.out HI4.out.1 HI4.out.2 HI1.out (by omega) ?_
                    intro w7 hr7 hg7
                    have HR7 := Lib.hid hr7
                    have hHeld := hg7.gr hHeld (fun k e => by have e2 : k = B4 := e; omega)
                    have HI3 := Lib.hid (HI3.out.keepX hg7 (show ¬ C3 = B4 by omega))
                    have HI5 := Lib.hid (HI5.out.keepX hg7 (show ¬ B5 = B4 by omega))
                    clear hr7 hg7
                    refine hK.out _ _ hHeld (fun hHeld => ?_)
                    clear hK K
                    try simp only [Act.put, List.getElem_toArray, List.getElem_cons_succ, List.getElem_cons_zero]
                    refine wpAnyH_ready (rs := [7]) (by kernel_rfl) (by simp) ?_
                    refine AllReadyH.cons rfl (fun K hK => ?_) AllReadyH.nil
                    rw [if_pos (by rfl)]
                    refine wp_store_rp _ _ rfl B5 C3 0 (fun _ => none) (fun _ => (0, 0)) A3 rfl rfl HA3.out HI5.out.1 HI5.out.2 HI3.out (by omega) ?_
                    intro w8 hr8 hg8
                    have HR8 := Lib.hid hr8
                    have hHeld := hg8.gr hHeld (fun k e => by have e2 : k = B5 := e; omega)
                    have HR7 := Lib.hid (HR7.out.keepX hg8 (show ¬ B4 = B5 by omega) (show ¬ C1 = B5 by omega))
                    clear hr8 hg8
                    refine hK.out _ _ hHeld (fun hHeld => ?_)
                    clear hK K
                    refine wpAnyH_done (by kernel_rfl) ?_ _
                    go_wp2_with fail
                    go_meet
                    exact ⟨B4, C1, B5, C3, rfl, rfl, HR7.out, HR8.out, hHeld, ⟨by omega, by omega, by omega, by omega⟩, ⟨by omega, by omega, by omega, by omega, by omega, by omega⟩⟩
                exact AllReadyH.nil
            refine AllReadyH.cons rfl (fun K hK => ?_) ?_
            · as_aux_lemma =>
                go_simp
                refine hK.out _ _ (hHeld.alloc _) (fun hHeld2 => ?_)
                obtain ⟨B5, hB5⟩ : ∃ B, B = ww6xy.heap.size := ⟨_, rfl⟩
                have hnv := new_rp ww6xy
                have hg := (Gr.refl ww6xy).alloc (.cells #[.map none, .int .i64 0, .int .i64 0, .int .i64 0, .int .i64 0, .int .i64 0, .int .i64 0, .int .i64 0, .int .i64 0, .int .i64 0, .int .i64 0, .int .i64 0, .int .i64 0, .int .i64 0, .int .i64 0, .int .i64 0, .int .i64 0] 38)
                have hle : ww6xy.heap.size ≤ B5 := by omega
                try simp only [World.heap_drew]
                rw [← hB5] at hnv ⊢
                have o15 : C1 < B5 := Nat.lt_of_lt_of_le HI1.out.lt (by assumption)
                have o45 : B4 < B5 := Nat.lt_of_lt_of_le HI4.out.lt (by assumption)
                have b5 : w5.heap.size ≤ B5 := Nat.le_trans hHeld.size hle
                generalize ww6xy.alloc (.cells #[.map none, .int .i64 0, .int .i64 0, .int .i64 0, .int .i64 0, .int .i64 0, .int .i64 0, .int .i64 0, .int .i64 0, .int .i64 0, .int .i64 0, .int .i64 0, .int .i64 0, .int .i64 0, .int .i64 0, .int .i64 0, .int .i64 0] 38) = ww6xyy at *
                have HI1 := Lib.hid (HI1.out.gr hg)
                have HI4 := Lib.hid (HI4.out.gr hg)
                have HI5 := Lib.hid hnv
                have hHeld := hHeld2
                clear hHeld2 hnv hg hle hB5
                clear hK K
                try simp only [Act.put, List.getElem_toArray, List.getElem_cons_succ, List.getElem_cons_zero, List.setIfInBounds_toArray, List.set_cons_zero, List.set_cons_succ]
                refine wpAnyH_ready (rs := [3]) (by kernel_rfl) (by simp) ?_
                refine AllReadyH.cons rfl (fun K hK => ?_) ?_
                · as_aux_lemma =>
                    go_simp
                    refine (hcp _ hHeld).mono ?_
                    rintro e www6xyyx ⟨C3, rfl, hm, hle, hg⟩
                    obtain ⟨A3, hA3⟩ : ∃ A : Array Value, A = (rp C3 (fun _ => (0, 0))).toArray := ⟨_, rfl⟩
                    rw [← hA3]
                    have HA3 := Lib.hid hA3
                    have o13 : C1 < C3 := Nat.lt_of_lt_of_le HI1.out.lt (by assumption)
                    have o43 : B4 < C3 := Nat.lt_of_lt_of_le HI4.out.lt (by assumption)
                    have o53 : B5 < C3 := Nat.lt_of_lt_of_le HI5.out.lt (by assumption)
                    have b3 : w5.heap.size ≤ C3 := Nat.le_trans hHeld.size hle
                    have HI1 := Lib.hid (HI1.out.gr hg)
                    have HI4 := Lib.hid (HI4.out.gr hg)
                    have HI5 := Lib.hid (HI5.out.gr hg)
                    have HI3 := Lib.hid hm
                    have hHeld := hHeld.trans hg
                    clear hm hle hA3 hg
                    go_wp2_with fail
                    refine hK.out _ _ hHeld (fun hHeld => ?_)
                    clear hK K
                    try simp only [Act.put, List.getElem_toArray, List.getElem_cons_succ, List.getElem_cons_zero, List.setIfInBounds_toArray, List.set_cons_zero, List.set_cons_succ]
                    skip
                    refine wpAnyH_ready (rs := [6]) (by kernel_rfl) (by simp) ?_
                    refine AllReadyH.cons rfl (fun K hK => ?_) AllReadyH.nil
                    rw [if_pos (by rfl)]
                    refine wp_store_rp _ _ rfl B4 C1 0 (fun _ => none) (fun _ => (0, 0)) A1 rfl rfl HA1.out HI4.out.1 HI4.out.2 HI1.out (by omega) ?_
                    intro w7 hr7 hg7
                    have HR7 := Lib.hid hr7
                    have hHeld := hg7.gr hHeld (fun k e => by have e2 : k = B4 := e; omega)
                    have HI3 := Lib.hid (HI3.out.keepX hg7 (show ¬ C3 = B4 by omega))
                    have HI5 := Lib.hid (HI5.out.keepX hg7 (show ¬ B5 = B4 by omega))
                    clear hr7 hg7
                    refine hK.out _ _ hHeld (fun hHeld => ?_)
                    clear hK K
                    try simp only [Act.put, List.getElem_toArray, List.getElem_cons_succ, List.getElem_cons_zero]
                    refine wpAnyH_ready (rs := [7]) (by kernel_rfl) (by simp) ?_
                    refine AllReadyH.cons rfl (fun K hK => ?_) AllReadyH.nil
                    rw [if_pos (by rfl)]
                    refine wp_store_rp _ _ rfl B5 C3 0 (fun _ => none) (fun _ => (0, 0)) A3 rfl rfl HA3.out HI5.out.1 HI5.out.2 HI3.out (by omega) ?_
                    intro w8 hr8 hg8
                    have HR8 := Lib.hid hr8
                    have hHeld := hg8.gr hHeld (fun k e => by have e2 : k = B5 := e; omega)
                    have HR7 := Lib.hid (HR7.out.keepX hg8 (show ¬ B4 = B5 by omega) (show ¬ C1 = B5 by omega))
                    clear hr8 hg8
                    refine hK.out _ _ hHeld (fun hHeld => ?_)
                    clear hK K
                    refine wpAnyH_done (by kernel_rfl) ?_ _
                    go_wp2_with fail
                    go_meet
                    exact ⟨B4, C1, B5, C3, rfl, rfl, HR7.out, HR8.out, hHeld, ⟨by omega, by omega, by omega, by omega⟩, ⟨by omega, by omega, by omega, by omega, by omega, by omega⟩⟩
                exact AllReadyH.nil
            exact AllReadyH.nil
        refine AllReadyH.cons rfl (fun K hK => ?_) ?_
        · as_aux_lemma =>
            go_simp
            refine hK.out _ _ (hHeld.alloc _) (fun hHeld2 => ?_)
            obtain ⟨B5, hB5⟩ : ∃ B, B = ww6x.heap.size := ⟨_, rfl⟩
            have hnv := new_rp ww6x
            have hg := (Gr.refl ww6x).alloc (.cells #[.map none, .int .i64 0, .int .i64 0, .int .i64 0, .int .i64 0, .int .i64 0, .int .i64 0, .int .i64 0, .int .i64 0, .int .i64 0, .int .i64 0, .int .i64 0, .int .i64 0, .int .i64 0, .int .i64 0, .int .i64 0, .int .i64 0] 38)
            have hle : ww6x.heap.size ≤ B5 := by omega
            try simp only [World.heap_drew]
            rw [← hB5] at hnv ⊢
            have o15 : C1 < B5 := Nat.lt_of_lt_of_le HI1.out.lt (by assumption)
            have b5 : w5.heap.size ≤ B5 := Nat.le_trans hHeld.size hle
            generalize ww6x.alloc (.cells #[.map none, .int .i64 0, .int .i64 0, .int .i64 0, .int .i64 0, .int .i64 0, .int .i64 0, .int .i64 0, .int .i64 0, .int .i64 0, .int .i64 0, .int .i64 0, .int .i64 0, .int .i64 0, .int .i64 0, .int .i64 0, .int .i64 0] 38) = ww6xy at *
            have HI1 := Lib.hid (HI1.out.gr hg)
            have HI5 := Lib.hid hnv
            have hHeld := hHeld2
            clear hHeld2 hnv hg hle hB5
            clear hK K
            try simp only [Act.put, List.getElem_toArray, List.getElem_cons_succ, List.getElem_cons_zero, List.setIfInBounds_toArray, List.set_cons_zero, List.set_cons_succ]
            refine wpAnyH_ready (rs := [3, 4]) (by kernel_rfl) (by simp) ?_
            refine AllReadyH.cons rfl (fun K hK => ?_) ?_
            · as_aux_lemma =>
                go_simp
                refine (hcp _ hHeld).mono ?_
                rintro e www6xyx ⟨C3, rfl, hm, hle, hg⟩
                obtain ⟨A3, hA3⟩ : ∃ A : Array Value, A = (rp C3 (fun _ => (0, 0))).toArray := ⟨_, rfl⟩
                rw [← hA3]
                have HA3 := Lib.hid hA3
                have o13 : C1 < C3 := Nat.lt_of_lt_of_le HI1.out.lt (by assumption)
                have o53 : B5 < C3 := Nat.lt_of_lt_of_le HI5.out.lt (by assumption)
                have b3 : w5.heap.size ≤ C3 := Nat.le_trans hHeld.size hle
                have HI1 := Lib.hid (HI1.out.gr hg)
                have HI5 := Lib.hid (HI5.out.gr hg)
                have HI3 := Lib.hid hm
                have hHeld := hHeld.trans hg
                clear hm hle hA3 hg
                go_wp2_with fail
                refine hK.out _ _ hHeld (fun hHeld => ?_)
                clear hK K
                try simp only [Act.put, List.getElem_toArray, List.getElem_cons_succ, List.getElem_cons_zero, List.setIfInBounds_toArray, List.set_cons_zero, List.set_cons_succ]
                refine wpAnyH_ready (rs := [4]) (by kernel_rfl) (by simp) ?_
                refine AllReadyH.cons rfl (fun K hK => ?_) ?_
                · as_aux_lemma =>
                    go_simp
                    refine hK.out _ _ (hHeld.alloc _) (fun hHeld2 => ?_)
                    obtain ⟨B4, hB4⟩ : ∃ B, B = www6xyx.heap.size := ⟨_, rfl⟩
                    have hnv := new_rp www6xyx
                    have hg := (Gr.refl www6xyx).alloc (.cells #[.map none, .int .i64 0, .int .i64 0, .int .i64 0, .int .i64 0, .int .i64 0, .int .i64 0, .int .i64 0, .int .i64 0, .int .i64 0, .int .i64 0, .int .i64 0, .int .i64 0, .int .i64 0, .int .i64 0, .int .i64 0, .int .i64 0] 38)
                    have hle : www6xyx.heap.size ≤ B4 := by omega
                    try simp only [World.heap_drew]
                    rw [← hB4] at hnv ⊢
                    have o14 : C1 < B4 := Nat.lt_of_lt_of_le HI1.out.lt (by assumption)
                    have o54 : B5 < B4 := Nat.lt_of_lt_of_le HI5.out.lt (by assumption)
                    have o34 : C3 < B4 := Nat.lt_of_lt_of_le HI3.out.lt (by assumption)
                    have b4 : w5.heap.size ≤ B4 := Nat.le_trans hHeld.size hle
                    generalize www6xyx.alloc (.cells #[.map none, .int .i64 0, .int .i64 0, .int .i64 0, .int .i64 0, .int .i64 0, .int .i64 0, .int .i64 0, .int .i64 0, .int .i64 0, .int .i64 0, .int .i64 0, .int .i64 0, .int .i64 0, .int .i64 0, .int .i64 0, .int .i64 0] 38) = www6xyxy at *
                    have HI1 := Lib.hid (HI1.out.gr hg)
                    have HI5 := Lib.hid (HI5.out.gr hg)
                    have HI3 := Lib.hid (HI3.out.gr hg)
                    have HI4 := Lib.hid hnv
                    have hHeld := hHeld2
                    clear hHeld2 hnv hg hle hB4
                    clear hK K
                    try simp only [Act.put, List.getElem_toArray, List.getElem_cons_succ, List.getElem_cons_zero, List.setIfInBounds_toArray, List.set_cons_zero, List.set_cons_succ]
                    skip
                    refine wpAnyH_ready (rs := [6]) (by kernel_rfl) (by simp) ?_
                    refine AllReadyH.cons rfl (fun K hK => ?_) AllReadyH.nil
                    rw [if_pos (by rfl)]
                    refine wp_store_rp _ _ rfl B4 C1 0 (fun _ => none) (fun _ => (0, 0)) A1 rfl rfl HA1.out HI4.out.1 HI4.out.2 HI1.out (by omega) ?_
                    intro w7 hr7 hg7
                    have HR7 := Lib.hid hr7
                    have hHeld := hg7.gr hHeld (fun k e => by have e2 : k = B4 := e; omega)
                    have HI3 := Lib.hid (HI3.out.keepX hg7 (show ¬ C3 = B4 by omega))
                    have HI5 := Lib.hid (HI5.out.keepX hg7 (show ¬ B5 = B4 by omega))
                    clear hr7 hg7
                    refine hK.out _ _ hHeld (fun hHeld => ?_)
                    clear hK K
                    try simp only [Act.put, List.getElem_toArray, List.getElem_cons_succ, List.getElem_cons_zero]
                    refine wpAnyH_ready (rs := [7]) (by kernel_rfl) (by simp) ?_
                    refine AllReadyH.cons rfl (fun K hK => ?_) AllReadyH.nil
                    rw [if_pos (by rfl)]
                    refine wp_store_rp _ _ rfl B5 C3 0 (fun _ => none) (fun _ => (0, 0)) A3 rfl rfl HA3.out HI5.out.1 HI5.out.2 HI3.out (by omega) ?_
                    intro w8 hr8 hg8
                    have HR8 := Lib.hid hr8
                    have hHeld := hg8.gr hHeld (fun k e => by have e2 : k = B5 := e; omega)
                    have HR7 := Lib.hid (HR7.out.keepX hg8 (show ¬ B4 = B5 by omega) (show ¬ C1 = B5 by omega))
                    clear hr8 hg8
                    refine hK.out _ _ hHeld (fun hHeld => ?_)
                    clear hK K
                    refine wpAnyH_done (by kernel_rfl) ?_ _
                    go_wp2_with fail
                    go_meet
                    exact ⟨B4, C1, B5, C3, rfl, rfl, HR7.out, HR8.out, hHeld, ⟨by omega, by omega, by omega, by omega⟩, ⟨by omega, by omega, by omega, by omega, by omega, by omega⟩⟩
                exact AllReadyH.nil
            refine AllReadyH.cons rfl (fun K hK => ?_) ?_
            · as_aux_lemma =>
                go_simp
                refine hK.out _ _ (hHeld.alloc _) (fun hHeld2 => ?_)
                obtain ⟨B4, hB4⟩ : ∃ B, B = ww6xy.heap.size := ⟨_, rfl⟩
                have hnv := new_rp ww6xy
                have hg := (Gr.refl ww6xy).alloc (.cells #[.map none, .int .i64 0, .int .i64 0, .int .i64 0, .int .i64 0, .int .i64 0, .int .i64 0, .int .i64 0, .int .i64 0, .int .i64 0, .int .i64 0, .int .i64 0, .int .i64 0, .int .i64 0, .int .i64 0, .int .i64 0, .int .i64 0] 38)
                have hle : ww6xy.heap.size ≤ B4 := by omega
                try simp only [World.heap_drew]
                rw [← hB4] at hnv ⊢
                have o14 : C1 < B4 := Nat.lt_of_lt_of_le HI1.out.lt (by assumption)
                have o54 : B5 < B4 := Nat.lt_of_lt_of_le HI5.out.lt (by assumption)
                have b4 : w5.heap.size ≤ B4 := Nat.le_trans hHeld.size hle
                generalize ww6xy.alloc (.cells #[.map none, .int .i64 0, .int .i64 0, .int .i64 0, .int .i64 0, .int .i64 0, .int .i64 0, .int .i64 0, .int .i64 0, .int .i64 0, .int .i64 0, .int .i64 0, .int .i64 0, .int .i64 0, .int .i64 0, .int .i64 0, .int .i64 0] 38) = ww6xyy at *
                have HI1 := Lib.hid (HI1.out.gr hg)
                have HI5 := Lib.hid (HI5.out.gr hg)
                have HI4 := Lib.hid hnv
                have hHeld := hHeld2
                clear hHeld2 hnv hg hle hB4
                clear hK K
                try simp only [Act.put, List.getElem_toArray, List.getElem_cons_succ, List.getElem_cons_zero, List.setIfInBounds_toArray, List.set_cons_zero, List.set_cons_succ]
                refine wpAnyH_ready (rs := [3]) (by kernel_rfl) (by simp) ?_
                refine AllReadyH.cons rfl (fun K hK => ?_) ?_
                · as_aux_lemma =>
                    go_simp
                    refine (hcp _ hHeld).mono ?_
                    rintro e www6xyyx ⟨C3, rfl, hm, hle, hg⟩
                    obtain ⟨A3, hA3⟩ : ∃ A : Array Value, A = (rp C3 (fun _ => (0, 0))).toArray := ⟨_, rfl⟩
                    rw [← hA3]
                    have HA3 := Lib.hid hA3
                    have o13 : C1 < C3 := Nat.lt_of_lt_of_le HI1.out.lt (by assumption)
                    have o53 : B5 < C3 := Nat.lt_of_lt_of_le HI5.out.lt (by assumption)
                    have o43 : B4 < C3 := Nat.lt_of_lt_of_le HI4.out.lt (by assumption)
                    have b3 : w5.heap.size ≤ C3 := Nat.le_trans hHeld.size hle
                    have HI1 := Lib.hid (HI1.out.gr hg)
                    have HI5 := Lib.hid (HI5.out.gr hg)
                    have HI4 := Lib.hid (HI4.out.gr hg)
                    have HI3 := Lib.hid hm
                    have hHeld := hHeld.trans hg
                    clear hm hle hA3 hg
                    go_wp2_with fail
                    refine hK.out _ _ hHeld (fun hHeld => ?_)
                    clear hK K
                    try simp only [Act.put, List.getElem_toArray, List.getElem_cons_succ, List.getElem_cons_zero, List.setIfInBounds_toArray, List.set_cons_zero, List.set_cons_succ]
                    skip
                    refine wpAnyH_ready (rs := [6]) (by kernel_rfl) (by simp) ?_
                    refine AllReadyH.cons rfl (fun K hK => ?_) AllReadyH.nil
                    rw [if_pos (by rfl)]
                    refine wp_store_rp _ _ rfl B4 C1 0 (fun _ => none) (fun _ => (0, 0)) A1 rfl rfl HA1.out HI4.out.1 HI4.out.2 HI1.out (by omega) ?_
                    intro w7 hr7 hg7
                    have HR7 := Lib.hid hr7
                    have hHeld := hg7.gr hHeld (fun k e => by have e2 : k = B4 := e; omega)
                    have HI3 := Lib.hid (HI3.out.keepX hg7 (show ¬ C3 = B4 by omega))
                    have HI5 := Lib.hid (HI5.out.keepX hg7 (show ¬ B5 = B4 by omega))
                    clear hr7 hg7
                    refine hK.out _ _ hHeld (fun hHeld => ?_)
                    clear hK K
                    try simp only [Act.put, List.getElem_toArray, List.getElem_cons_succ, List.getElem_cons_zero]
                    refine wpAnyH_ready (rs := [7]) (by kernel_rfl) (by simp) ?_
                    refine AllReadyH.cons rfl (fun K hK => ?_) AllReadyH.nil
                    rw [if_pos (by rfl)]
                    refine wp_store_rp _ _ rfl B5 C3 0 (fun _ => none) (fun _ => (0, 0)) A3 rfl rfl HA3.out HI5.out.1 HI5.out.2 HI3.out (by omega) ?_
                    intro w8 hr8 hg8
                    have HR8 := Lib.hid hr8
                    have hHeld := hg8.gr hHeld (fun k e => by have e2 : k = B5 := e; omega)
                    have HR7 := Lib.hid (HR7.out.keepX hg8 (show ¬ B4 = B5 by omega) (show ¬ C1 = B5 by omega))
                    clear hr8 hg8
                    refine hK.out _ _ hHeld (fun hHeld => ?_)
                    clear hK K
                    refine wpAnyH_done (by kernel_rfl) ?_ _
                    go_wp2_with fail
                    go_meet
                    exact ⟨B4, C1, B5, C3, rfl, rfl, HR7.out, HR8.out, hHeld, ⟨by omega, by omega, by omega, by omega⟩, ⟨by omega, by omega, by omega, by omega, by omega, by omega⟩⟩
                exact AllReadyH.nil
            exact AllReadyH.nil
        exact AllReadyH.nil
    refine AllReadyH.cons rfl (fun K hK => ?_) ?_
    · as_aux_lemma =>
        go_simp
        refine hK.out _ _ (hHeld.alloc _) (fun hHeld2 => ?_)
        obtain ⟨B4, hB4⟩ : ∃ B, B = w6.heap.size := ⟨_, rfl⟩
        have hnv := new_rp w6
        have hg := (Gr.refl w6).alloc (.cells #[.map none, .int .i64 0, .int .i64 0, .int .i64 0, .int .i64 0, .int .i64 0, .int .i64 0, .int .i64 0, .int .i64 0, .int .i64 0, .int .i64 0, .int .i64 0, .int .i64 0, .int .i64 0, .int .i64 0, .int .i64 0, .int .i64 0] 38)
        have hle : w6.heap.size ≤ B4 := by omega
        try simp only [World.heap_drew]
        rw [← hB4] at hnv ⊢
        have b4 : w5.heap.size ≤ B4 := Nat.le_trans hHeld.size hle
        generalize w6.alloc (.cells #[.map none, .int .i64 0, .int .i64 0, .int .i64 0, .int .i64 0, .int .i64 0, .int .i64 0, .int .i64 0, .int .i64 0, .int .i64 0, .int .i64 0, .int .i64 0, .int .i64 0, .int .i64 0, .int .i64 0, .int .i64 0, .int .i64 0] 38) = w6y at *
        have HI4 := Lib.hid hnv
        have hHeld := hHeld2
        clear hHeld2 hnv hg hle hB4
        clear hK K
        try simp only [Act.put, List.getElem_toArray, List.getElem_cons_succ, List.getElem_cons_zero, List.setIfInBounds_toArray, List.set_cons_zero, List.set_cons_succ]
        refine wpAnyH_ready (rs := [1, 5]) (by kernel_rfl) (by simp) ?_
        refine AllReadyH.cons rfl (fun K hK => ?_) ?_
        · as_aux_lemma =>
            go_simp
            refine (hcp _ hHeld).mono ?_
            rintro e ww6yx ⟨C1, rfl, hm, hle, hg⟩
            obtain ⟨A1, hA1⟩ : ∃ A : Array Value, A = (rp C1 (fun _ => (0, 0))).toArray := ⟨_, rfl⟩
            rw [← hA1]
            have HA1 := Lib.hid hA1
            have o41 : B4 < C1 := Nat.lt_of_lt_of_le HI4.out.lt (by assumption)
            have b1 : w5.heap.size ≤ C1 := Nat.le_trans hHeld.size hle
            have HI4 := Lib.hid (HI4.out.gr hg)
            have HI1 := Lib.hid hm
            have hHeld := hHeld.trans hg
            clear hm hle hA1 hg
            go_wp2_with fail
            refine hK.out _ _ hHeld (fun hHeld => ?_)
            clear hK K
            try simp only [Act.put, List.getElem_toArray, List.getElem_cons_succ, List.getElem_cons_zero, List.setIfInBounds_toArray, List.set_cons_zero, List.set_cons_succ]
            refine wpAnyH_ready (rs := [3, 5]) (by kernel_rfl) (by simp) ?_
            refine AllReadyH.cons rfl (fun K hK => ?_) ?_
            · as_aux_lemma =>
                go_simp
                refine (hcp _ hHeld).mono ?_
                rintro e www6yxx ⟨C3, rfl, hm, hle, hg⟩
                obtain ⟨A3, hA3⟩ : ∃ A : Array Value, A = (rp C3 (fun _ => (0, 0))).toArray := ⟨_, rfl⟩
                rw [← hA3]
                have HA3 := Lib.hid hA3
                have o43 : B4 < C3 := Nat.lt_of_lt_of_le HI4.out.lt (by assumption)
                have o13 : C1 < C3 := Nat.lt_of_lt_of_le HI1.out.lt (by assumption)
                have b3 : w5.heap.size ≤ C3 := Nat.le_trans hHeld.size hle
                have HI4 := Lib.hid (HI4.out.gr hg)
                have HI1 := Lib.hid (HI1.out.gr hg)
                have HI3 := Lib.hid hm
                have hHeld := hHeld.trans hg
                clear hm hle hA3 hg
                go_wp2_with fail
                refine hK.out _ _ hHeld (fun hHeld => ?_)
                clear hK K
                try simp only [Act.put, List.getElem_toArray, List.getElem_cons_succ, List.getElem_cons_zero, List.setIfInBounds_toArray, List.set_cons_zero, List.set_cons_succ]
                refine wpAnyH_ready (rs := [5]) (by kernel_rfl) (by simp) ?_
                refine AllReadyH.cons rfl (fun K hK => ?_) ?_
                · as_aux_lemma =>
                    go_simp
                    refine hK.out _ _ (hHeld.alloc _) (fun hHeld2 => ?_)
                    obtain ⟨B5, hB5⟩ : ∃ B, B = www6yxx.heap.size := ⟨_, rfl⟩
                    have hnv := new_rp www6yxx
                    have hg := (Gr.refl www6yxx).alloc (.cells #[.map none, .int .i64 0, .int .i64 0, .int .i64 0, .int .i64 0, .int .i64 0, .int .i64 0, .int .i64 0, .int .i64 0, .int .i64 0, .int .i64 0, .int .i64 0, .int .i64 0, .int .i64 0, .int .i64 0, .int .i64 0, .int .i64 0] 38)
                    have hle : www6yxx.heap.size ≤ B5 := by omega
                    try simp only [World.heap_drew]
                    rw [← hB5] at hnv ⊢
                    have o45 : B4 < B5 := Nat.lt_of_lt_of_le HI4.out.lt (by assumption)
                    have o15 : C1 < B5 := Nat.lt_of_lt_of_le HI1.out.lt (by assumption)
                    have o35 : C3 < B5 := Nat.lt_of_lt_of_le HI3.out.lt (by assumption)
                    have b5 : w5.heap.size ≤ B5 := Nat.le_trans hHeld.size hle
                    generalize www6yxx.alloc (.cells #[.map none, .int .i64 0, .int .i64 0, .int .i64 0, .int .i64 0, .int .i64 0, .int .i64 0, .int .i64 0, .int .i64 0, .int .i64 0, .int .i64 0, .int .i64 0, .int .i64 0, .int .i64 0, .int .i64 0, .int .i64 0, .int .i64 0] 38) = www6yxxy at *
                    have HI4 := Lib.hid (HI4.out.gr hg)
                    have HI1 := Lib.hid (HI1.out.gr hg)
                    have HI3 := Lib.hid (HI3.out.gr hg)
                    have HI5 := Lib.hid hnv
                    have hHeld := hHeld2
                    clear hHeld2 hnv hg hle hB5
                    clear hK K
                    try simp only [Act.put, List.getElem_toArray, List.getElem_cons_succ, List.getElem_cons_zero, List.setIfInBounds_toArray, List.set_cons_zero, List.set_cons_succ]
                    skip
                    refine wpAnyH_ready (rs := [6]) (by kernel_rfl) (by simp) ?_
                    refine AllReadyH.cons rfl (fun K hK => ?_) AllReadyH.nil
                    rw [if_pos (by rfl)]
                    refine wp_store_rp _ _ rfl B4 C1 0 (fun _ => none) (fun _ => (0, 0)) A1 rfl rfl HA1.out HI4.out.1 HI4.out.2 HI1.out (by omega) ?_
                    intro w7 hr7 hg7
                    have HR7 := Lib.hid hr7
                    have hHeld := hg7.gr hHeld (fun k e => by have e2 : k = B4 := e; omega)
                    have HI3 := Lib.hid (HI3.out.keepX hg7 (show ¬ C3 = B4 by omega))
                    have HI5 := Lib.hid (HI5.out.keepX hg7 (show ¬ B5 = B4 by omega))
                    clear hr7 hg7
                    refine hK.out _ _ hHeld (fun hHeld => ?_)
                    clear hK K
                    try simp only [Act.put, List.getElem_toArray, List.getElem_cons_succ, List.getElem_cons_zero]
                    refine wpAnyH_ready (rs := [7]) (by kernel_rfl) (by simp) ?_
                    refine AllReadyH.cons rfl (fun K hK => ?_) AllReadyH.nil
                    rw [if_pos (by rfl)]
                    refine wp_store_rp _ _ rfl B5 C3 0 (fun _ => none) (fun _ => (0, 0)) A3 rfl rfl HA3.out HI5.out.1 HI5.out.2 HI3.out (by omega) ?_
                    intro w8 hr8 hg8
                    have HR8 := Lib.hid hr8
                    have hHeld := hg8.gr hHeld (fun k e => by have e2 : k = B5 := e; omega)
                    have HR7 := Lib.hid (HR7.out.keepX hg8 (show ¬ B4 = B5 by omega) (show ¬ C1 = B5 by omega))
                    clear hr8 hg8
                    refine hK.out _ _ hHeld (fun hHeld => ?_)
                    clear hK K
                    refine wpAnyH_done (by kernel_rfl) ?_ _
                    go_wp2_with fail
                    go_meet
                    exact ⟨B4, C1, B5, C3, rfl, rfl, HR7.out, HR8.out, hHeld, ⟨by omega, by omega, by omega, by omega⟩, ⟨by omega, by omega, by omega, by omega, by omega, by omega⟩⟩
                exact AllReadyH.nil
            refine AllReadyH.cons rfl (fun K hK => ?_) ?_
            · as_aux_lemma =>
                go_simp
                refine hK.out _ _ (hHeld.alloc _) (fun hHeld2 => ?_)
                obtain ⟨B5, hB5⟩ : ∃ B, B = ww6yx.heap.size := ⟨_, rfl⟩
                have hnv := new_rp ww6yx
                have hg := (Gr.refl ww6yx).alloc (.cells #[.map none, .int .i64 0, .int .i64 0, .int .i64 0, .int .i64 0, .int .i64 0, .int .i64 0, .int .i64 0, .int .i64 0, .int .i64 0, .int .i64 0, .int .i64 0, .int .i64 0, .int .i64 0, .int .i64 0, .int .i64 0, .int .i64 0] 38)
                have hle : ww6yx.heap.size ≤ B5 := by omega
                try simp only [World.heap_drew]
                rw [← hB5] at hnv ⊢
                have o45 : B4 < B5 := Nat.lt_of_lt_of_le HI4.out.lt (by assumption)
                have o15 : C1 < B5 := Nat.lt_of_lt_of_le HI1.out.lt (by assumption)
                have b5 : w5.heap.size ≤ B5 := Nat.le_trans hHeld.size hle
                generalize ww6yx.alloc (.cells #[.map none, .int .i64 0, .int .i64 0, .int .i64 0, .int .i64 0, .int .i64 0, .int .i64 0, .int .i64 0, .int .i64 0, .int .i64 0, .int .i64 0, .int .i64 0, .int .i64 0, .int .i64 0, .int .i64 0, .int .i64 0, .int .i64 0] 38) = ww6yxy at *
                have HI4 := Lib.hid (HI4.out.gr hg)
                have HI1 := Lib.hid (HI1.out.gr hg)
                have HI5 := Lib.hid hnv
                have hHeld := hHeld2
                clear hHeld2 hnv hg hle hB5
                clear hK K
                try simp only [Act.put, List.getElem_toArray, List.getElem_cons_succ, List.getElem_cons_zero, List.setIfInBounds_toArray, List.set_cons_zero, List.set_cons_succ]
                refine wpAnyH_ready (rs := [3]) (by kernel_rfl) (by simp) ?_
                refine AllReadyH.cons rfl (fun K hK => ?_) ?_
                · as_aux_lemma =>
                    go_simp
                    refine (hcp _ hHeld).mono ?_
                    rintro e www6yxyx ⟨C3, rfl, hm, hle, hg⟩
                    obtain ⟨A3, hA3⟩ : ∃ A : Array Value, A = (rp C3 (fun _ => (0, 0))).toArray := ⟨_, rfl⟩
                    rw [← hA3]
                    have HA3 := Lib.hid hA3
                    have o43 : B4 < C3 := Nat.lt_of_lt_of_le HI4.out.lt (by assumption)
                    have o13 : C1 < C3 := Nat.lt_of_lt_of_le HI1.out.lt (by assumption)
                    have o53 : B5 < C3 := Nat.lt_of_lt_of_le HI5.out.lt (by assumption)
                    have b3 : w5.heap.size ≤ C3 := Nat.le_trans hHeld.size hle
                    have HI4 := Lib.hid (HI4.out.gr hg)
                    have HI1 := Lib.hid (HI1.out.gr hg)
                    have HI5 := Lib.hid (HI5.out.gr hg)
                    have HI3 := Lib.hid hm
                    have hHeld := hHeld.trans hg
                    clear hm hle hA3 hg
                    go_wp2_with fail
                    refine hK.out _ _ hHeld (fun hHeld => ?_)
                    clear hK K
                    try simp only [Act.put, List.getElem_toArray, List.getElem_cons_succ, List.getElem_cons_zero, List.setIfInBounds_toArray, List.set_cons_zero, List.set_cons_succ]
                    skip
                    refine wpAnyH_ready (rs := [6]) (by kernel_rfl) (by simp) ?_
                    refine AllReadyH.cons rfl (fun K hK => ?_) AllReadyH.nil
                    rw [if_pos (by rfl)]
                    refine wp_store_rp _ _ rfl B4 C1 0 (fun _ => none) (fun _ => (0, 0)) A1 rfl rfl HA1.out HI4.out.1 HI4.out.2 HI1.out (by omega) ?_
                    intro w7 hr7 hg7
                    have HR7 := Lib.hid hr7
                    have hHeld := hg7.gr hHeld (fun k e => by have e2 : k = B4 := e; omega)
                    have HI3 := Lib.hid (HI3.out.keepX hg7 (show ¬ C3 = B4 by omega))
                    have HI5 := Lib.hid (HI5.out.keepX hg7 (show ¬ B5 = B4 by omega))
                    clear hr7 hg7
                    refine hK.out _ _ hHeld (fun hHeld => ?_)
                    clear hK K
                    try simp only [Act.put, List.getElem_toArray, List.getElem_cons_succ, List.getElem_cons_zero]
                    refine wpAnyH_ready (rs := [7]) (by kernel_rfl) (by simp) ?_
                    refine AllReadyH.cons rfl (fun K hK => ?_) AllReadyH.nil
                    rw [if_pos (by rfl)]
                    refine wp_store_rp _ _ rfl B5 C3 0 (fun _ => none) (fun _ => (0, 0)) A3 rfl rfl HA3.out HI5.out.1 HI5.out.2 HI3.out (by omega) ?_
                    intro w8 hr8 hg8
                    have HR8 := Lib.hid hr8
                    have hHeld := hg8.gr hHeld (fun k e => by have e2 : k = B5 := e; omega)
                    have HR7 := Lib.hid (HR7.out.keepX hg8 (show ¬ B4 = B5 by omega) (show ¬ C1 = B5 by omega))
                    clear hr8 hg8
                    refine hK.out _ _ hHeld (fun hHeld => ?_)
                    clear hK K
                    refine wpAnyH_done (by kernel_rfl) ?_ _
                    go_wp2_with fail
                    go_meet
                    exact ⟨B4, C1, B5, C3, rfl, rfl, HR7.out, HR8.out, hHeld, ⟨by omega, by omega, by omega, by omega⟩, ⟨by omega, by omega, by omega, by omega, by omega, by omega⟩⟩
                exact AllReadyH.nil
            exact AllReadyH.nil
        refine AllReadyH.cons rfl (fun K hK => ?_) ?_
        · as_aux_lemma =>
            go_simp
            refine hK.out _ _ (hHeld.alloc _) (fun hHeld2 => ?_)
            obtain ⟨B5, hB5⟩ : ∃ B, B = w6y.heap.size := ⟨_, rfl⟩
            have hnv := new_rp w6y
            have hg := (Gr.refl w6y).alloc (.cells #[.map none, .int .i64 0, .int .i64 0, .int .i64 0, .int .i64 0, .int .i64 0, .int .i64 0, .int .i64 0, .int .i64 0, .int .i64 0, .int .i64 0, .int .i64 0, .int .i64 0, .int .i64 0, .int .i64 0, .int .i64 0, .int .i64 0] 38)
            have hle : w6y.heap.size ≤ B5 := by omega
            try simp only [World.heap_drew]
            rw [← hB5] at hnv ⊢
            have o45 : B4 < B5 := Nat.lt_of_lt_of_le HI4.out.lt (by assumption)
            have b5 : w5.heap.size ≤ B5 := Nat.le_trans hHeld.size hle
            generalize w6y.alloc (.cells #[.map none, .int .i64 0, .int .i64 0, .int .i64 0, .int .i64 0, .int .i64 0, .int .i64 0, .int .i64 0, .int .i64 0, .int .i64 0, .int .i64 0, .int .i64 0, .int .i64 0, .int .i64 0, .int .i64 0, .int .i64 0, .int .i64 0] 38) = w6yy at *
            have HI4 := Lib.hid (HI4.out.gr hg)
            have HI5 := Lib.hid hnv
            have hHeld := hHeld2
            clear hHeld2 hnv hg hle hB5
            clear hK K
            try simp only [Act.put, List.getElem_toArray, List.getElem_cons_succ, List.getElem_cons_zero, List.setIfInBounds_toArray, List.set_cons_zero, List.set_cons_succ]
            refine wpAnyH_ready (rs := [1]) (by kernel_rfl) (by simp) ?_
            refine AllReadyH.cons rfl (fun K hK => ?_) ?_
            · as_aux_lemma =>
                go_simp
                refine (hcp _ hHeld).mono ?_
                rintro e ww6yyx ⟨C1, rfl, hm, hle, hg⟩
                obtain ⟨A1, hA1⟩ : ∃ A : Array Value, A = (rp C1 (fun _ => (0, 0))).toArray := ⟨_, rfl⟩
                rw [← hA1]
                have HA1 := Lib.hid hA1
                have o41 : B4 < C1 := Nat.lt_of_lt_of_le HI4.out.lt (by assumption)
                have o51 : B5 < C1 := Nat.lt_of_lt_of_le HI5.out.lt (by assumption)
                have b1 : w5.heap.size ≤ C1 := Nat.le_trans hHeld.size hle
                have HI4 := Lib.hid (HI4.out.gr hg)
                have HI5 := Lib.hid (HI5.out.gr hg)
                have HI1 := Lib.hid hm
                have hHeld := hHeld.trans hg
                clear hm hle hA1 hg
                go_wp2_with fail
                refine hK.out _ _ hHeld (fun hHeld => ?_)
                clear hK K
                try simp only [Act.put, List.getElem_toArray, List.getElem_cons_succ, List.getElem_cons_zero, List.setIfInBounds_toArray, List.set_cons_zero, List.set_cons_succ]
                refine wpAnyH_ready (rs := [3]) (by kernel_rfl) (by simp) ?_
                refine AllReadyH.cons rfl (fun K hK => ?_) ?_
                · as_aux_lemma =>
                    go_simp
                    refine (hcp _ hHeld).mono ?_
                    rintro e www6yyxx ⟨C3, rfl, hm, hle, hg⟩
                    obtain ⟨A3, hA3⟩ : ∃ A : Array Value, A = (rp C3 (fun _ => (0, 0))).toArray := ⟨_, rfl⟩
                    rw [← hA3]
                    have HA3 := Lib.hid hA3
                    have o43 : B4 < C3 := Nat.lt_of_lt_of_le HI4.out.lt (by assumption)
                    have o53 : B5 < C3 := Nat.lt_of_lt_of_le HI5.out.lt (by assumption)
                    have o13 : C1 < C3 := Nat.lt_of_lt_of_le HI1.out.lt (by assumption)
                    have b3 : w5.heap.size ≤ C3 := Nat.le_trans hHeld.size hle
                    have HI4 := Lib.hid (HI4.out.gr hg)
                    have HI5 := Lib.hid (HI5.out.gr hg)
                    have HI1 := Lib.hid (HI1.out.gr hg)
                    have HI3 := Lib.hid hm
                    have hHeld := hHeld.trans hg
                    clear hm hle hA3 hg
                    go_wp2_with fail
                    refine hK.out _ _ hHeld (fun hHeld => ?_)
                    clear hK K
                    try simp only [Act.put, List.getElem_toArray, List.getElem_cons_succ, List.getElem_cons_zero, List.setIfInBounds_toArray, List.set_cons_zero, List.set_cons_succ]
                    skip
                    refine wpAnyH_ready (rs := [6]) (by kernel_rfl) (by simp) ?_
                    refine AllReadyH.cons rfl (fun K hK => ?_) AllReadyH.nil
                    rw [if_pos (by rfl)]
                    refine wp_store_rp _ _ rfl B4 C1 0 (fun _ => none) (fun _ => (0, 0)) A1 rfl rfl HA1.out HI4.out.1 HI4.out.2 HI1.out (by omega) ?_
                    intro w7 hr7 hg7
                    have HR7 := Lib.hid hr7
                    have hHeld := hg7.gr hHeld (fun k e => by have e2 : k = B4 := e; omega)
                    have HI3 := Lib.hid (HI3.out.keepX hg7 (show ¬ C3 = B4 by omega))
                    have HI5 := Lib.hid (HI5.out.keepX hg7 (show ¬ B5 = B4 by omega))
                    clear hr7 hg7
                    refine hK.out _ _ hHeld (fun hHeld => ?_)
                    clear hK K
                    try simp only [Act.put, List.getElem_toArray, List.getElem_cons_succ, List.getElem_cons_zero]
                    refine wpAnyH_ready (rs := [7]) (by kernel_rfl) (by simp) ?_
                    refine AllReadyH.cons rfl (fun K hK => ?_) AllReadyH.nil
                    rw [if_pos (by rfl)]
                    refine wp_store_rp _ _ rfl B5 C3 0 (fun _ => none) (fun _ => (0, 0)) A3 rfl rfl HA3.out HI5.out.1 HI5.out.2 HI3.out (by omega) ?_
                    intro w8 hr8 hg8
                    have HR8 := Lib.hid hr8
                    have hHeld := hg8.gr hHeld (fun k e => by have e2 : k = B5 := e; omega)
                    have HR7 := Lib.hid (HR7.out.keepX hg8 (show ¬ B4 = B5 by omega) (show ¬ C1 = B5 by omega))
                    clear hr8 hg8
                    refine hK.out _ _ hHeld (fun hHeld => ?_)
                    clear hK K
                    refine wpAnyH_done (by kernel_rfl) ?_ _
                    go_wp2_with fail
                    go_meet
                    exact ⟨B4, C1, B5, C3, rfl, rfl, HR7.out, HR8.out, hHeld, ⟨by omega, by omega, by omega, by omega⟩, ⟨by omega, by omega, by omega, by omega, by omega, by omega⟩⟩
                exact AllReadyH.nil
            exact AllReadyH.nil
        exact AllReadyH.nil
    refine AllReadyH.cons rfl (fun K hK => ?_) ?_
    · as_aux_lemma =>
        go_simp
        refine hK.out _ _ (hHeld.alloc _) (fun hHeld2 => ?_)
        obtain ⟨B5, hB5⟩ : ∃ B, B = w6.heap.size := ⟨_, rfl⟩
        have hnv := new_rp w6
        have hg := (Gr.refl w6).alloc (.cells #[.map none, .int .i64 0, .int .i64 0, .int .i64 0, .int .i64 0, .int .i64 0, .int .i64 0, .int .i64 0, .int .i64 0, .int .i64 0, .int .i64 0, .int .i64 0, .int .i64 0, .int .i64 0, .int .i64 0, .int .i64 0, .int .i64 0] 38)
        have hle : w6.heap.size ≤ B5 := by omega
        try simp only [World.heap_drew]
        rw [← hB5] at hnv ⊢
        have b5 : w5.heap.size ≤ B5 := Nat.le_trans hHeld.size hle
        generalize w6.alloc (.cells #[.map none, .int .i64 0, .int .i64 0, .int .i64 0, .int .i64 0, .int .i64 0, .int .i64 0, .int .i64 0, .int .i64 0, .int .i64 0, .int .i64 0, .int .i64 0, .int .i64 0, .int .i64 0, .int .i64 0, .int .i64 0, .int .i64 0] 38) = w6y at *
        have HI5 := Lib.hid hnv
        have hHeld := hHeld2
        clear hHeld2 hnv hg hle hB5
        clear hK K
        try simp only [Act.put, List.getElem_toArray, List.getElem_cons_succ, List.getElem_cons_zero, List.setIfInBounds_toArray, List.set_cons_zero, List.set_cons_succ]
        refine wpAnyH_ready (rs := [1, 4]) (by kernel_rfl) (by simp) ?_
        refine AllReadyH.cons rfl (fun K hK => ?_) ?_
        · as_aux_lemma =>
            go_simp
            refine (hcp _ hHeld).mono ?_
            rintro e ww6yx ⟨C1, rfl, hm, hle, hg⟩
            obtain ⟨A1, hA1⟩ : ∃ A : Array Value, A = (rp C1 (fun _ => (0, 0))).toArray := ⟨_, rfl⟩
            rw [← hA1]
            have HA1 := Lib.hid hA1
            have o51 : B5 < C1 := Nat.lt_of_lt_of_le HI5.out.lt (by assumption)
            have b1 : w5.heap.size ≤ C1 := Nat.le_trans hHeld.size hle
            have HI5 := Lib.hid (HI5.out.gr hg)
            have HI1 := Lib.hid hm
            have hHeld := hHeld.trans hg
            clear hm hle hA1 hg
            go_wp2_with fail
            refine hK.out _ _ hHeld (fun hHeld => ?_)
            clear hK K
            try simp only [Act.put, List.getElem_toArray, List.getElem_cons_succ, List.getElem_cons_zero, List.setIfInBounds_toArray, List.set_cons_zero, List.set_cons_succ]
            refine wpAnyH_ready (rs := [3, 4]) (by kernel_rfl) (by simp) ?_
            refine AllReadyH.cons rfl (fun K hK => ?_) ?_
            · as_aux_lemma =>
                go_simp
                refine (hcp _ hHeld).mono ?_
                rintro e www6yxx ⟨C3, rfl, hm, hle, hg⟩
                obtain ⟨A3, hA3⟩ : ∃ A : Array Value, A = (rp C3 (fun _ => (0, 0))).toArray := ⟨_, rfl⟩
                rw [← hA3]
                have HA3 := Lib.hid hA3
                have o53 : B5 < C3 := Nat.lt_of_lt_of_le HI5.out.lt (by assumption)
                have o13 : C1 < C3 := Nat.lt_of_lt_of_le HI1.out.lt (by assumption)
                have b3 : w5.heap.size ≤ C3 := Nat.le_trans hHeld.size hle
                have HI5 := Lib.hid (HI5.out.gr hg)
                have HI1 := Lib.hid (HI1.out.gr hg)
                have HI3 := Lib.hid hm
                have hHeld := hHeld.trans hg
                clear hm hle hA3 hg
                go_wp2_with fail
                refine hK.out _ _ hHeld (fun hHeld => ?_)
                clear hK K
                try simp only [Act.put, List.getElem_toArray, List.getElem_cons_succ, List.getElem_cons_zero, List.setIfInBounds_toArray, List.set_cons_zero, List.set_cons_succ]
                refine wpAnyH_ready (rs := [4]) (by kernel_rfl) (by simp) ?_
                refine AllReadyH.cons rfl (fun K hK => ?_) ?_
                · as_aux_lemma =>
                    go_simp
                    refine hK.out _ _ (hHeld.alloc _) (fun hHeld2 => ?_)
                    obtain ⟨B4, hB4⟩ : ∃ B, B = www6yxx.heap.size := ⟨_, rfl⟩
                    have hnv := new_rp www6yxx
                    have hg := (Gr.refl www6yxx).alloc (.cells #[.map none, .int .i64 0, .int .i64 0, .int .i64 0, .int .i64 0, .int .i64 0, .int .i64 0, .int .i64 0, .int .i64 0, .int .i64 0, .int .i64 0, .int .i64 0, .int .i64 0, .int .i64 0, .int .i64 0, .int .i64 0, .int .i64 0] 38)
                    have hle : www6yxx.heap.size ≤ B4 := by omega
                    try simp only [World.heap_drew]
                    rw [← hB4] at hnv ⊢
                    have o54 : B5 < B4 := Nat.lt_of_lt_of_le HI5.out.lt (by assumption)
                    have o14 : C1 < B4 := Nat.lt_of_lt_of_le HI1.out.lt (by assumption)
                    have o34 : C3 < B4 := Nat.lt_of_lt_of_le HI3.out.lt (by assumption)
                    have b4 : w5.heap.size ≤ B4 := Nat.le_trans hHeld.size hle
                    generalize www6yxx.alloc (.cells #[.map none, .int .i64 0, .int .i64 0, .int .i64 0, .int .i64 0, .int .i64 0, .int .i64 0, .int .i64 0, .int .i64 0, .int .i64 0, .int .i64 0, .int .i64 0, .int .i64 0, .int .i64 0, .int .i64 0, .int .i64 0, .int .i64 0] 38) = www6yxxy at *
                    have HI5 := Lib.hid (HI5.out.gr hg)
                    have HI1 := Lib.hid (HI1.out.gr hg)
                    have HI3 := Lib.hid (HI3.out.gr hg)
                    have HI4 := Lib.hid hnv
                    have hHeld := hHeld2
                    clear hHeld2 hnv hg hle hB4
                    clear hK K
                    try simp only [Act.put, List.getElem_toArray, List.getElem_cons_succ, List.getElem_cons_zero, List.setIfInBounds_toArray, List.set_cons_zero, List.set_cons_succ]
                    skip
                    refine wpAnyH_ready (rs := [6]) (by kernel_rfl) (by simp) ?_
                    refine AllReadyH.cons rfl (fun K hK => ?_) AllReadyH.nil
                    rw [if_pos (by rfl)]
                    refine wp_store_rp _ _ rfl B4 C1 0 (fun _ => none) (fun _ => (0, 0)) A1 rfl rfl HA1.out HI4.out.1 HI4.out.2 HI1.out (by omega) ?_
                    intro w7 hr7 hg7
                    have HR7 := Lib.hid hr7
                    have hHeld := hg7.gr hHeld (fun k e => by have e2 : k = B4 := e; omega)
                    have HI3 := Lib.hid (HI3.out.keepX hg7 (show ¬ C3 = B4 by omega))
                    have HI5 := Lib.hid (HI5.out.keepX hg7 (show ¬ B5 = B4 by omega))
                    clear hr7 hg7
                    refine hK.out _ _ hHeld (fun hHeld => ?_)
                    clear hK K
                    try simp only [Act.put, List.getElem_toArray, List.getElem_cons_succ, List.getElem_cons_zero]
                    refine wpAnyH_ready (rs := [7]) (by kernel_rfl) (by simp) ?_
                    refine AllReadyH.cons rfl (fun K hK => ?_) AllReadyH.nil
                    rw [if_pos (by rfl)]
                    refine wp_store_rp _ _ rfl B5 C3 0 (fun _ => none) (fun _ => (0, 0)) A3 rfl rfl HA3.out HI5.out.1 HI5.out.2 HI3.out (by omega) ?_
                    intro w8 hr8 hg8
                    have HR8 := Lib.hid hr8
                    have hHeld := hg8.gr hHeld (fun k e => by have e2 : k = B5 := e; omega)
                    have HR7 := Lib.hid (HR7.out.keepX hg8 (show ¬ B4 = B5 by omega) (show ¬ C1 = B5 by omega))
                    clear hr8 hg8
                    refine hK.out _ _ hHeld (fun hHeld => ?_)
                    clear hK K
                    refine wpAnyH_done (by kernel_rfl) ?_ _
                    go_wp2_with fail
                    go_meet
                    exact ⟨B4, C1, B5, C3, rfl, rfl, HR7.out, HR8.out, hHeld, ⟨by omega, by omega, by omega, by omega⟩, ⟨by omega, by omega, by omega, by omega, by omega, by omega⟩⟩
                exact AllReadyH.nil
            refine AllReadyH.cons rfl (fun K hK => ?_) ?_
            · as_aux_lemma =>
                go_simp
                refine hK.out _ _ (hHeld.alloc _) (fun hHeld2 => ?_)
                obtain ⟨B4, hB4⟩ : ∃ B, B = ww6yx.heap.size := ⟨_, rfl⟩
                have hnv := new_rp ww6yx
                have hg := (Gr.refl ww6yx).alloc (.cells #[.map none, .int .i64 0, .int .i64 0, .int .i64 0, .int .i64 0, .int .i64 0, .int .i64 0, .int .i64 0, .int .i64 0, .int .i64 0, .int .i64 0, .int .i64 0, .int .i64 0, .int .i64 0, .int .i64 0, .int .i64 0, .int .i64 0] 38)
                have hle : ww6yx.heap.size ≤ B4 := by omega
                try simp only [World.heap_drew]
                rw [← hB4] at hnv ⊢
                have o54 : B5 < B4 := Nat.lt_of_lt_of_le HI5.out.lt (by assumption)
                have o14 : C1 < B4 := Nat.lt_of_lt_of_le HI1.out.lt (by assumption)
                have b4 : w5.heap.size ≤ B4 := Nat.le_trans hHeld.size hle
                generalize ww6yx.alloc (.cells #[.map none, .int .i64 0, .int .i64 0, .int .i64 0, .int .i64 0, .int .i64 0, .int .i64 0, .int .i64 0, .int .i64 0, .int .i64 0, .int .i64 0, .int .i64 0, .int .i64 0, .int .i64 0, .int .i64 0, .int .i64 0, .int .i64 0] 38) = ww6yxy at *
                have HI5 := Lib.hid (HI5.out.gr hg)
                have HI1 := Lib.hid (HI1.out.gr hg)
                have HI4 := Lib.hid hnv
                have hHeld := hHeld2
                clear hHeld2 hnv hg hle hB4
                clear hK K
                try simp only [Act.put, List.getElem_toArray, List.getElem_cons_succ, List.getElem_cons_zero, List.setIfInBounds_toArray, List.set_cons_zero, List.set_cons_succ]
                refine wpAnyH_ready (rs := [3]) (by kernel_rfl) (by simp) ?_
                refine AllReadyH.cons rfl (fun K hK => ?_) ?_
                · as_aux_lemma =>
                    go_simp
                    refine (hcp _ hHeld).mono ?_
                    rintro e www6yxyx ⟨C3, rfl, hm, hle, hg⟩
                    obtain ⟨A3, hA3⟩ : ∃ A : Array Value, A = (rp C3 (fun _ => (0, 0))).toArray := ⟨_, rfl⟩
                    rw [← hA3]
                    have HA3 := Lib.hid hA3
                    have o53 : B5 < C3 := Nat.lt_of_lt_of_le HI5.out.lt (by assumption)
                    have o13 : C1 < C3 := Nat.lt_of_lt_of_le HI1.out.lt (by assumption)
                    have o43 : B4 < C3 := Nat.lt_of_lt_of_le HI4.out.lt (by assumption)
                    have b3 : w5.heap.size ≤ C3 := Nat.le_trans hHeld.size hle
                    have HI5 := Lib.hid (HI5.out.gr hg)
                    have HI1 := Lib.hid (HI1.out.gr hg)
                    have HI4 := Lib.hid (HI4.out.gr hg)
                    have HI3 := Lib.hid hm
                    have hHeld := hHeld.trans hg
                    clear hm hle hA3 hg
                    go_wp2_with fail
                    refine hK.out _ _ hHeld (fun hHeld => ?_)
                    clear hK K
                    try simp only [Act.put, List.getElem_toArray, List.getElem_cons_succ, List.getElem_cons_zero, List.setIfInBounds_toArray, List.set_cons_zero, List.set_cons_succ]
                    skip
                    refine wpAnyH_ready (rs := [6]) (by kernel_rfl) (by simp) ?_
                    refine AllReadyH.cons rfl (fun K hK => ?_) AllReadyH.nil
                    rw [if_pos (by rfl)]
                    refine wp_store_rp _ _ rfl B4 C1 0 (fun _ => none) (fun _ => (0, 0)) A1 rfl rfl HA1.out HI4.out.1 HI4.out.2 HI1.out (by omega) ?_
                    intro w7 hr7 hg7
                    have HR7 := Lib.hid hr7
                    have hHeld := hg7.gr hHeld (fun k e => by have e2 : k = B4 := e; omega)
                    have HI3 := Lib.hid (HI3.out.keepX hg7 (show ¬ C3 = B4 by omega))
                    have HI5 := Lib.hid (HI5.out.keepX hg7 (show ¬ B5 = B4 by omega))
                    clear hr7 hg7
                    refine hK.out _ _ hHeld (fun hHeld => ?_)
                    clear hK K
                    try simp only [Act.put, List.getElem_toArray, List.getElem_cons_succ, List.getElem_cons_zero]
                    refine wpAnyH_ready (rs := [7]) (by kernel_rfl) (by simp) ?_
                    refine AllReadyH.cons rfl (fun K hK => ?_) AllReadyH.nil
                    rw [if_pos (by rfl)]
                    refine wp_store_rp _ _ rfl B5 C3 0 (fun _ => none) (fun _ => (0, 0)) A3 rfl rfl HA3.out HI5.out.1 HI5.out.2 HI3.out (by omega) ?_
                    intro w8 hr8 hg8
                    have HR8 := Lib.hid hr8
                    have hHeld := hg8.gr hHeld (fun k e => by have e2 : k = B5 := e; omega)
                    have HR7 := Lib.hid (HR7.out.keepX hg8 (show ¬ B4 = B5 by omega) (show ¬ C1 = B5 by omega))
                    clear hr8 hg8
                    refine hK.out _ _ hHeld (fun hHeld => ?_)
                    clear hK K
                    refine wpAnyH_done (by kernel_rfl) ?_ _
                    go_wp2_with fail
                    go_meet
                    exact ⟨B4, C1, B5, C3, rfl, rfl, HR7.out, HR8.out, hHeld, ⟨by omega, by omega, by omega, by omega⟩, ⟨by omega, by omega, by omega, by omega, by omega, by omega⟩⟩
                exact AllReadyH.nil
            exact AllReadyH.nil
        refine AllReadyH.cons rfl (fun K hK => ?_) ?_
        · as_aux_lemma =>
            go_simp
            refine hK.out _ _ (hHeld.alloc _) (fun hHeld2 => ?_)
            obtain ⟨B4, hB4⟩ : ∃ B, B = w6y.heap.size := ⟨_, rfl⟩
            have hnv := new_rp w6y
            have hg := (Gr.refl w6y).alloc (.cells #[.map none, .int .i64 0, .int .i64 0, .int .i64 0, .int .i64 0, .int .i64 0, .int .i64 0, .int .i64 0, .int .i64 0, .int .i64 0, .int .i64 0, .int .i64 0, .int .i64 0, .int .i64 0, .int .i64 0, .int .i64 0, .int .i64 0] 38)
            have hle : w6y.heap.size ≤ B4 := by omega
            try simp only [World.heap_drew]
            rw [← hB4] at hnv ⊢
            have o54 : B5 < B4 := Nat.lt_of_lt_of_le HI5.out.lt (by assumption)
            have b4 : w5.heap.size ≤ B4 := Nat.le_trans hHeld.size hle
            generalize w6y.alloc (.cells #[.map none, .int .i64 0, .int .i64 0, .int .i64 0, .int .i64 0, .int .i64 0, .int .i64 0, .int .i64 0, .int .i64 0, .int .i64 0, .int .i64 0, .int .i64 0, .int .i64 0, .int .i64 0, .int .i64 0, .int .i64 0, .int .i64 0] 38) = w6yy at *
            have HI5 := Lib.hid (HI5.out.gr hg)
            have HI4 := Lib.hid hnv
            have hHeld := hHeld2
            clear hHeld2 hnv hg hle hB4
            clear hK K
            try simp only [Act.put, List.getElem_toArray, List.getElem_cons_succ, List.getElem_cons_zero, List.setIfInBounds_toArray, List.set_cons_zero, List.set_cons_succ]
            refine wpAnyH_ready (rs := [1]) (by kernel_rfl) (by simp) ?_
            refine AllReadyH.cons rfl (fun K hK => ?_) ?_
            · as_aux_lemma =>
                go_simp
                refine (hcp _ hHeld).mono ?_
                rintro e ww6yyx ⟨C1, rfl, hm, hle, hg⟩
                obtain ⟨A1, hA1⟩ : ∃ A : Array Value, A = (rp C1 (fun _ => (0, 0))).toArray := ⟨_, rfl⟩
                rw [← hA1]
                have HA1 := Lib.hid hA1
                have o51 : B5 < C1 := Nat.lt_of_lt_of_le HI5.out.lt (by assumption)
                have o41 : B4 < C1 := Nat.lt_of_lt_of_le HI4.out.lt (by assumption)
                have b1 : w5.heap.size ≤ C1 := Nat.le_trans hHeld.size hle
                have HI5 := Lib.hid (HI5.out.gr hg)
                have HI4 := Lib.hid (HI4.out.gr hg)
                have HI1 := Lib.hid hm
                have hHeld := hHeld.trans hg
                clear hm hle hA1 hg
                go_wp2_with fail
                refine hK.out _ _ hHeld (fun hHeld => ?_)
                clear hK K
                try simp only [Act.put, List.getElem_toArray, List.getElem_cons_succ, List.getElem_cons_zero, List.setIfInBounds_toArray, List.set_cons_zero, List.set_cons_succ]
                refine wpAnyH_ready (rs := [3]) (by kernel_rfl) (by simp) ?_
                refine AllReadyH.cons rfl (fun K hK => ?_) ?_
                · as_aux_lemma =>
                    go_simp
                    refine (hcp _ hHeld).mono ?_
                    rintro e www6yyxx ⟨C3, rfl, hm, hle, hg⟩
                    obtain ⟨A3, hA3⟩ : ∃ A : Array Value, A = (rp C3 (fun _ => (0, 0))).toArray := ⟨_, rfl⟩
                    rw [← hA3]
                    have HA3 := Lib.hid hA3
                    have o53 : B5 < C3 := Nat.lt_of_lt_of_le HI5.out.lt (by assumption)
                    have o43 : B4 < C3 := Nat.lt_of_lt_of_le HI4.out.lt (by assumption)
                    have o13 : C1 < C3 := Nat.lt_of_lt_of_le HI1.out.lt (by assumption)
                    have b3 : w5.heap.size ≤ C3 := Nat.le_trans hHeld.size hle
                    have HI5 := Lib.hid (HI5.out.gr hg)
                    have HI4 := Lib.hid (HI4.out.gr hg)
                    have HI1 := Lib.hid (HI1.out.gr hg)
                    have HI3 := Lib.hid hm
                    have hHeld := hHeld.trans hg
                    clear hm hle hA3 hg
                    go_wp2_with fail
                    refine hK.out _ _ hHeld (fun hHeld => ?_)
                    clear hK K
                    try simp only [Act.put, List.getElem_toArray, List.getElem_cons_succ, List.getElem_cons_zero, List.setIfInBounds_toArray, List.set_cons_zero, List.set_cons_succ]
                    skip
                    refine wpAnyH_ready (rs := [6]) (by kernel_rfl) (by simp) ?_
                    refine AllReadyH.cons rfl (fun K hK => ?_) AllReadyH.nil
                    rw [if_pos (by rfl)]
                    refine wp_store_rp _ _ rfl B4 C1 0 (fun _ => none) (fun _ => (0, 0)) A1 rfl rfl HA1.out HI4.out.1 HI4.out.2 HI1.out (by omega) ?_
                    intro w7 hr7 hg7
                    have HR7 := Lib.hid hr7
                    have hHeld := hg7.gr hHeld (fun k e => by have e2 : k = B4 := e; omega)
                    have HI3 := Lib.hid (HI3.out.keepX hg7 (show ¬ C3 = B4 by omega))
                    have HI5 := Lib.hid (HI5.out.keepX hg7 (show ¬ B5 = B4 by omega))
                    clear hr7 hg7
                    refine hK.out _ _ hHeld (fun hHeld => ?_)
                    clear hK K
                    try simp only [Act.put, List.getElem_toArray, List.getElem_cons_succ, List.getElem_cons_zero]
                    refine wpAnyH_ready (rs := [7]) (by kernel_rfl) (by simp) ?_
                    refine AllReadyH.cons rfl (fun K hK => ?_) AllReadyH.nil
                    rw [if_pos (by rfl)]
                    refine wp_store_rp _ _ rfl B5 C3 0 (fun _ => none) (fun _ => (0, 0)) A3 rfl rfl HA3.out HI5.out.1 HI5.out.2 HI3.out (by omega) ?_
                    intro w8 hr8 hg8
                    have HR8 := Lib.hid hr8
                    have hHeld := hg8.gr hHeld (fun k e => by have e2 : k = B5 := e; omega)
                    have HR7 := Lib.hid (HR7.out.keepX hg8 (show ¬ B4 = B5 by omega) (show ¬ C1 = B5 by omega))
                    clear hr8 hg8
                    refine hK.out _ _ hHeld (fun hHeld => ?_)
                    clear hK K
                    refine wpAnyH_done (by kernel_rfl) ?_ _
                    go_wp2_with fail
                    go_meet
                    exact ⟨B4, C1, B5, C3, rfl, rfl, HR7.out, HR8.out, hHeld, ⟨by omega, by omega, by omega, by omega⟩, ⟨by omega, by omega, by omega, by omega, by omega, by omega⟩⟩
                exact AllReadyH.nil
            exact AllReadyH.nil
        exact AllReadyH.nil
    exact AllReadyH.nil
  case rest =>
    as_aux_lemma =>
      obtain ⟨SB, SM, OB, OM, rfl, rfl, hrs, hro, hgc, ⟨i1, i2, i3, i4⟩, ⟨n1, n2, n3, n4, n5, n6⟩⟩ := hcut
      have HSV := Lib.hid hrs
      have HNO := Lib.hid hro
      have HGC := Lib.hid hgc
      have HSC := Lib.hid (HS5.out.gr hgc)
      have HNC := Lib.hid (HN5.out.gr hgc)
      clear hrs hro hgc hcp HA0 A0
      go_wp2_with fail
      refine (mark_s HSC.out).mono ?_
      rintro e w8 ⟨MK, nK, rfl, hnK, hmk, hleK, hg⟩
      have HS8 := Lib.hid (HSC.out.gr hg)
      have HSV8 := Lib.hid (HSV.out.gr hg)
      have HNO8 := Lib.hid (HNO.out.gr hg)
      have HNC8 := Lib.hid (HNC.out.gr hg)
      have HG8 := Lib.hid ((HG5.out.trans HGC.out).trans hg)
      have HMK := Lib.hid hmk
      have hltK := hmk.lt
      obtain ⟨CM, hCM⟩ : ∃ A : Array Value, A = (markCells (Ch.new headZ).h (some MK) 0).toArray := ⟨_, rfl⟩
      rw [← hCM]
      have HCM := Lib.hid hCM
      have hszc := HGC.out.size
      have l1 := HSV.out.lt
      have l2 := HSV.out.map.lt
      have l3 := HNO.out.lt
      have l4 := HNO.out.map.lt
      have l5 := HNC.out.lt
      have l6 := HNC.out.map.lt
      have l7 := HSC.out.lt
      have l8 := HN5.out.lt
      have l9 := HN5.out.map.lt
      have l10 := HS4.out.lt
      have hsz8 := hg.size
      clear hCM hg hmk
      have hga : Gr w8 (w8.alloc (.cells Tryz.zeroCells45 45)) := (Gr.refl w8).alloc _
      have hth : (w8.alloc (.cells Tryz.zeroCells45 45)).there w8.heap.size 0 2018 := fun j hj => by
        constructor
        · rw [World.cell?_alloc_new, Array.getElem?_eq_getElem (by rw [zero_mark_size]; omega)]
          rfl
        · simp
      have HTH := Lib.hid hth
      clear hth
      go_wp2_with (refine wpList_store_mark2 rfl _ _ rfl w8.heap.size (Ch.new headZ).h (some MK) 0 CM rfl rfl HCM.out HTH.out ?_; intro w9 hr9 hg9 hf9; have HR9 := Lib.hid hr9; have HGX9 := Lib.hid hg9; have HFR9 := Lib.hid hf9; clear hr9 hg9 hf9)
      have hl9 : w8.heap.size < w9.heap.size := by
        have h1 := HGX9.out.2.2.2.1
        simp at h1
        omega
      have hL : LSt w w9 PB DB M2 0 NB NM 0 (fun _ => none) (fun _ => (0, 0)) SB SM 0 (fun _ => none) (fun _ => (0, 0)) OB OM 0 (fun _ => none) (fun _ => (0, 0)) w8.heap.size MK 0 headZ (fun _ => none) 0 (.new headZ) headZ 0 dk0 true 0 true := by
        have hmk : MapAt w8 MK 0 (fun _ => none) := HMK.out.mono hnK
        have ga : ∀ b, b < w8.heap.size → ¬ (fun k => k = w8.heap.size) b := fun b hb e => by have e2 : b = w8.heap.size := e; omega
        have hw := HG8.out.size
        have hw4 := HG4.out.size
        refine ⟨(HS8.out.gr hga).far HGX9.out (by omega) (by omega) (by omega), ⟨(HNC8.out.gr hga).keepX HGX9.out (ga _ (by omega)) (ga _ (by omega)), (HSV8.out.gr hga).keepX HGX9.out (ga _ (by omega)) (ga _ (by omega)), (HNO8.out.gr hga).keepX HGX9.out (ga _ (by omega)) (ga _ (by omega)), HR9.out, fun o => by rw [HFR9.out]; simp, (hmk.gr hga).keepX HGX9.out (ga _ (by omega)), ?_, hl9⟩, ?_, HGX9.out.gr (HG8.out.trans hga) (fun k e => by have e2 : k = w8.heap.size := e; omega), ⟨⟨HPB.out.1, HPB.out.2, HB2.out⟩, ?_⟩, (fun _ => Lk.zero), (fun _ => Lk.zero), fun _ => ⟨rfl, Lk.zero, Ch.new_fine headZ_fine⟩, (fun e => by cases e), (by omega), Ch.new_fine headZ_fine, clean0, rfl, ⟨by show _ ≤ (0 : Int); omega, by show (0 : Int) ≤ 0; omega⟩, ⟨by omega, by omega⟩, ⟨by omega, by omega, by omega, by omega, by omega⟩, ⟨?_, ?_, fun _ => ?_⟩⟩
        · simp only [List.nodup_cons, List.mem_cons, List.not_mem_nil, or_false, not_or, not_false_eq_true, List.nodup_nil, and_true]
          refine ⟨⟨by omega, by omega, by omega, by omega, by omega, by omega, by omega⟩, ⟨by omega, by omega, by omega, by omega, by omega, by omega⟩, ⟨n1, n2, n3, by omega, by omega⟩, ⟨n4, n5, by omega, by omega⟩, ⟨n6, by omega, by omega⟩, ⟨by omega, by omega⟩, by omega⟩
        · intro b hb
          simp only [List.mem_cons, List.not_mem_nil, or_false] at hb
          rcases hb with rfl | rfl | rfl | rfl | rfl | rfl | rfl | rfl <;> exact ⟨by omega, by omega, by omega⟩
        · intro b hb
          simp only [List.mem_cons, List.not_mem_nil, or_false] at hb
          have := HG5.out.size
          rcases hb with rfl | rfl | rfl | rfl | rfl | rfl | rfl | rfl <;> omega
        · show usedN headZ 2000 ≤ _
          rw [usedN_zero 1999]
          omega
        · rw [usedN_zero 1999]
          omega
        · rw [usedN_zero 1999]
          omega
      have HLS := Lib.hid hL
      clear hL hga hl9 HR9 HGX9 HFR9 HTH HCM HMK
      generalize w8.heap.size = KB at *
      have hKD : LRel w DB NB SB OB KB 0 (.pointer (some ⟨PB, 0, none⟩)) true w9 := ⟨_, _, _, _, _, _, _, _, _, _, _, _, _, _, _, _, _, _, _, _, _, _, _, _, rfl, HLS.out⟩
      clear HLS HG8 HNC8 HNO8 HSV8 HS8 hsz8 l1 l2 l3 l4 l5 l6 l7 l8 l9 l10 hszc hltK hleK hnK HNC HSC HGC HNO HSV i1 i2 i3 i4 n1 n2 n3 n4 n5 n6 HH5 HG5 HS5 HN5 q1 q2 HG4 HS4 hg4 HG3 HS3 hg3 HG2 HS2 HB2 HPB HD1 HG1
      go_loopg [4, 12, 13] xs.length (fun g pv fv iv wr => ∃ (i : Nat) (fr : Bool), i + g = xs.length ∧ fv = .bool fr ∧ iv = .int .i64 i ∧ LRel w DB NB SB OB KB i pv fr wr)
      case atStart => exact ⟨0, true, by omega, rfl, rfl, hKD⟩
      case round =>
        as_aux_lemma =>
          clear hKD
          obtain ⟨i, fr, hig, rfl, rfl, PBr, Mr, n, NMr, nn, G, R, SMr, sn, G1, R1, OMr, on, G2, R2, MKr, nKr, hm, Fm, tm, c, sv, t, d, rfl, hL⟩ := hrel
          have HL := Lib.hid hL
          clear hL
          by_cases hlt : i < xs.length
          · obtain ⟨b, off, rfl, hb, c0, c1, c2, c3⟩ := (HX.out.gr HL.out.g0).at hlt
            obtain ⟨r0, r1, r2, r3⟩ := HR.out _ (List.getElem_mem hlt)
            generalize xs[i] = x at *
            obtain ⟨q, a, m, t3⟩ := x
            simp only at c0 c1 c2 c3 r0 r1 r2 r3
            have k0 := ((HL.out.oth.now.gr ((Gr.refl wr).alloc (.cells #[.int .i64 q, .int .i64 a, .int .i64 m, .int .i64 t3] 48))).cell)
            have hlk := (HL.out.oth.now.gr ((Gr.refl wr).alloc (.cells #[.int .i64 q, .int .i64 a, .int .i64 m, .int .i64 t3] 48))).map.look (k := a) r1
            go_upto_region 17 with (fail)
            have hbx : Gr wr (wr.alloc (.cells #[.int .i64 q, .int .i64 a, .int .i64 m, .int .i64 t3] 48)) := (Gr.refl wr).alloc _
            have x0 : (wr.alloc (.cells #[.int .i64 q, .int .i64 a, .int .i64 m, .int .i64 t3] 48)).cell? ⟨wr.heap.size, 0, none⟩ = some (.int .i64 q) := by rw [World.cell?_alloc_new]; rfl
            have x1 : (wr.alloc (.cells #[.int .i64 q, .int .i64 a, .int .i64 m, .int .i64 t3] 48)).cell? ⟨wr.heap.size, 1, none⟩ = some (.int .i64 a) := by rw [World.cell?_alloc_new]; rfl
            have x2 : (wr.alloc (.cells #[.int .i64 q, .int .i64 a, .int .i64 m, .int .i64 t3] 48)).cell? ⟨wr.heap.size, 2, none⟩ = some (.int .i64 m) := by rw [World.cell?_alloc_new]; rfl
            have x3 : (wr.alloc (.cells #[.int .i64 q, .int .i64 a, .int .i64 m, .int .i64 t3] 48)).cell? ⟨wr.heap.size, 3, none⟩ = some (.int .i64 t3) := by rw [World.cell?_alloc_new]; rfl
            have HLb := Lib.hid (HL.out.gr hbx)
            have HSEP : Hid (∀ b ∈ [NB, NMr, SB, SMr, OB, OMr, KB, MKr], b < wr.heap.size) := Lib.hid HL.out.oth.lts
            have HPL := Lib.hid HL.out.pg.lt
            clear hbx hlk k0 HL c0 c1 c2 c3 hb
            generalize wr.alloc (.cells #[.int .i64 q, .int .i64 a, .int .i64 m, .int .i64 t3] 48) = wb at *
            generalize wr.heap.size = XB at *
            obtain ⟨ub, hub⟩ : ∃ ub, (G a).isSome = ub := ⟨_, rfl⟩
            have HUB := Lib.hid hub
            rw [hub]
            clear hub
            go_upto_block 2 with fail
            go_cut [4, 5, 12] (fun s4 _ s12 wx => ∃ fr', s12 = .bool fr' ∧ LRel w DB NB SB OB KB (i + 1) s4 fr' wx)
            case first =>
              by_cases q5 : q = 5
              · as_aux_lemma =>
                  subst q5
                  go_wp2_with (first
                    | (go_at_call 15; refine (rollback_s HLb.out.pg).mono ?_; rintro e w10 ⟨rfl, M10, hs10, hf10⟩
                       have HS10 := Lib.hid hs10
                       have HM10 := Lib.hid (HLb.out.moved hf10)
                       clear hs10 hf10)
                    | (refine wpList_load_rp rfl _ rfl SB SMr sn G1 R1 rfl HM10.out.1.saved ?_; intro A1 hA1)
                    | (go_at_call 6; rw [hA1.out]; refine (copy_r SMr sn G1 R1 _ HM10.out.1.saved.map (by have := HLb.out.nb; omega) (fun k s e => (((HLb.out.l1 rfl).fineG (Ch.new_fine HLb.out.cl.fine) HLb.out.cl.whole) k s e).2.2)).mono ?_; rintro e w11 ⟨C1, rfl, hm11, hle11, hg11⟩
                       obtain ⟨A2, hA2⟩ : ∃ A : Array Value, A = (rp C1 R1).toArray := ⟨_, rfl⟩
                       rw [← hA2]
                       have HA2 := Lib.hid hA2
                       have HM11 := Lib.hid hm11
                       have HO11 := Lib.hid (HM10.out.1.gr hg11)
                       have HG11 := Lib.hid hg11
                       have HC11 := Lib.hid hle11
                       clear hA2 hm11 hle11 hg11)
                    | (refine wpList_store_rp rfl _ _ rfl NB C1 sn G1 R1 A2 rfl rfl HA2.out HO11.out.now.there HO11.out.now.free HM11.out (by have := HM10.out.1.now.lt; have := HC11.out; omega) ?_; intro w12 hr12 hg12))
                  go_meet
                  have h10 : LSt w w10 PBr DB M10 0 NB NMr nn G R SB SMr sn G1 R1 OB OMr on G2 R2 KB MKr nKr hm Fm tm (.new sv) sv t d fr i false :=
                    ⟨HS10.out, HM10.out.1, HM10.out.2.1, HM10.out.2.2.1, HM10.out.2.2.2, (fun e => by cases e), (fun e => by cases e), HLb.out.l2, HLb.out.l3, HLb.out.tm0, Ch.new_fine HLb.out.cl.fine, HLb.out.cl, HLb.out.cut, HLb.out.left, HLb.out.tb, ⟨by omega, HLb.out.nb.2⟩, ⟨HLb.out.us.2.1, HLb.out.us.2⟩⟩
                  have h12 := h10.setNow ((GrX.of_gr HG11.out).trans hg12) (fun k e => .inl e) hr12 (.inr HC11.out) (HLb.out.l1 rfl) (HLb.out.l1 rfl) HLb.out.nb.2.2.1
                  exact ⟨fr, rfl, _, _, _, _, _, _, _, _, _, _, _, _, _, _, _, _, _, _, _, _, _, _, _, _, rfl, h12.up⟩
              by_cases q0 : q = 0
              · as_aux_lemma =>
                  subst q0
                  obtain ⟨k, hk⟩ := alloc_more (h := c.h) (by have := HLb.out.us.1; omega)
                  obtain ⟨k1, k2, k3, k4⟩ := allocF_some HLb.out.cf.head hk
                  have hal := alloc_s HLb.out.pg (by have := HLb.out.nb; omega)
                  have e1 : allocV c = .tuple #[.int .i64 k, .nilIface] := by unfold allocV; rw [hk]
                  have e2 : c.alloc = ⟨c.h.put k true, setF c.F k (some zerosB)⟩ := by unfold Ch.alloc; rw [hk]
                  have hl0 := HLb.out.l0 rfl
                  have g0 : G (k : Int) = none := by
                    have := hl0.used (k : Int)
                    rw [inUse_nat _ k1 k2, k3] at this
                    simpa using this
                  have g1 : ∀ j : Nat, 1 ≤ j → j < k → (G j).isSome = true := fun j j1 j2 => by rw [hl0.used, inUse_nat _ j1 (by omega)]; exact k4 j j2
                  have hfa := HLb.out.cf.alloc_fine
                  rw [e1, e2] at hal
                  rw [e2] at hfa
                  have HFA := Lib.hid hfa
                  have HG0 := Lib.hid g0
                  have HG1 := Lib.hid g1
                  have HPU := Lib.hid (usedN_put c.h k k3 2000)
                  have HL0 := Lib.hid (hl0.put k1 k2 zerosB)
                  clear hk k3 k4 e1 e2 hl0 g0 g1 hfa
                  go_wp2_with (first
                    | (go_at_call 8; refine hal.mono ?_; rintro e w10 ⟨rfl, hs10, hf10⟩
                       have HS10 := Lib.hid hs10
                       have HM10 := Lib.hid (HLb.out.moved hf10)
                       clear hs10 hf10)
                    | (go_at_call 9; refine (alloc_r NB NMr nn G R k _ HM10.out.1.now (by have := HLb.out.nb; omega) ⟨k1, k2⟩ HG0.out HG1.out).mono ?_; rintro e w11 ⟨rfl, hr11, hg11⟩
                       have HR11 := Lib.hid hr11
                       have HG11 := Lib.hid hg11
                       clear hr11 hg11))
                  go_meet
                  have h10 : LSt w w10 PBr DB Mr (n + 1) NB NMr nn G R SB SMr sn G1 R1 OB OMr on G2 R2 KB MKr nKr hm Fm tm ⟨c.h.put k true, setF c.F k (some zerosB)⟩ sv t d fr (i + 1) false := by
                    have hnb := HLb.out.nb
                    have hlf := HLb.out.left
                    have htb := HLb.out.tb
                    have hus := HLb.out.us
                    have hpu := HPU.out
                    rw [if_pos k2] at hpu
                    exact ⟨HS10.out, HM10.out.1, HM10.out.2.1, HM10.out.2.2.1, HM10.out.2.2.2, (fun e => by cases e), (fun e => by cases e), HLb.out.l2, HLb.out.l3, HLb.out.tm0, HFA.out, HLb.out.cl, HLb.out.cut, by omega, by omega, by omega, ⟨by show usedN (c.h.put k true) 2000 ≤ _; omega, by omega, fun e => by have := hus.2.2 e; omega⟩⟩
                  have h12 := h10.setNow HG11.out (fun k e => .inr e) HR11.out (.inl rfl) HL0.out (HLb.out.l1 rfl) (by have := HLb.out.nb; omega)
                  exact ⟨fr, rfl, _, _, _, _, _, _, _, _, _, _, _, _, _, _, _, _, _, _, _, _, _, _, _, _, rfl, h12⟩
              by_cases q4 : q = 4
              · as_aux_lemma =>
                  subst q4
                  have hpw := wrsD_power HLb.out.cut (commitE c.h c.F)
                  have hcm := HLb.out.cl.commit HLb.out.cf hpw.1
                  have hln := commitE_len HLb.out.cf.dirty c.h
                  have hlk := (HLb.out.l0 rfl).commit hcm.2
                  have hco := commit_s HLb.out.pg HLb.out.cf.dirty HLb.out.cl.whole (by have := HLb.out.left; omega) (by have := HLb.out.tb; omega) hpw.1
                  have HPW := Lib.hid hpw
                  have HCM := Lib.hid hcm
                  have HLK := Lib.hid hlk
                  clear hpw hcm hlk
                  generalize (wrsD d (commitE c.h c.F)).2 = d2 at *
                  go_wp2_with (first
                    | (go_at_call 14; refine hco.mono ?_; rintro e w10 ⟨rfl, M10, hs10, hf10⟩
                       have HS10 := Lib.hid hs10
                       have HM10 := Lib.hid (HLb.out.moved hf10)
                       clear hs10 hf10 hco)
                    | (refine wpList_load_rp rfl _ rfl NB NMr nn G R rfl HM10.out.1.now ?_; intro A1 hA1)
                    | (go_at_call 6; rw [hA1.out]; refine (copy_r NMr nn G R _ HM10.out.1.now.map (by have := HLb.out.nb; omega) (fun k s e => (((HLb.out.l0 rfl).fineG HLb.out.cf HLb.out.cl.whole) k s e).2.2)).mono ?_; rintro e w11 ⟨C1, rfl, hm11, hle11, hg11⟩
                       obtain ⟨A2, hA2⟩ : ∃ A : Array Value, A = (rp C1 R).toArray := ⟨_, rfl⟩
                       rw [← hA2]
                       have HA2 := Lib.hid hA2
                       have HM11 := Lib.hid hm11
                       have HO11 := Lib.hid (HM10.out.1.gr hg11)
                       have HG11 := Lib.hid hg11
                       have HC11 := Lib.hid hle11
                       clear hA2 hm11 hle11 hg11)
                    | (refine wpList_store_rp rfl _ _ rfl SB C1 nn G R A2 rfl rfl HA2.out HO11.out.saved.there HO11.out.saved.free HM11.out (by have := HM10.out.1.saved.lt; have := HC11.out; omega) ?_; intro w12 hr12 hg12))
                  go_meet
                  have hnb := HLb.out.nb
                  have hlf := HLb.out.left
                  have htb := HLb.out.tb
                  have hus := HLb.out.us
                  have htm := HLb.out.tm0
                  have hle := HPW.out.2.2
                  have h10 : LSt w w10 PBr DB M10 0 NB NMr nn G R SB SMr sn G1 R1 OB OMr on G2 R2 KB MKr nKr hm Fm tm (.new c.h) c.h (t + 1) d2 false (i + 1) false :=
                    ⟨HS10.out, HM10.out.1, HM10.out.2.1, HM10.out.2.2.1, HM10.out.2.2.2, (fun e => by cases e), (fun e => by cases e), (fun e => by cases e), (fun _ => by omega), (by omega), Ch.new_fine HLb.out.cf.head, HCM.out.1, HPW.out.2.1, (by omega), (by omega), (by omega), ⟨by show usedN c.h 2000 ≤ _; omega, by omega, fun e => by cases e⟩⟩
                  have h12 := h10.setSaved ((GrX.of_gr HG11.out).trans hg12) (fun k e => e) hr12 HC11.out HLK.out HLK.out (by omega)
                  exact ⟨false, rfl, _, _, _, _, _, _, _, _, _, _, _, _, _, _, _, _, _, _, _, _, _, _, _, _, rfl, h12⟩
              by_cases q1 : q = 1
              · as_aux_lemma =>
                  subst q1
                  have hl0 := HLb.out.l0 rfl
                  have hus := (hl0.used a).symm.trans HUB.out
                  have HUP := Lib.hid HLb.out.up
                  have k0 := HLb.out.oth.now.cell
                  cases ub with
                  | false =>
                    have hu := hus
                    have HU := Lib.hid hu
                    clear hl0 hu hus
                    go_wp2_with (first
                      | (go_at_call 10; refine (free_no HUP.out.pg a HU.out).mono ?_; rintro e w10 ⟨rfl, hg10⟩
                         have H10 := Lib.hid (HUP.out.gr hg10)
                         clear hg10)
                      | (go_at_call 5; refine (bare_e 2 _ (HE.out.gr H10.out.g0)).mono ?_; rintro e w11 ⟨rfl, hg11⟩
                         have H11 := Lib.hid (H10.out.gr hg11)
                         clear hg11))
                    go_meet
                    exact ⟨fr, rfl, _, _, _, _, _, _, _, _, _, _, _, _, _, _, _, _, _, _, _, _, _, _, _, _, rfl, H11.out⟩
                  | true =>
                    have hu := hus
                    have HU := Lib.hid hu
                    have HL0 := Lib.hid (hl0.free hu)
                    have hnm : ¬ XB = NMr := by have := HSEP.out NMr (by simp); omega
                    clear hl0 hu hus
                    go_wp2_with (first
                      | (refine wpList_del rfl _ _ rfl HLb.out.oth.now.map rfl rfl r1 ?_; intro w10 hm10 hg10
                         have gx := GrX.of_grown (S := fun b => b = NMr) hg10 rfl
                         have x1b := gx.keeps hnm x1
                         have H10 := Lib.hid (HUP.out.setNow2 (ok2 := false) gx (fun k e => .inr e) (HLb.out.oth.now.remap hg10 hm10) (.inl rfl) (fun e => by cases e) (fun e => by cases e) HUP.out.nb.2.1)
                         clear hm10 hg10 gx x1)
                      | (go_at_call 10; refine (free_yes H10.out.pg a HU.out).mono ?_; rintro e w11 ⟨rfl, hs11, hf11⟩
                         have H11 := Lib.hid (H10.out.act (ok2 := true) hs11 hf11 (HLb.out.cf.free_fine a) (by have := HLb.out.nb; omega) (Nat.le_trans (usedN_free c a 2000) HUP.out.us.1) (fun _ => HL0.out) (fun _ => HLb.out.l1 rfl))
                         clear hs11 hf11)
                      | (go_at_call 5; refine (bare_0 _ (HE.out.gr H11.out.g0)).mono ?_; rintro e w12 ⟨rfl, hg12⟩
                         have H12 := Lib.hid (H11.out.gr hg12)
                         clear hg12))
                    go_meet
                    exact ⟨fr, rfl, _, _, _, _, _, _, _, _, _, _, _, _, _, _, _, _, _, _, _, _, _, _, _, _, rfl, H12.out⟩
              by_cases q2 : q = 2
              · as_aux_lemma =>
                  subst q2
                  have hl0 := HLb.out.l0 rfl
                  have hus := (hl0.used a).symm.trans HUB.out
                  have HUP := Lib.hid HLb.out.up
                  have k0 := HLb.out.oth.now.cell
                  have hpl := HPL.out
                  cases ub with
                  | false =>
                    have hu := hus
                    have HU := Lib.hid hu
                    clear hl0 hu hus
                    go_upto_region 32 with (fail)
                    have f1 := fun d os => cell_regrown x1 d os
                    have f2 := fun d os => cell_regrown x2 d os
                    refine wp_region_quiet_below (by kernel_rfl) (by kernel_rfl) ?_
                    repeat (go_big_quiet_step (first
                      | (go_at_call 11; exact Ret.regrown (page_l m r2 _))
                      | (go_at_call 12; exact Ret.regrown (write_no (HUP.out.pg.gr (gr_regrown ⟨⟨_, _⟩, rfl⟩)) a _ HU.out))
                      | (go_at_call 5; exact Ret.regrown (bare_e 2 _ (HE.out.gr (HUP.out.g0.trans (gr_regrown ⟨⟨_, _⟩, rfl⟩)))))))
                    refine wpQuiet_nil ?_
                    intro w7 hw7
                    have LSF := Lib.hid (HUP.out.gr (gr_regrown hw7))
                    clear hw7 f1 f2
                    go_wp2_with fail
                    go_meet
                    exact ⟨fr, rfl, _, _, _, _, _, _, _, _, _, _, _, _, _, _, _, _, _, _, _, _, _, _, _, _, rfl, LSF.out⟩
                  | true =>
                    have hu := hus
                    have HU := Lib.hid hu
                    have HL0 := Lib.hid (hl0.write hu (pageB m))
                    have hnm : ¬ XB = NMr := by have := HSEP.out NMr (by simp); omega
                    have hnb : ¬ NB = NMr := HLb.out.oth.now.ne
                    clear hl0 hu hus
                    go_upto_region 31 with (fail)
                    have hdr : Gr wb wb.drew := (Gr.refl _).drew
                    have LS := Lib.hid (HUP.out.gr hdr)
                    have Y0 := hdr.keeps k0
                    have Y1 := hdr.keeps x1
                    have Y2 := hdr.keeps x2
                    go_region_held3 (fun w' => w'.cell? ⟨NB, 0, none⟩ = some (.map (some NMr)) ∧ w'.cell? ⟨XB, 1, none⟩ = some (.int .i64 a) ∧ w'.cell? ⟨XB, 2, none⟩ = some (.int .i64 m)) (first | exact ⟨Z0, Z1, Z2⟩ | exact ⟨Y0, Y1, Y2⟩ | exact ⟨k0, x1, x2⟩ | (refine ⟨?_, ?_, ?_⟩ <;> assumption)) (first
                      | (go_at_call 11; refine (page_l m r2 _).mono ?_; rintro e w3 ⟨rfl, hg⟩
                         have Y0 := hg.keeps Y0
                         have Y1 := hg.keeps Y1
                         have Y2 := hg.keeps Y2
                         have LS := Lib.hid (LS.out.gr hg)
                         obtain ⟨w5, hmu, hm5, hg5⟩ := LS.out.oth.now.map.storeF (by have := LS.out.nb; omega) r1 (pageB m) (by rw [pageB_size]; omega)
                         have gx5 := GrX.of_grown (S := fun b => b = NMr) hg5 rfl
                         have Z0 := gx5.keeps hnb Y0
                         have Z1 := gx5.keeps hnm Y1
                         have Z2 := gx5.keeps hnm Y2
                         have L5 := Lib.hid (LS.out.setNow2 (ok2 := false) gx5 (fun k e => .inr e) (LS.out.oth.now.remap hg5 hm5) (.inl rfl) (fun e => by cases e) (fun e => by cases e) (by have := HLb.out.nb; omega))
                         clear hg hm5 hg5 gx5))
                    have L6 := L5
                    have z1 := Z1
                    have z2 := Z2
                    clear Y0 Y1 Y2 Z0 Z1 Z2 LS L5 hdr x1 x2
                    go_upto_region 32 with (fail)
                    have hdr : Gr w5 w5.drew := (Gr.refl _).drew
                    have LS := Lib.hid (L6.out.gr hdr)
                    have Y1 := hdr.keeps z1
                    have Y2 := hdr.keeps z2
                    go_region_held3 (fun w' => w'.cell? ⟨XB, 1, none⟩ = some (.int .i64 a) ∧ w'.cell? ⟨XB, 2, none⟩ = some (.int .i64 m)) (first | exact ⟨Y1, Y2⟩ | exact ⟨z1, z2⟩ | (refine ⟨?_, ?_⟩ <;> assumption)) (first
                      | (go_at_call 11; refine (page_l m r2 _).mono ?_; rintro e w7 ⟨rfl, hg⟩; have Y1 := hg.keeps Y1; have Y2 := hg.keeps Y2; have LS := Lib.hid (LS.out.gr hg); clear hg)
                      | (go_at_call 12; (with_reducible refine (write_yes LS.out.pg (by have := HLb.out.nb; omega) a (pageB m) (pageB_size m) HU.out).mono ?_); rintro e w8 ⟨rfl, hs8, hf8⟩
                         have Y1 := hf8.keeps (by omega) (by omega) (by omega) Y1
                         have Y2 := hf8.keeps (by omega) (by omega) (by omega) Y2
                         have HU := Lib.hid ((inUse_write c a (pageB m) a).trans HU.out)
                         have LS := Lib.hid (LS.out.act (ok2 := true) hs8 hf8 (HLb.out.cf.write_fine a (pageB_size m)) (by have := HLb.out.nb; omega) (by rw [usedN_write]; exact HUP.out.us.1) (fun _ => HL0.out) (fun _ => HLb.out.l1 rfl))
                         clear hs8 hf8)
                      | (go_at_call 12; (with_reducible refine (write_short LS.out.pg a ⟨#[120]⟩ (by decide) HU.out).mono ?_); rintro e w9 ⟨rfl, hg⟩; have Y1 := hg.keeps Y1; have Y2 := hg.keeps Y2; have LS := Lib.hid (LS.out.gr hg); clear hg)
                      | (go_at_call 5; (with_reducible refine (bare_0 _ (HE.out.gr LS.out.g0)).mono ?_); rintro e w10 ⟨rfl, hg⟩; have Y1 := hg.keeps Y1; have Y2 := hg.keeps Y2; have LS := Lib.hid (LS.out.gr hg); clear hg)
                      | (go_at_call 5; (with_reducible refine (bare_e 1 _ (HE.out.gr LS.out.g0)).mono ?_); rintro e w11 ⟨rfl, hg⟩; have Y1 := hg.keeps Y1; have Y2 := hg.keeps Y2; have LS := Lib.hid (LS.out.gr hg); clear hg))
                    have LSF := LS
                    clear Y1 Y2 LS
                    go_wp2_with fail
                    go_meet
                    exact ⟨fr, rfl, _, _, _, _, _, _, _, _, _, _, _, _, _, _, _, _, _, _, _, _, _, _, _, _, rfl, LSF.out⟩
              by_cases q3 : q = 3
              · as_aux_lemma =>
                  subst q3
                  have HUP := Lib.hid HLb.out.up
                  by_cases hok : (0 ≤ a ∧ a < 8) ∧ (0 ≤ m ∧ m < 2000) ∧ (0 ≤ t3 ∧ t3 < 65536)
                  · obtain ⟨⟨a1, a2⟩, hm, ht⟩ := hok
                    obtain ⟨ia, rfl⟩ : ∃ ia : Nat, a = ia := ⟨a.toNat, by omega⟩
                    have hi8 : ia < 8 := by omega
                    have e1 : decide ((0 : Int) ≤ ia) = true := by simp
                    have e2 : decide ((ia : Int) < 8) = true := by simp; omega
                    have e3 : decide ((0 : Int) ≤ m) = true := by simp; omega
                    have e4 : decide (m < 2000) = true := by simp; omega
                    have e5 : decide ((0 : Int) ≤ t3) = true := by simp; omega
                    have e6 : decide (t3 < 65536) = true := by simp; omega
                    have hth : wb.there NB (1 + ia * 2) 2 := fun j hj => by
                      have := HLb.out.oth.now.there (1 + ia * 2 + j) (by omega)
                      rwa [Nat.zero_add] at this
                    have HTH := Lib.hid hth
                    have hnx : ¬ XB = NB := by have := HSEP.out NB (by simp); omega
                    clear hth
                    go_wp2_with (first
                      | (refine wpList_store_two rfl _ _ rfl NB (1 + ia * 2) m t3 rfl rfl HTH.out ?_; intro w10 hw10 hg10
                         have x1b := hg10.keeps hnx x1
                         have x2b := hg10.keeps hnx x2
                         have x3b := hg10.keeps hnx x3
                         have H10 := Lib.hid (HUP.out.setNow2 (ok2 := false) hg10 (fun k e => .inl e) (by rw [hw10]; exact HLb.out.oth.now.setRoot ia hi8 m t3) (.inl rfl) (fun e => by cases e) (fun e => by cases e) HUP.out.nb.2.1)
                         clear hw10 hg10 x1 x2 x3)
                      | (go_at_call 13; refine (setRoot_s H10.out.pg ia m t3 hi8 hm ht).mono ?_; rintro e w11 ⟨rfl, hs11, hf11⟩
                         have H11 := Lib.hid (H10.out.act (ok2 := true) hs11 hf11 ⟨fine_set HLb.out.cf.head ia hm ht, HLb.out.cf.dirty⟩ (by have := HLb.out.nb; omega) HUP.out.us.1 (fun _ => (HLb.out.l0 rfl).setRoot ia m t3) (fun _ => HLb.out.l1 rfl))
                         clear hs11 hf11)
                      | (go_at_call 5; refine (bare_0 _ (HE.out.gr H11.out.g0)).mono ?_; rintro e w12 ⟨rfl, hg12⟩
                         have H12 := Lib.hid (H11.out.gr hg12)
                         clear hg12))
                    go_meet
                    exact ⟨fr, rfl, _, _, _, _, _, _, _, _, _, _, _, _, _, _, _, _, _, _, _, _, _, _, _, _, rfl, H12.out⟩
                  · clear r0 r1 r2 r3
                    have HNO : Hid (a < 0 ∨ 8 ≤ a ∨ m < 0 ∨ 2000 ≤ m ∨ t3 < 0 ∨ 65536 ≤ t3) := Lib.hid (by omega)
                    go_wp2_with (first
                      | (go_at_call 13; refine (setRoot_no HUP.out.pg a m t3 HNO.out).mono ?_; rintro e w10 ⟨rfl, hg10⟩
                         have H10 := Lib.hid (HUP.out.gr hg10)
                         clear hg10)
                      | (go_at_call 5; refine (bare_e 2 _ (HE.out.gr H10.out.g0)).mono ?_; rintro e w11 ⟨rfl, hg11⟩
                         have H11 := Lib.hid (H10.out.gr hg11)
                         clear hg11))
                    all_goals first | (exfalso; omega) | skip
                    all_goals
                      go_meet
                      exact ⟨fr, rfl, _, _, _, _, _, _, _, _, _, _, _, _, _, _, _, _, _, _, _, _, _, _, _, _, rfl, H11.out⟩
              by_cases q6 : q = 6
              · as_aux_lemma =>
                  subst q6
                  have hl0 := HLb.out.l0 rfl
                  have HUP := Lib.hid HLb.out.up
                  have hK := HLb.out.oth.sepMark
                  have ltK := HLb.out.oth.mlt
                  have HKK : Hid ((∀ b ∈ [NB, NMr, SB, SMr, OB, OMr], b ≠ KB) ∧ KB < wb.heap.size) := Lib.hid ⟨hK, ltK⟩
                  have HL0 := Lib.hid hl0
                  have HFG := Lib.hid (fun k s e => (((HLb.out.l0 rfl).fineG HLb.out.cf HLb.out.cl.whole) k s e).2.2 : ∀ k s, G k = some s → s.size = 1024)
                  clear hK ltK hl0
                  go_wp2_with (first
                    | (go_at_call 7; refine (mark_s HLb.out.pg).mono ?_; rintro e w10 ⟨MK2, nK2, rfl, hnK, hmk, hleK, hg10⟩
                       obtain ⟨CM, hCM⟩ : ∃ A : Array Value, A = (markCells c.h (some MK2) t).toArray := ⟨_, rfl⟩
                       rw [← hCM]
                       have HCM := Lib.hid hCM
                       have HMK := Lib.hid hmk
                       have HLE := Lib.hid (And.intro hnK hleK)
                       have H10 := Lib.hid (HUP.out.oth.gr hg10)
                       have HG10 := Lib.hid hg10
                       clear hCM hmk hleK hnK hg10)
                    | (refine wpList_store_mark2 rfl _ _ rfl KB c.h (some MK2) t CM rfl rfl HCM.out H10.out.mthere ?_; intro w11 hr11 hg11 hf11
                       have H11 := Lib.hid (HUP.out.oth.newMark ((GrX.of_gr HG10.out).trans hg11) HKK.out.1 hr11 (fun o => (hf11 o).trans (H10.out.mfr o)) (HMK.out.keepX hg11 (show ¬ MK2 = KB by have := HKK.out.2; have := HLE.out.2; omega)) HLE.out.2)
                       have HG11 := Lib.hid ((GrX.of_gr HG10.out).trans hg11)
                       clear hr11 hg11 hf11)
                    | (refine wpList_load_rp rfl _ rfl NB NMr nn G R rfl H11.out.now ?_; intro A1 hA1)
                    | (go_at_call 6; rw [hA1.out]; refine (copy_r NMr nn G R _ H11.out.now.map (by have := HLb.out.nb; omega) HFG.out).mono ?_; rintro e w12 ⟨C1, rfl, hm12, hle12, hg12⟩
                       obtain ⟨A2, hA2⟩ : ∃ A : Array Value, A = (rp C1 R).toArray := ⟨_, rfl⟩
                       rw [← hA2]
                       have HA2 := Lib.hid hA2
                       have HM12 := Lib.hid hm12
                       have H12 := Lib.hid (H11.out.gr hg12)
                       have HG12 := Lib.hid hg12
                       have HC12 := Lib.hid hle12
                       clear hA2 hm12 hle12 hg12)
                    | (refine wpList_store_rp rfl _ _ rfl OB C1 nn G R A2 rfl rfl HA2.out H12.out.noted.there H12.out.noted.free HM12.out (by have := H11.out.noted.lt; have := HC12.out; omega) ?_; intro w13 hr13 hg13
                       have HR13 := Lib.hid hr13
                       have HG13 := Lib.hid hg13
                       clear hr13 hg13))
                  go_meet
                  have hz := HG11.out.2.2.2.1
                  have h13 := H11.out.newNoted ((GrX.of_gr HG12.out).trans HG13.out) H11.out.sepNoted HR13.out HC12.out
                  have hfin := HUP.out.setMark ((grX_imp HG11.out (fun _ e => .inr e)).trans (grX_imp ((GrX.of_gr HG12.out).trans HG13.out) (fun _ e => .inl e))) (fun k e => e) h13 (by have := HC12.out; omega) HLE.out.2 HL0.out HLb.out.cf HL0.out (HLb.out.l1 rfl) (by have := HLb.out.nb; have := HLE.out.1; omega) HUP.out.us.1
                  exact ⟨true, rfl, _, _, _, _, _, _, _, _, _, _, _, _, _, _, _, _, _, _, _, _, _, _, _, _, rfl, hfin⟩
              by_cases q7 : q = 7
              · as_aux_lemma =>
                  subst q7
                  have HUP := Lib.hid HLb.out.up
                  cases fr with
                  | true =>
                    obtain ⟨rfl, hlk, hfn⟩ := HLb.out.l2 rfl
                    have HLK := Lib.hid hlk
                    have HFN := Lib.hid hfn
                    have HKR := Lib.hid HLb.out.oth.sepNow
                    have HFG := Lib.hid (fun k s e => ((hlk.fineG hfn HLb.out.cl.whole) k s e).2.2 : ∀ k s, G2 k = some s → s.size = 1024)
                    clear hlk hfn
                    go_wp2_with (first
                      | (refine wpList_load_rp rfl _ rfl OB OMr on G2 R2 rfl HUP.out.oth.noted ?_; intro A1 hA1)
                      | (go_at_call 6; rw [hA1.out]; refine (copy_r OMr on G2 R2 _ HUP.out.oth.noted.map (by have := HLb.out.nb; omega) HFG.out).mono ?_; rintro e w10 ⟨C1, rfl, hm10, hle10, hg10⟩
                         obtain ⟨A2, hA2⟩ : ∃ A : Array Value, A = (rp C1 R2).toArray := ⟨_, rfl⟩
                         rw [← hA2]
                         have HA2 := Lib.hid hA2
                         have HM10 := Lib.hid hm10
                         have H10 := Lib.hid (HUP.out.oth.gr hg10)
                         have HG10 := Lib.hid hg10
                         have HC10 := Lib.hid hle10
                         clear hA2 hm10 hle10 hg10)
                      | (refine wpList_store_rp rfl _ _ rfl NB C1 on G2 R2 A2 rfl rfl HA2.out H10.out.now.there H10.out.now.free HM10.out (by have := HUP.out.oth.now.lt; have := HC10.out; omega) ?_; intro w11 hr11 hg11
                         have H11 := Lib.hid (HUP.out.setNow2 (ok2 := false) ((GrX.of_gr HG10.out).trans hg11) (fun k e => .inl e) hr11 (.inr HC10.out) (fun e => by cases e) (fun e => by cases e) HUP.out.nb.2.2.2.1)
                         clear hr11 hg11)
                      | (refine wpList_load_mark rfl _ rfl KB hm (some MKr) tm rfl H11.out.oth.mrk ?_; intro A3 hA3)
                      | (go_at_call 16; rw [hA3.out]; refine (back_s H11.out.pg hm MKr nKr Fm H11.out.oth.mmp).mono ?_; rintro e w12 ⟨rfl, M12, hs12, hf12⟩
                         clear hA3
                         have H12 := Lib.hid (H11.out.back (ok2 := true) hs12 hf12 (fun _ => HLK.out) (fun _ => HLb.out.l1 rfl))
                         clear hs12 hf12)
                      | (go_at_call 5; (with_reducible refine (bare_0 _ (HE.out.gr H12.out.g0)).mono ?_); rintro e w13 ⟨rfl, hg⟩; have H13 := Lib.hid (H12.out.gr hg); clear hg)
                      | (go_at_call 16; refine (back_zero H13.out.pg).mono ?_; rintro e w14 ⟨rfl, hg⟩; have H14 := Lib.hid (H13.out.gr hg); clear hg)
                      | (go_at_call 5; refine (bare_e 1 _ (HE.out.gr H14.out.g0)).mono ?_; rintro e w15 ⟨rfl, hg⟩; have H15 := Lib.hid (H14.out.gr hg); clear hg))
                    go_meet
                    exact ⟨true, rfl, _, _, _, _, _, _, _, _, _, _, _, _, _, _, _, _, _, _, _, _, _, _, _, _, rfl, H15.out⟩
                  | false =>
                    have HNE : Hid (tm ≠ t) := Lib.hid (by have := HLb.out.l3 rfl; omega)
                    go_wp2_with (first
                      | (refine wpList_load_mark rfl _ rfl KB hm (some MKr) tm rfl HUP.out.oth.mrk ?_; intro A3 hA3)
                      | (go_at_call 16; rw [hA3.out]; refine (back_old HUP.out.pg hm tm MKr HNE.out).mono ?_; rintro e w12 ⟨rfl, hg⟩
                         clear hA3
                         have H12 := Lib.hid (HUP.out.gr hg)
                         clear hg)
                      | (go_at_call 5; refine (bare_e 1 w12 (HE.out.gr H12.out.g0)).mono ?_; rintro e w13 ⟨rfl, hg⟩; have H13 := Lib.hid (H12.out.gr hg); clear hg)
                      | (go_at_call 16; refine (back_zero H13.out.pg).mono ?_; rintro e w14 ⟨rfl, hg⟩; have H14 := Lib.hid (H13.out.gr hg); clear hg)
                      | (go_at_call 5; refine (bare_e 1 _ (HE.out.gr H14.out.g0)).mono ?_; rintro e w15 ⟨rfl, hg⟩; have H15 := Lib.hid (H14.out.gr hg); clear hg))
                    go_meet
                    exact ⟨false, rfl, _, _, _, _, _, _, _, _, _, _, _, _, _, _, _, _, _, _, _, _, _, _, _, _, rfl, H15.out⟩
              by_cases q8 : q = 8
              · as_aux_lemma =>
                  subst q8
                  have HUP := Lib.hid HLb.out.up
                  go_upto_region 62 with (first
                    | (go_at_call 4; refine (open_s DB d sv _ HLb.out.pg.dk HLb.out.cl (by have := HLb.out.left; omega)).mono ?_; rintro e w10 ⟨PB2, M2, rfl, hs10, hle1, hle2, hg10⟩
                       have HS10 := Lib.hid hs10
                       have HP10 := Lib.hid (And.intro hle1 hle2)
                       have HG10 := Lib.hid hg10
                       clear hs10 hle1 hle2 hg10))
                  have HO10 := Lib.hid (HUP.out.oth.keepX HG10.out (fun b hb e => (HUP.out.sep b hb).2.1 e))
                  have HFG := Lib.hid (fun k s e => ((HLb.out.l1 rfl).fineG (Ch.new_fine HLb.out.cl.fine) HLb.out.cl.whole k s e).2.2 : ∀ k s, G1 k = some s → s.size = 1024)
                  obtain ⟨A0, hA0⟩ : ∃ A : Array Value, A = (rp SMr R1).toArray := ⟨_, rfl⟩
                  have HA0 := Lib.hid hA0
                  have HCP : Hid (∀ W, Gr w10 W → Calls Tryz.prog 6 #[.agg A0] W fun e w' => ∃ M', e = .returned (.agg (rp M' R1).toArray) ∧ MapAt w' M' sn G1 ∧ W.heap.size ≤ M' ∧ Gr W w') := Lib.hid fun W g => by rw [HA0.out]; exact copy_r SMr sn G1 R1 W (HO10.out.gr g).saved.map (by have := HLb.out.nb; omega) HFG.out
                  have hdr : Gr w10 w10.drew := (Gr.refl _).drew
                  have HGG := Lib.hid hdr
                  clear hA0 hdr
                  refine wp_region_held_drew (S := fun w' => GrX (fun b => b = NB ∨ b = OB) w10 w') (by kernel_rfl) (GrX.drew _) (fun hHeld => ?_)
                  generalize w10.drew = w11 at *
                  refine wpAnyH_take (i := 0) rfl (by kernel_rfl) (by kernel_rfl) (by kernel_rfl) (fun _ _ _ h => h) (yieldsIf_load_rp (by rfl) _ rfl SB SMr sn G1 R1 rfl A0 HA0.out (fun w' g => HO10.out.saved.keepX g (fun e => e.elim (HO10.out.sepNow SB (by simp)).1 (HO10.out.sepNoted SB (by simp))) (fun e => e.elim (HO10.out.sepNow SMr (by simp)).1 (HO10.out.sepNoted SMr (by simp))))) hHeld ?_
                  try simp only [Act.put, List.getElem_toArray, List.getElem_cons_zero, List.setIfInBounds_toArray, List.set_cons_zero, List.set_cons_succ]
                  refine wpAnyH_take (i := 2) rfl (by kernel_rfl) (by kernel_rfl) (by kernel_rfl) (fun _ _ _ h => h) (yieldsIf_load_rp (by rfl) _ rfl SB SMr sn G1 R1 rfl A0 HA0.out (fun w' g => HO10.out.saved.keepX g (fun e => e.elim (HO10.out.sepNow SB (by simp)).1 (HO10.out.sepNoted SB (by simp))) (fun e => e.elim (HO10.out.sepNow SMr (by simp)).1 (HO10.out.sepNoted SMr (by simp))))) hHeld ?_
                  try simp only [Act.put, List.getElem_toArray, List.getElem_cons_succ, List.getElem_cons_zero, List.setIfInBounds_toArray, List.set_cons_zero, List.set_cons_succ]
                  refine wpAnyH_ready (rs := [1]) (by kernel_rfl) (by simp) ?_
                  refine AllReadyH.cons rfl (fun K hK => ?_) AllReadyH.nil
                  go_simp
                  refine (HCP.out _ HGG.out).mono ?_
                  rintro e w12 ⟨C1, rfl, hm1, hle1, hg1⟩
                  obtain ⟨A1, hA1⟩ : ∃ A : Array Value, A = (rp C1 R1).toArray := ⟨_, rfl⟩
                  rw [← hA1]
                  have HA1 := Lib.hid hA1
                  have HM1 := Lib.hid hm1
                  have b1 : w10.heap.size ≤ C1 := Nat.le_trans HGG.out.size hle1
                  have HGG2 := Lib.hid (HGG.out.trans hg1)
                  have hHeld := hHeld.trans (GrX.of_gr hg1)
                  clear hm1 hle1 hA1 hg1
                  go_wp2_with fail
                  refine hK.out _ _ hHeld (fun hHeld => ?_)
                  clear hK K
                  try simp only [Act.put, List.getElem_toArray, List.getElem_cons_succ, List.getElem_cons_zero, List.setIfInBounds_toArray, List.set_cons_zero, List.set_cons_succ]
                  refine wpAnyH_ready (rs := [3]) (by kernel_rfl) (by simp) ?_
                  refine AllReadyH.cons rfl (fun K hK => ?_) AllReadyH.nil
                  go_simp
                  refine (HCP.out _ HGG2.out).mono ?_
                  rintro e w13 ⟨C3, rfl, hm3, hle3, hg3⟩
                  obtain ⟨A3, hA3⟩ : ∃ A : Array Value, A = (rp C3 R1).toArray := ⟨_, rfl⟩
                  rw [← hA3]
                  have HA3 := Lib.hid hA3
                  have HM3 := Lib.hid hm3
                  have HM1b := Lib.hid (HM1.out.gr hg3)
                  have b3 : w10.heap.size ≤ C3 := Nat.le_trans HGG2.out.size hle3
                  have o13 : C1 < C3 := Nat.lt_of_lt_of_le HM1.out.lt hle3
                  have HGG3 := Lib.hid (HGG2.out.trans hg3)
                  have hHeld := hHeld.trans (GrX.of_gr hg3)
                  clear hm3 hle3 hA3 hg3
                  go_wp2_with fail
                  refine hK.out _ _ hHeld (fun hHeld => ?_)
                  clear hK K
                  try simp only [Act.put, List.getElem_toArray, List.getElem_cons_succ, List.getElem_cons_zero, List.setIfInBounds_toArray, List.set_cons_zero, List.set_cons_succ]
                  have HO13 := Lib.hid (HO10.out.gr HGG3.out)
                  have ltN := HO10.out.now.lt
                  have ltO := HO10.out.noted.lt
                  refine wpAnyH_ready (rs := [4]) (by kernel_rfl) (by simp) ?_
                  refine AllReadyH.cons rfl (fun K hK => ?_) AllReadyH.nil
                  rw [if_pos (by rfl)]
                  refine wp_store_rp _ _ rfl NB C1 sn G1 R1 A1 rfl rfl HA1.out HO13.out.now.there HO13.out.now.free HM1b.out (by omega) ?_
                  intro w14 hr14 hg14
                  have HO14 := Lib.hid (HO10.out.newNow ((GrX.of_gr HGG3.out).trans hg14) (fun b hb e => (HO10.out.sepNow b hb).1 e) hr14 (.inr b1))
                  have HM3b := Lib.hid (HM3.out.keepX hg14 (show ¬ C3 = NB by omega))
                  have HGX14 := Lib.hid ((GrX.of_gr HGG3.out).trans hg14)
                  have hHeld := hHeld.trans (grX_imp hg14 (fun _ e => .inl e))
                  clear hr14 hg14
                  refine hK.out _ _ hHeld (fun hHeld => ?_)
                  clear hK K
                  try simp only [Act.put, List.getElem_toArray, List.getElem_cons_succ, List.getElem_cons_zero]
                  refine wpAnyH_ready (rs := [5]) (by kernel_rfl) (by simp) ?_
                  refine AllReadyH.cons rfl (fun K hK => ?_) AllReadyH.nil
                  rw [if_pos (by rfl)]
                  refine wp_store_rp _ _ rfl OB C3 sn G1 R1 A3 rfl rfl HA3.out HO14.out.noted.there HO14.out.noted.free HM3b.out (by omega) ?_
                  intro w15 hr15 hg15
                  have hsz14 := HGX14.out.2.2.2.1
                  have HM3c := hr15.map.lt
                  have HO15 := Lib.hid (HO14.out.newNoted2 hg15 (fun b hb e => HO14.out.sepNoted b hb e) hr15 (by
                    have l1 := HO10.out.lts
                    have l2 := l1 SB (by simp)
                    have l3 := l1 SMr (by simp)
                    have l4 := l1 OB (by simp)
                    have l5 := l1 KB (by simp)
                    have l6 := l1 MKr (by simp)
                    exact ⟨by omega, by omega, by omega, by omega, by omega, by omega, by omega⟩))
                  have HGX15 := Lib.hid ((grX_imp HGX14.out (fun _ e => .inl e)).trans (grX_imp hg15 (fun _ e => .inr e)) : GrX (fun b => b = NB ∨ b = OB) w10 w15)
                  have hHeld := hHeld.trans (grX_imp hg15 (fun _ e => .inr e))
                  clear hr15 hg15
                  refine hK.out _ _ hHeld (fun hHeld => ?_)
                  clear hK K
                  refine wpAnyH_done (by kernel_rfl) ?_ _
                  have HS15 := Lib.hid (HS10.out.keepX HGX15.out (by have := HP10.out; have := HUP.out.oth.lts NB (by simp); have := HUP.out.oth.lts OB (by simp); rintro (e | e) <;> omega) (fun e => e.elim (fun e => (HUP.out.sep NB (by simp)).2.1 e.symm) (fun e => (HUP.out.sep OB (by simp)).2.1 e.symm)) (by have := HP10.out; have := HUP.out.oth.lts NB (by simp); have := HUP.out.oth.lts OB (by simp); rintro (e | e) <;> omega))
                  clear hHeld
                  go_wp2_with (first
                    | (go_at_call 7; refine (mark_s HS15.out).mono ?_; rintro e w16 ⟨MK2, nK2, rfl, hnK, hmk, hleK, hg16⟩
                       obtain ⟨CM, hCM⟩ : ∃ A : Array Value, A = (markCells (Ch.new (headD d.pg)).h (some MK2) 0).toArray := ⟨_, rfl⟩
                       rw [← hCM]
                       have HCM := Lib.hid hCM
                       have HMK := Lib.hid hmk
                       have HLE := Lib.hid (And.intro hnK hleK)
                       have H16 := Lib.hid (HO15.out.gr hg16)
                       have HG16 := Lib.hid hg16
                       clear hCM hmk hleK hnK hg16)
                    | (refine wpList_store_mark2 rfl _ _ rfl KB (Ch.new (headD d.pg)).h (some MK2) 0 CM rfl rfl HCM.out H16.out.mthere ?_; intro w17 hr17 hg17 hf17
                       have H17 := Lib.hid (HO15.out.newMark ((GrX.of_gr HG16.out).trans hg17) HO15.out.sepMark hr17 (fun o => (hf17 o).trans (H16.out.mfr o)) (HMK.out.keepX hg17 (show ¬ MK2 = KB by have := HO15.out.mlt; have := HLE.out.2; omega)) HLE.out.2)
                       have HG17 := Lib.hid ((GrX.of_gr HG16.out).trans hg17)
                       clear hr17 hg17 hf17))
                  go_meet
                  have hz := HGX15.out.2.2.2.1
                  have hfin := HUP.out.anew HS10.out HP10.out.1 HP10.out.2 HG10.out rfl rfl ((grX_imp HGX15.out (fun _ e => e.elim .inl (fun e => .inr (.inl e)))).trans (grX_imp HG17.out (fun _ e => .inr (.inr e)))) (fun k e => e) H17.out b1 b3 (by have := HLE.out.2; omega) (by have := HLb.out.nb; have := HLE.out.1; omega) (by rw [usedN_same HLb.out.cl.head 2000 (Nat.le_refl _)]; exact HUP.out.us.2.1)
                  exact ⟨true, rfl, _, _, _, _, _, _, _, _, _, _, _, _, _, _, _, _, _, _, _, _, _, _, _, _, rfl, hfin⟩
              · as_aux_lemma =>
                  have b0 : (q == 0) = false := beq_eq_false_iff_ne.2 q0
                  have b1 : (q == 1) = false := beq_eq_false_iff_ne.2 q1
                  have b2 : (q == 2) = false := beq_eq_false_iff_ne.2 q2
                  have b3 : (q == 3) = false := beq_eq_false_iff_ne.2 q3
                  have b4 : (q == 4) = false := beq_eq_false_iff_ne.2 q4
                  have b5 : (q == 5) = false := beq_eq_false_iff_ne.2 q5
                  have b6 : (q == 6) = false := beq_eq_false_iff_ne.2 q6
                  have b7 : (q == 7) = false := beq_eq_false_iff_ne.2 q7
                  have b8 : (q == 8) = false := beq_eq_false_iff_ne.2 q8
                  clear q0 q1 q2 q3 q4 q5 q6 q7 q8
                  go_wp2_with fail
                  go_meet
                  exact ⟨fr, rfl, _, _, _, _, _, _, _, _, _, _, _, _, _, _, _, _, _, _, _, _, _, _, _, _, rfl, HLb.out.up⟩
            case rest =>
              as_aux_lemma =>
                obtain ⟨fr2, rfl, PBx, Mx, nx, NMx, nnx, Gx, Rx, SMx, snx, G1x, R1x, OMx, onx, G2x, R2x, MKx, nKx, hmx, Fmx, tmx, cx, svx, tx, dx, rfl, hL⟩ := hcut
                clear HLb HSEP HPL x0 x1 x2 x3 r0 r1 r2 r3
                have HX := Lib.hid hL
                have hl0 := hL.l0 rfl
                obtain ⟨un, hun, hsum⟩ := rest_sum hL.cf hl0
                have hfg := hl0.fineG hL.cf hL.cl.whole
                have k0 := hL.oth.now.cell
                have f0 := fun d os => cell_regrown k0 d os
                have hlen := rest_len hL.oth.now.map hfg
                have HL0 := Lib.hid hl0
                have HUN := Lib.hid hun
                clear hL hl0 hfg k0 hun
                generalize (ksF Gx).length = kn at *
                go_upto_region 64 with (fail)
                refine wp_region_quiet_below (by kernel_rfl) (by kernel_rfl) ?_
                repeat (go_big_quiet_step (first | (go_at_call 17; exact Ret.regrown (used_u (HX.out.pg.gr (gr_regrown ⟨⟨_, _⟩, rfl⟩)) HUN.out)) | (go_at_call 18; exact Ret.regrown (down_s (HX.out.pg.gr (gr_regrown ⟨⟨_, _⟩, rfl⟩))))))
                refine wpQuiet_nil ?_
                intro w7 hw7
                have hg7 := gr_regrown hw7
                have H7 := Lib.hid (HX.out.gr hg7)
                clear hw7 f0 hlen hsum hg7 HX HUN
                go_wp2_with fail
                go_loopw [20] (fun kv wr' => ∃ j : Nat, j ≤ 13 ∧ kv = .int .i64 ((j : Int) - 1) ∧ Gr w7 wr') (fun kv _ => 13 - ((intOf kv) + 1).toNat)
                case atStart => exact ⟨0, by omega, rfl, Gr.refl _⟩
                case round =>
                  obtain ⟨j, hj, rfl, hgr⟩ := hrel
                  have H8 := Lib.hid (H7.out.gr hgr)
                  have HGR := Lib.hid hgr
                  clear hgr
                  by_cases hlt : j < 13
                  · obtain ⟨kk, hkk⟩ : ∃ kk : Int, kk = (j : Int) - 1 := ⟨_, rfl⟩
                    have hk1 : -1 ≤ kk := by omega
                    have hk2 : kk < 12 := by omega
                    have HKK : Hid (kk = (j : Int) - 1) := Lib.hid hkk
                    have HHJ := Lib.hid (And.intro hj hlt)
                    have HNX : Hid (wrap64 (kk + 1) = ((j + 1 : Nat) : Int) - 1) := Lib.hid (by unfold wrap64; omega)
                    rw [← hkk]
                    clear hkk hj hlt
                    have hrd := read_s H8.out.pg kk
                    have hus := HL0.out.used kk
                    have e12 : decide (kk < 12) = true := by simp; omega
                    have HKB : Hid (-1 ≤ kk ∧ kk < 12) := Lib.hid ⟨hk1, hk2⟩
                    have hroot : (kk < 0 ∨ 8 ≤ kk) ∨ (0 ≤ kk ∧ kk < 8) := by omega
                    have k0 := H8.out.oth.now.cell
                    have HG : ∃ (s : ByteArray) (b : Bool), Hid (((Gx kk).getD ⟨#[]⟩ = s ∧ (Gx kk).isSome = b) ∧ (b = false → s = ⟨#[]⟩)) ∧ Calls Tryz.prog 19 #[.pointer (some ⟨PBx, 0, none⟩), .int .i64 kk] wr (Ret wr (if b then .tuple #[.string s, .nilIface] else .tuple #[.string ⟨#[]⟩, .iface 33 (.int .i64 2)])) := by
                      cases hu : inUse cx.h kk with
                      | false =>
                        rw [hu] at hrd hus
                        have hn : Gx kk = none := by cases hg : Gx kk with | none => rfl | some v => rw [hg] at hus; cases hus
                        exact ⟨⟨#[]⟩, false, Lib.hid ⟨⟨by rw [hn]; rfl, hus⟩, fun _ => rfl⟩, hrd⟩
                      | true =>
                        obtain ⟨m, hm, m1, m2, m3⟩ := inUse_iff.1 hu
                        rw [hu] at hrd hus
                        have hpg := HL0.out.page m (by rw [← hm]; exact hu)
                        have e0 : kk.toNat = m := by omega
                        rw [e0] at hrd
                        rw [← hm] at hpg
                        exact ⟨pageNow dx.pg cx.F m, true, Lib.hid ⟨⟨by rw [hpg]; rfl, by rw [hpg]; rfl⟩, fun e => by cases e⟩, hrd⟩
                    clear hrd hus hk1 hk2
                    obtain ⟨s, b, HG, hrd⟩ := HG
                    have HRD := Lib.hid hrd
                    clear hrd
                    rcases hroot with hroot | hroot
                    · have HRT := Lib.hid hroot
                      have hdd : (decide (kk < 0) = true) ∨ (decide (kk < 0) = false ∧ decide (8 ≤ kk) = true) := by
                        by_cases e : kk < 0
                        · exact .inl (by simp; omega)
                        · exact .inr ⟨by simp; omega, by simp; omega⟩
                      clear hroot
                      rcases hdd with hdd | ⟨hdd, hdd2⟩
                      all_goals
                        cases b with
                        | false =>
                          obtain rfl := HG.out.2 rfl
                          go_wp2_with (first
                            | (go_at_call 19; refine HRD.out.mono ?_; rintro e w9 ⟨rfl, hg⟩
                               have H9 := Lib.hid (H8.out.gr hg)
                               have HG9 := Lib.hid (HGR.out.trans hg)
                               have k0 := hg.keeps k0
                               have hld := H9.out.oth.now.map.look (k := kk) (by have := HKB.out; omega)
                               rw [HG.out.1.1, HG.out.1.2] at hld
                               clear hg)
                            | (go_at_call 5; refine (bare_e 2 w9 (HE.out.gr H9.out.g0)).mono ?_; rintro e w10 ⟨rfl, hg⟩
                               have H10 := Lib.hid (H9.out.gr hg)
                               have HG10 := Lib.hid (HG9.out.trans hg)
                               clear hg)
                            | (go_at_call 20; refine (root_no H10.out.pg kk HRT.out).mono ?_; rintro e w11 ⟨rfl, hg⟩
                               have H11 := Lib.hid (H10.out.gr hg)
                               have HG11 := Lib.hid (HG10.out.trans hg)
                               clear hg)
                            | (go_at_call 5; refine (bare_e 2 w11 (HE.out.gr H11.out.g0)).mono ?_; rintro e w12 ⟨rfl, hg⟩
                               have HG12 := Lib.hid (HG11.out.trans hg)
                               clear hg))
                          go_roundw
                          case rel => exact ⟨j + 1, by have := HHJ.out; omega, by rw [HNX.out], HG12.out⟩
                          case measure =>
                            have h1 := HNX.out
                            have h2 := HKK.out
                            have h3 := HHJ.out
                            simp only [intOf]
                            rw [h1]
                            omega
                        | true =>
                          go_wp2_with (first
                            | (go_at_call 19; refine HRD.out.mono ?_; rintro e w9 ⟨rfl, hg⟩
                               have H9 := Lib.hid (H8.out.gr hg)
                               have HG9 := Lib.hid (HGR.out.trans hg)
                               have k0 := hg.keeps k0
                               have hld := H9.out.oth.now.map.look (k := kk) (by have := HKB.out; omega)
                               rw [HG.out.1.1, HG.out.1.2] at hld
                               clear hg)
                            | (go_at_call 20; refine (root_no H9.out.pg kk HRT.out).mono ?_; rintro e w11 ⟨rfl, hg⟩
                               have H11 := Lib.hid (H9.out.gr hg)
                               have HG11 := Lib.hid (HG9.out.trans hg)
                               clear hg)
                            | (go_at_call 5; refine (bare_e 2 w11 (HE.out.gr H11.out.g0)).mono ?_; rintro e w12 ⟨rfl, hg⟩
                               have HG12 := Lib.hid (HG11.out.trans hg)
                               clear hg))
                          go_roundw
                          case rel => exact ⟨j + 1, by have := HHJ.out; omega, by rw [HNX.out], HG12.out⟩
                          case measure =>
                            have h1 := HNX.out
                            have h2 := HKK.out
                            have h3 := HHJ.out
                            simp only [intOf]
                            rw [h1]
                            omega
                    · obtain ⟨ik, rfl⟩ : ∃ ik : Nat, kk = ik := ⟨kk.toNat, by omega⟩
                      have hi8 : ik < 8 := by omega
                      have HI8 := Lib.hid hi8
                      have hrt := HL0.out.root ik hi8
                      have d0 : decide ((ik : Int) < 0) = false := by simp
                      have d8 : decide ((8 : Int) ≤ ik) = false := by simp; omega
                      have HRT := Lib.hid hrt
                      have hq := equalIn_two (cx.h.roots ik) (cx.h.notes ik)
                      clear hroot hrt
                      cases b with
                      | false =>
                        obtain rfl := HG.out.2 rfl
                        go_wp2_with (first
                          | (go_at_call 19; refine HRD.out.mono ?_; rintro e w9 ⟨rfl, hg⟩
                             have H9 := Lib.hid (H8.out.gr hg)
                             have HG9 := Lib.hid (HGR.out.trans hg)
                             have k0 := hg.keeps k0
                             have hld := H9.out.oth.now.map.look (k := (ik : Int)) (by have := HKB.out; omega)
                             rw [HG.out.1.1, HG.out.1.2] at hld
                             clear hg)
                          | (go_at_call 5; refine (bare_e 2 w9 (HE.out.gr H9.out.g0)).mono ?_; rintro e w10 ⟨rfl, hg⟩
                             have H10 := Lib.hid (H9.out.gr hg)
                             have HG10 := Lib.hid (HG9.out.trans hg)
                             clear hg)
                          | (go_at_call 20; refine (root_s H10.out.pg ik HI8.out).mono ?_; rintro e w11 ⟨rfl, hg⟩
                             have H11 := Lib.hid (H10.out.gr hg)
                             have HG11 := Lib.hid (HG10.out.trans hg)
                             obtain ⟨d1, d2⟩ := H11.out.oth.now.rootAt ik HI8.out
                             rw [HRT.out] at d1 d2
                             clear hg))
                        go_roundw
                        case rel => exact ⟨j + 1, by have := HHJ.out; omega, by have h := HKK.out; rw [show (ik : Int) + 1 = ((j + 1 : Nat) : Int) - 1 by omega], HG11.out⟩
                        case measure =>
                          have h1 := HNX.out
                          have h2 := HKK.out
                          have h3 := HHJ.out
                          simp only [intOf]
                          omega
                      | true =>
                        go_wp2_with (first
                          | (go_at_call 19; refine HRD.out.mono ?_; rintro e w9 ⟨rfl, hg⟩
                             have H9 := Lib.hid (H8.out.gr hg)
                             have HG9 := Lib.hid (HGR.out.trans hg)
                             have k0 := hg.keeps k0
                             have hld := H9.out.oth.now.map.look (k := (ik : Int)) (by have := HKB.out; omega)
                             rw [HG.out.1.1, HG.out.1.2] at hld
                             clear hg)
                          | (go_at_call 20; refine (root_s H9.out.pg ik HI8.out).mono ?_; rintro e w11 ⟨rfl, hg⟩
                             have H11 := Lib.hid (H9.out.gr hg)
                             have HG11 := Lib.hid (HG9.out.trans hg)
                             obtain ⟨d1, d2⟩ := H11.out.oth.now.rootAt ik HI8.out
                             rw [HRT.out] at d1 d2
                             clear hg))
                        go_roundw
                        case rel => exact ⟨j + 1, by have := HHJ.out; omega, by have h := HKK.out; rw [show (ik : Int) + 1 = ((j + 1 : Nat) : Int) - 1 by omega], HG11.out⟩
                        case measure =>
                          have h1 := HNX.out
                          have h2 := HKK.out
                          have h3 := HHJ.out
                          simp only [intOf]
                          omega
                  · obtain rfl : j = 13 := by omega
                    go_wp2_with fail
                    go_roundg (gk - 1)
                    case measure => omega
                    case rel => exact ⟨i + 1, fr2, by omega, rfl, by go_num, _, _, _, _, _, _, _, _, _, _, _, _, _, _, _, _, _, _, _, _, _, _, _, _, rfl, H8.out⟩
          · obtain rfl : i = xs.length := by omega
            go_wp2_with fail
            go_ret
            exact Ret.mk rfl HL.out.g0
set_option maxRecDepth 100000 in
set_option maxHeartbeats 4000000 in
theorem plays_long (xs : List LAct) (v : Value) (w : World) (hx : LActs w v xs) (hl : 50 < xs.length) :
    Calls Tryz.prog 3 #[v] w (Ret w (.bool true)) := by
  obtain ⟨ao, cp, rfl⟩ := hx.form
  clear hx
  have h1 : decide ((50 : Int) < xs.length) = true := by simp; omega
  clear hl
  go_enter Tryz.func3, Tryz.ntmps3
  go_wp2_with fail
  go_ret
  exact Ret.mk rfl (Gr.refl _)
theorem plays_all (xs : List LAct) (v : Value) (w : World) (hE : ErrTypeAt w) (hx : LActs w v xs) (hr : ∀ x ∈ xs, x.ok) :
    Calls Tryz.prog 3 #[v] w (Ret w (.bool true)) := by
  by_cases hl : xs.length ≤ 50
  · exact plays_walk xs v w hE hx hr hl
  · exact plays_long xs v w hx (by omega)
end Go.Proofs.YtcdoeninajpbmaaGreatDoor
