/-
  sort.pdqsort_func, the functions given being any that do as SortBy says: it gives what the plain 'pdq' gives.
-/
import Derived.Test.YtkdplnbdhkckhaaSorG
import Derived.Test.YtkdplnbdhkckhaaSorI
import Derived.Test.YtkdplnbdhkckhaaSorJ
import Derived.Sort.Walk13
import Derived.Sort.AssemblyPlain
namespace Go.Proofs.Ytkdplnbdhkckhaa
open Go Go.RowKit Go.Sort
section
variable {α : Type} [Inhabited α] {lt : α → α → Bool} {R : World → Array α → Prop} {B size g : Nat} {lb : Array Value} {sf : Nat} {sb : Array Value}
theorem hintI_code (h : Hint) : hintI h = hintCode h := by cases h <;> rfl
set_option maxHeartbeats 100000000 in
set_option maxRecDepth 100000 in
theorem pdqsort_w (S : SortBy Try.prog lt R B size g lb sf sb) (hO : SWO lt) : ∀ (n a b limit : Nat) (d : Array α) (w : World), b - a < n → R w d → a ≤ b → b ≤ size → limit < 4611686018427387904 → Go.Sort.Below lt a b d →
    Calls Try.prog 75 #[dataV g lb sf sb, .int .i64 a, .int .i64 b, .int .i64 limit] w fun e w' => e = .returned (.tuple #[]) ∧ SoAt R B w (pdq lt d a b limit true true) w' := by
  intro n
  induction n with
  | zero => intro _ _ _ _ _ h; exact absurd h (Nat.not_lt_zero _)
  | succ n ih =>
    intro a b limit d w hN h hab hb hlimit hBel0
    obtain ⟨D, w1, hD, hw1, hbx, hDB, hR, hfin⟩ := sort_begin S h 98
    have eg := S.enter
    have HS := Lib.hid S
    have hlim := S.lim
    have HFIN := Lib.hid hfin
    have HBX := Lib.hid hbx
    have HR := Lib.hid hR
    have HSZ : Hid (∀ {w : World} {d : Array α}, R w d → d.size = size) := Lib.hid S.sz
    have IH := Lib.hid ih
    have HB0 := Lib.hid hBel0
    clear S h hfin hbx hR ih hBel0
    unfold dataV
    go_enter Try.func75, Try.ntmps75
    go_wp2_with fail
    rw [← hw1, ← hD]
    clear hw1 hD
    go_loopg [1, 2, 3, 8, 9] (b - a) (fun kx s1 s2 s3 s8 s9 wr => ∃ (a2 b2 lim : Nat) (wb wp : Bool) (dk : Array α), s1 = .int .i64 a2 ∧ s2 = .int .i64 b2 ∧ s3 = .int .i64 lim ∧ s8 = .bool wb ∧ s9 = .bool wp ∧
      a2 ≤ b2 ∧ b2 ≤ size ∧ b2 - a2 ≤ kx ∧ kx ≤ b - a ∧ lim ≤ limit ∧ Hid (Go.Sort.Below lt a2 b2 dk) ∧ SoAt R B w1 dk wr ∧ Hid (pdq lt dk a2 b2 lim wb wp = pdq lt d a b limit true true))
    case atStart => exact ⟨a, b, limit, true, true, d, rfl, rfl, rfl, rfl, rfl, hab, hb, Nat.le_refl _, Nat.le_refl _, Nat.le_refl _, HB0, SoAt.start HR.out, Lib.hid rfl⟩
    case round =>
      obtain ⟨a2, b2, lim, wb, wp, dk, rfl, rfl, rfl, rfl, rfl, hab2, hb2, hkx, hkN, hlim2, hBel, hso, HE⟩ := hrel
      have HSO := Lib.hid hso
      clear hso
      obtain ⟨c0, c1⟩ := HBX.out.so HSO.out hDB
      by_cases h12 : b2 - a2 ≤ 12
      · have e12 : decide ((b2 : Int) - (a2 : Int) ≤ 12) = true := by simp; omega
        have hc := insertionSort_w HS.out a2 b2 dk wr HSO.out.1 hab2 hb2
        unfold dataV at hc
        have HC := Lib.hid hc
        clear hc
        go_wp2_with (first
          | (go_at_call 93; refine HC.out.mono ?_; rintro e w3 ⟨rfl, k⟩
             have K := Lib.hid k
             clear k))
        (try simp only [Exit.inBlock, Exit.then]); refine bodyPost_ret (results_none rfl _ _ _) rfl ?_
        refine ⟨rfl, HFIN.out _ _ ?_⟩
        rw [← HE.out, pdq_small h12]
        exact HSO.out.step K.out
      have e12 : decide ((b2 : Int) - (a2 : Int) ≤ 12) = false := by simp; omega
      by_cases hl0 : lim = 0
      · have el0 : ((lim : Int) == 0) = true := by simp; omega
        have hc := heapSort_w HS.out a2 b2 dk wr HSO.out.1 hab2 hb2
        unfold dataV at hc
        have HC := Lib.hid hc
        clear hc
        go_wp2_with (first
          | (go_at_call 94; refine HC.out.mono ?_; rintro e w3 ⟨rfl, k⟩
             have K := Lib.hid k
             clear k))
        (try simp only [Exit.inBlock, Exit.then]); refine bodyPost_ret (results_none rfl _ _ _) rfl ?_
        refine ⟨rfl, HFIN.out _ _ ?_⟩
        rw [← HE.out, pdq_heap h12 hl0]
        exact HSO.out.step K.out
      have el0 : ((lim : Int) == 0) = false := by simp; omega
      have HFACT : Hid (_) := Lib.hid (rd_facts (lt := lt) (limit := lim) (wb := wb) (wp := wp) hO partialInsertionSort_holds reverseRange_holds (show a2 < b2 by omega) (show b2 ≤ dk.size by rw [HSZ.out HSO.out.1]; exact hb2) hBel.out)
      go_upto_if 35 with (fail)
      clear e12 el0
      go_cut [3] (fun s3 wx => s3 = .int .i64 ((rd lt dk a2 b2 lim wb wp).lim : Nat) ∧ SoAt R B w1 (rd lt dk a2 b2 lim wb wp).d1 wx)
      case first =>
        as_aux_lemma =>
          have hl := HFACT.out
          cases wb
          · obtain ⟨L, hL⟩ : ∃ L, b2 = a2 + L := ⟨b2 - a2, by omega⟩
            have hc := breakPatterns_w HS.out a2 L dk wr HSO.out.1 (by omega) (by omega)
            rw [← hL] at hc
            unfold dataV at hc
            have HC := Lib.hid hc
            clear hc hL hl
            go_wp2_with (first
              | (go_at_call 95; refine HC.out.mono ?_; rintro e w3 ⟨rfl, k⟩
                 have K := Lib.hid k
                 clear k))
            go_meet
            refine ⟨?_, HSO.out.step K.out⟩
            show Value.int .i64 ((lim : Int) - 1) = Value.int .i64 ((lim - 1 : Nat) : Int)
            congr 1
            omega
          · clear hl
            go_wp2_with fail
            go_meet
            exact ⟨rfl, HSO.out⟩
      case rest =>
        obtain ⟨rfl, hso1⟩ := hcut
        have H1 := Lib.hid hso1
        clear hso1 c0 c1
        obtain ⟨c0, c1⟩ := HBX.out.so H1.out hDB
        have hc := choosePivot_w HS.out a2 b2 (rd lt dk a2 b2 lim wb wp).d1 wc H1.out.1 (by omega) hb2
        have ec : choosePivot lt (rd lt dk a2 b2 lim wb wp).d1 a2 b2 = (rd lt dk a2 b2 lim wb wp).c := rfl
        rw [ec, hintI_code] at hc
        unfold dataV at hc
        have HC := Lib.hid hc
        clear hc ec
        go_upto_if 50 with (first
          | (go_at_call 96; refine HC.out.mono ?_; rintro e w3 ⟨rfl, k, kg⟩
             have H2 := Lib.hid (H1.out.gr HS.out kg)
             clear k kg HC))
        clear c0 c1
        obtain ⟨c0, c1⟩ := HBX.out.so H2.out hDB
        obtain ⟨cb, hcb⟩ : ∃ cb, (hintCode (rd lt dk a2 b2 lim wb wp).c.2 == 2) = cb := ⟨_, rfl⟩
        rw [hcb]
        have HCB := Lib.hid hcb
        clear hcb
        go_cut [11, 12] (fun s11 s12 wx => s11 = .int .i64 ((rd lt dk a2 b2 lim wb wp).pivot : Nat) ∧ s12 = .int .i64 (hintCode (rd lt dk a2 b2 lim wb wp).hint) ∧ SoAt R B w1 (rd lt dk a2 b2 lim wb wp).d2 wx)
        case first =>
          as_aux_lemma =>
            by_cases hh : (rd lt dk a2 b2 lim wb wp).c.2 = .decreasing
            · obtain rfl : cb = true := by rw [← HCB.out, hh]; rfl
              obtain ⟨e2, epv, eht⟩ := rd_dec hh
              have hc := reverseRange_w HS.out a2 b2 (rd lt dk a2 b2 lim wb wp).d1 w3 H2.out.1 hab2 hb2 (by omega)
              rw [← e2] at hc
              unfold dataV at hc
              have HC := Lib.hid hc
              have HEPV := Lib.hid epv
              have HEHT := Lib.hid eht
              have hcv : a2 ≤ (rd lt dk a2 b2 lim wb wp).c.1 ∧ (rd lt dk a2 b2 lim wb wp).c.1 < b2 := HFACT.out.2.2.1
              clear hc e2 epv eht
              go_wp2_with (first
                | (go_at_call 97; refine HC.out.mono ?_; rintro e w4 ⟨rfl, k⟩
                   have K := Lib.hid k
                   clear k))
              go_meet
              refine ⟨?_, by rw [HEHT.out]; rfl, H2.out.step K.out⟩
              rw [HEPV.out]
              congr 1
              omega
            · obtain rfl : cb = false := by rw [← HCB.out]; simpa using fun h => hh (hintCode_two h)
              obtain ⟨e2, epv, eht⟩ := rd_not hh
              have HE2 := Lib.hid e2
              have HEPV := Lib.hid epv
              have HEHT := Lib.hid eht
              clear e2 epv eht
              go_wp2_with fail
              go_meet
              exact ⟨by rw [HEPV.out], by rw [HEHT.out], by rw [HE2.out]; exact H2.out⟩
        case rest =>
          obtain ⟨rfl, rfl, hso3⟩ := hcut
          have H3 := Lib.hid hso3
          clear hso3 c0 c1
          go_upto_region 16 with (fail)
          go_cut [68] (fun s68 wx => s68 = .bool (wb && wp && decide ((rd lt dk a2 b2 lim wb wp).hint = .increasing)) ∧ wx = wc)
          case first =>
            as_aux_lemma =>
              have hcode : decide ((rd lt dk a2 b2 lim wb wp).hint = .increasing) = (hintCode (rd lt dk a2 b2 lim wb wp).hint == 1) := by cases (rd lt dk a2 b2 lim wb wp).hint <;> rfl
              obtain ⟨hc1, hhc1⟩ : ∃ x, (hintCode (rd lt dk a2 b2 lim wb wp).hint == 1) = x := ⟨_, rfl⟩
              rw [hhc1] at hcode
              have HDEC := Lib.hid hcode
              have HH := Lib.hid hhc1
              clear hhc1 hcode
              cases wb <;> cases wp
              all_goals
                have hh := HH.out
                go_wp2_with fail
                go_meet
                first
                  | exact ⟨rfl, rfl⟩
                  | exact ⟨by rw [HDEC.out]; rfl, rfl⟩
                  | exact ⟨by rw [HDEC.out]; simp, rfl⟩
          case rest =>
            obtain ⟨rfl, rfl⟩ := hcut
            obtain ⟨pb, hpb⟩ : ∃ pb, (wb && wp && decide ((rd lt dk a2 b2 lim wb wp).hint = .increasing)) = pb := ⟨_, rfl⟩
            rw [hpb]
            have HPB := Lib.hid hpb
            clear hpb
            go_upto_if 68 with (fail)
            go_cut [69] (fun _ wx => Hid ((rd lt dk a2 b2 lim wb wp).pi.2 = false) ∧ SoAt R B w1 (rd lt dk a2 b2 lim wb wp).pi.1 wx)
            case first =>
              as_aux_lemma =>
                cases pb with
                | false =>
                  have epi := Lib.hid (rd_pi_no HPB.out)
                  go_wp2_with fail
                  go_meet
                  exact ⟨Lib.hid (by rw [epi.out]), by rw [epi.out]; exact H3.out⟩
                | true =>
                  have epi := rd_pi_yes HPB.out
                  have hc := partialIns_w HS.out a2 b2 (rd lt dk a2 b2 lim wb wp).d2 wc H3.out.1 (by omega) hb2
                  rw [← epi] at hc
                  unfold dataV at hc
                  obtain ⟨c0, c1⟩ := HBX.out.so H3.out hDB
                  clear epi
                  cases hp : (rd lt dk a2 b2 lim wb wp).pi.2 with
                  | false =>
                    rw [hp] at hc
                    have HC := Lib.hid hc
                    have HP := Lib.hid hp
                    clear hc hp
                    go_wp2_with (first
                      | (go_at_call 98; refine HC.out.mono ?_; rintro e w4 ⟨rfl, k⟩
                         have K := Lib.hid k
                         clear k))
                    go_meet
                    exact ⟨HP, H3.out.step K.out⟩
                  | true =>
                    rw [hp] at hc
                    have HC := Lib.hid hc
                    have HP := Lib.hid hp
                    clear hc hp
                    go_wp2_with (first
                      | (go_at_call 98; refine HC.out.mono ?_; rintro e w4 ⟨rfl, k⟩
                         have K := Lib.hid k
                         clear k))
                    (try simp only [Exit.inBlock, Exit.then]); refine bodyPost_ret (results_none rfl _ _ _) rfl ?_
                    refine ⟨rfl, HFIN.out _ _ ?_⟩
                    rw [← HE.out, pdq_done h12 hl0 HP.out]
                    exact H3.out.step K.out
            case rest =>
              obtain ⟨HP2, hso5⟩ := hcut
              have H5 := Lib.hid hso5
              clear hso5
              have hpv := HFACT.out.2.2.2.2.2.1
              go_upto_region 18 with (fail)
              go_cut [83] (fun s83 wx => s83 = .bool (decide (a2 > 0) && !lt (rd lt dk a2 b2 lim wb wp).pi.1[a2 - 1]! (rd lt dk a2 b2 lim wb wp).pi.1[(rd lt dk a2 b2 lim wb wp).pivot]!) ∧ SoAt R B w1 (rd lt dk a2 b2 lim wb wp).pi.1 wx)
              case first =>
                as_aux_lemma =>
                  obtain ⟨c0, c1⟩ := HBX.out.so H5.out hDB
                  rcases Nat.eq_zero_or_pos a2 with ha0 | ha0
                  · have HA0 := Lib.hid ha0
                    have e0 : decide ((0 : Int) < (a2 : Int)) = false := by simp; omega
                    have e1 : decide (0 < a2) = false := by simp; omega
                    have e2 : ¬ 0 < a2 := by omega
                    clear ha0
                    go_wp2_with fail
                    go_meet
                    exact ⟨by rw [HA0.out]; rfl, H5.out⟩
                  · have e0 : decide ((0 : Int) < (a2 : Int)) = true := by simp; omega
                    have HA0 := Lib.hid ha0
                    cases hlv : lt (rd lt dk a2 b2 lim wb wp).pi.1[a2 - 1]! (rd lt dk a2 b2 lim wb wp).pi.1[(rd lt dk a2 b2 lim wb wp).pivot]! with
                    | true =>
                      have HL := Lib.hid hlv
                      clear hlv
                      go_wp2_with (first
                        | (go_at_fn g; refine (H5.out.lessI HS.out (a2 - 1) (rd lt dk a2 b2 lim wb wp).pivot (by omega) (by omega) (by omega) rfl).mono ?_; rintro e w4 ⟨rfl, k⟩
                           rw [HL.out]
                           have K := Lib.hid k
                           clear k))
                      go_meet
                      exact ⟨by simp [HL.out], K.out⟩
                    | false =>
                      have HL := Lib.hid hlv
                      clear hlv
                      go_wp2_with (first
                        | (go_at_fn g; refine (H5.out.lessI HS.out (a2 - 1) (rd lt dk a2 b2 lim wb wp).pivot (by omega) (by omega) (by omega) rfl).mono ?_; rintro e w4 ⟨rfl, k⟩
                           rw [HL.out]
                           have K := Lib.hid k
                           clear k))
                      go_meet
                      exact ⟨by simp [HA0.out, HL.out], K.out⟩
              case rest =>
                obtain ⟨rfl, hso6⟩ := hcut
                have H6 := Lib.hid hso6
                clear hso6
                obtain ⟨c0, c1⟩ := HBX.out.so H6.out hDB
                have hsz6 : (rd lt dk a2 b2 lim wb wp).pi.1.size = size := HSZ.out H6.out.1
                obtain ⟨qb, hqb⟩ : ∃ qb, (decide (a2 > 0) && !lt (rd lt dk a2 b2 lim wb wp).pi.1[a2 - 1]! (rd lt dk a2 b2 lim wb wp).pi.1[(rd lt dk a2 b2 lim wb wp).pivot]!) = qb := ⟨_, rfl⟩
                rw [hqb]
                have HQB := Lib.hid hqb
                clear hqb
                cases qb with
                | false =>
                  obtain ⟨mid, ap, d4, hx⟩ : ∃ mid ap d4, partition lt (rd lt dk a2 b2 lim wb wp).pi.1 a2 b2 (rd lt dk a2 b2 lim wb wp).pivot = (mid, ap, d4) := ⟨_, _, _, rfl⟩
                  obtain ⟨r1, r2, r3, r4, r5, r6, r7⟩ := round_part hO (partition_holds lt) hpv.1 hpv.2 (show b2 ≤ (rd lt dk a2 b2 lim wb wp).pi.1.size by omega) HFACT.out.2.2.2.2.2.2.2 hx
                  have hc := partition_w HS.out a2 b2 (rd lt dk a2 b2 lim wb wp).pivot (rd lt dk a2 b2 lim wb wp).pi.1 wc H6.out.1 (by omega) hpv hb2
                  rw [hx] at hc
                  unfold dataV at hc
                  have HC := Lib.hid hc
                  have HX := Lib.hid hx
                  have HR3 := Lib.hid r3
                  have HR4 := Lib.hid r4
                  have HR5 := Lib.hid r5
                  have HR6 := Lib.hid r6
                  have HR7 := Lib.hid r7
                  clear hc hx r3 r4 r5 r6 r7 hsz6
                  go_upto_if 109 with (first
                    | (go_at_call 100; refine HC.out.mono ?_; rintro e w7 ⟨rfl, k⟩
                       have H7 := Lib.hid (H6.out.step k)
                       clear k HC))
                  clear c0 c1
                  obtain ⟨p0, p1⟩ := HBX.out.so H7.out hDB
                  have hs4 : d4.size = size := HSZ.out H7.out.1
                  by_cases h4 : mid - a2 < b2 - mid
                  · have e4 : decide ((mid : Int) - (a2 : Int) < (b2 : Int) - (mid : Int)) = true := by simp; omega
                    have hih := IH.out a2 mid (rd lt dk a2 b2 lim wb wp).lim d4 w7 (by omega) H7.out.1 r1 (by omega) (Nat.lt_of_le_of_lt (Nat.le_trans rd_lim_le hlim2) hlimit) HR4.out
                    obtain ⟨pL, sL⟩ := pdq_sorts lt hO d4 a2 mid (rd lt dk a2 b2 lim wb wp).lim true true r1 (by omega) HR4.out
                    unfold dataV at hih
                    have HIH := Lib.hid hih
                    have HB4 := Lib.hid (HR6.out _ pL sL).1
                    have HEI := Lib.hid (eighth (x := b2) (y := a2) (p := mid) (q := a2) r1 hab2)
                    have HLT := Lib.hid h4
                    rw [e4]
                    clear hih pL sL hs4 h4 e4
                    go_wp2_with (first
                      | (go_at_call 75; refine HIH.out.mono ?_; rintro e w8 ⟨rfl, k⟩
                         have K := Lib.hid k
                         clear k))
                    go_roundg (b2 - (mid + 1))
                    case measure => omega
                    case rel => exact ⟨mid + 1, b2, (rd lt dk a2 b2 lim wb wp).lim, decide (mid - a2 ≥ (b2 - a2) / 8), ap, pdq lt d4 a2 mid (rd lt dk a2 b2 lim wb wp).lim true true, by go_num, rfl, rfl, congrArg Value.bool HEI.out, rfl, by omega, hb2, Nat.le_refl _, by omega, Nat.le_trans rd_lim_le hlim2, HB4, H7.out.step K.out, Lib.hid (by rw [← HE.out, pdq_left h12 hl0 HP2.out HQB.out (by rw [HX.out]; exact ⟨r1, r2⟩) (by rw [HX.out]; exact HLT.out), HX.out])⟩
                  · have e4 : decide ((mid : Int) - (a2 : Int) < (b2 : Int) - (mid : Int)) = false := by simp; omega
                    have hih := IH.out (mid + 1) b2 (rd lt dk a2 b2 lim wb wp).lim d4 w7 (by omega) H7.out.1 (by omega) hb2 (Nat.lt_of_le_of_lt (Nat.le_trans rd_lim_le hlim2) hlimit) HR5.out
                    rw [show ((mid + 1 : Nat) : Int) = (mid : Int) + 1 by omega] at hih
                    obtain ⟨pL, sL⟩ := pdq_sorts lt hO d4 (mid + 1) b2 (rd lt dk a2 b2 lim wb wp).lim true true (by omega) (by omega) HR5.out
                    unfold dataV at hih
                    have HIH := Lib.hid hih
                    have HB4 := Lib.hid (HR7.out _ pL sL).1
                    have HEI := Lib.hid (eighth (x := b2) (y := a2) (p := b2) (q := mid) (by omega) hab2)
                    have HLT := Lib.hid h4
                    rw [e4]
                    clear hih pL sL hs4 h4 e4
                    go_wp2_with (first
                      | (go_at_call 75; refine HIH.out.mono ?_; rintro e w8 ⟨rfl, k⟩
                         have K := Lib.hid k
                         clear k))
                    go_roundg (mid - a2)
                    case measure => omega
                    case rel => exact ⟨a2, mid, (rd lt dk a2 b2 lim wb wp).lim, decide (b2 - mid ≥ (b2 - a2) / 8), ap, pdq lt d4 (mid + 1) b2 (rd lt dk a2 b2 lim wb wp).lim true true, rfl, rfl, rfl, congrArg Value.bool HEI.out, rfl, r1, by omega, Nat.le_refl _, by omega, Nat.le_trans rd_lim_le hlim2, HB4, H7.out.step K.out, Lib.hid (by rw [← HE.out, pdq_right h12 hl0 HP2.out HQB.out (by rw [HX.out]; exact ⟨r1, r2⟩) (by rw [HX.out]; exact HLT.out), HX.out])⟩
                | true =>
                  have hq := HQB.out
                  simp only [Bool.and_eq_true, decide_eq_true_eq, Bool.not_eq_true'] at hq
                  obtain ⟨mid, d4, hx⟩ : ∃ mid d4, partitionEqual lt (rd lt dk a2 b2 lim wb wp).pi.1 a2 b2 (rd lt dk a2 b2 lim wb wp).pivot = (mid, d4) := ⟨_, _, rfl⟩
                  obtain ⟨r1, r2, r3, r4, r5⟩ := round_eq hO (partitionEqual_holds lt) hq.1 hpv.1 hpv.2 (show b2 ≤ (rd lt dk a2 b2 lim wb wp).pi.1.size by omega) HFACT.out.2.2.2.2.2.2.2 hq.2 hx
                  have hc := partitionEqual_w HS.out a2 b2 (rd lt dk a2 b2 lim wb wp).pivot (rd lt dk a2 b2 lim wb wp).pi.1 wc H6.out.1 (by omega) hpv hb2
                  rw [hx] at hc
                  unfold dataV at hc
                  have HC := Lib.hid hc
                  have HX := Lib.hid hx
                  have HR4 := Lib.hid r4
                  clear hc hx hq r3 r4 r5 hsz6
                  go_wp2_with (first
                    | (go_at_call 99; refine HC.out.mono ?_; rintro e w7 ⟨rfl, k⟩
                       have H7 := Lib.hid (H6.out.step k)
                       clear k HC))
                  go_roundg (b2 - mid)
                  case measure => omega
                  case rel => exact ⟨mid, b2, (rd lt dk a2 b2 lim wb wp).lim, wb, wp, d4, rfl, rfl, rfl, rfl, rfl, r2, hb2, Nat.le_refl _, by omega, Nat.le_trans rd_lim_le hlim2, HR4, H7.out, Lib.hid (by rw [← HE.out, pdq_eq h12 hl0 HP2.out HQB.out (by rw [HX.out]; exact ⟨r1, r2⟩), HX.out])⟩
end
end Go.Proofs.Ytkdplnbdhkckhaa
