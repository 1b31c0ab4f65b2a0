/-
  match.parser.any, whatever the depth.
-/
import Derived.Test.YthenhglpljdhfaaDoorMtL
namespace Go.Proofs.YthenhglpljdhfaaDoor
open Go Go.RowKit

theorem anyL_stop (allR : List ByteArray → Rd) (n : Nat) (q : Qy) (l : List ByteArray) (h : pkB l ≠ sOr) : anyL allR n q l = .ok q l := by
  unfold anyL
  rw [if_neg h]
theorem anyL_step (allR : List ByteArray → Rd) (n : Nat) (q : Qy) (l : List ByteArray) (h : pkB l = sOr) : anyL allR (n + 1) q l = match allR l.tail with | .bad m => .bad m | .ok q' r => anyL allR n (.node 5 q q') r := by
  conv => lhs; unfold anyL
  rw [if_pos h]
  rfl
set_option maxRecDepth 100000 in
set_option maxHeartbeats 1600000 in
theorem any_t (N d : Nat) (allR : List ByteArray → Rd) (hless : ∀ l q r, allR l = .ok q r → Less r l) (hall : ∀ (l' : List ByteArray) (w' : World), InP N w' l' → Calls Tryd.prog 97 #[.pointer (some ⟨N, 0, none⟩), .int .i64 d] w' (QPost N w' (allR l')))
    (l : List ByteArray) (w : World) (h : InP N w l) : Calls Tryd.prog 76 #[.pointer (some ⟨N, 0, none⟩), .int .i64 d] w (QPost N w (anyF allR l)) := by
  have HI := Lib.hid h
  have HONE := Lib.hid hall
  have HLESS := Lib.hid hless
  have hlN := (show N < w.heap.size by obtain ⟨ao, c, b, off, h1, _⟩ := h.1; exact lt_of_cell h1)
  clear h hall hless
  generalize hR : anyF allR l = R
  unfold anyF at hR
  cases ho : allR l with
  | bad m =>
    rw [ho] at hR
    subst hR
    have HO := Lib.hid ho
    clear ho
    go_enter Tryd.func76, Tryd.ntmps76
    go_wp2_with fail
    refine (HONE.out l w HI.out).mono ?_
    rw [HO.out]
    rintro e w1 ⟨rfl, hg1⟩
    unfold Thrown
    go_wp2_with fail
    exact ⟨rfl, rfl, hg1⟩
  | ok q r =>
    rw [ho] at hR
    have HR := Lib.hid hR
    have HO := Lib.hid ho
    clear ho hR
    go_enter Tryd.func76, Tryd.ntmps76
    go_wp2_with fail
    refine (HONE.out l w HI.out).mono ?_
    rw [HO.out]
    rintro e w1 ⟨b, rfl, hq1, hp1, hg1⟩
    have hlr := HLESS.out l q r HO.out
    have hi1 := HI.out.less hp1 ⟨r, hlr.1, List.suffix_refl r⟩ hg1
    clear hlr
    go_wp2_with fail
    go_loopw [5] (fun qv w' => ∃ (q : Qy) (b : Nat) (l : List ByteArray) (n : Nat), qv = .pointer (some ⟨b, 0, none⟩) ∧ QAt N w' q b ∧ InP N w' l ∧ GrN N w w' ∧ l.length ≤ n ∧ anyL allR n q l = R) (fun _ w' => leftN N w')
    case atStart => exact ⟨q, b, r, r.length, rfl, hq1, hi1, hg1, Nat.le_refl _, HR.out⟩
    case round =>
      obtain ⟨q, b, l, n, rfl, hq, hin, hg, hn, hres⟩ := hrel
      have HQ := Lib.hid hq
      have HIN := Lib.hid hin
      have hm0 := leftN_at hin.1
      clear hq hin hq1 hp1 hi1 hg1
      by_cases hst : pkB l = sOr
      · obtain ⟨s, t, rfl, hpk⟩ := pk_cons (l := l) (by rw [hst]; decide)
        obtain rfl : s = ⟨#[79, 82]⟩ := hpk.symm.trans hst
        obtain ⟨n, rfl⟩ : ∃ m, n = m + 1 := ⟨n - 1, by simp at hn; omega⟩
        rw [anyL_step _ _ _ _ hst] at hres
        change (match allR t with | .bad m => Rd.bad m | .ok q' r => anyL allR n (.node 5 q q') r) = R at hres
        have htk := take_yes N ⟨#[79, 82]⟩ t HIN.out.2.1 _ HIN.out.1
        cases hO : allR t with
        | bad m =>
          rw [hO] at hres
          have HO2 := Lib.hid hO
          subst hres
          clear hO hst hpk
          go_wp2_with (go_at_call_of 98 (Value.string ⟨#[79, 82]⟩); refine htk.mono ?_; rintro e w2 ⟨rfl, PC, hg2⟩; have GN := hg.trans hg2; have HI2 := HIN.out.less PC ⟨t, List.suffix_cons _ t, List.suffix_refl t⟩ hg2; have QC := QAt.grN hg2 q b HQ.out; clear hg2)
          refine (HONE.out _ _ HI2).mono ?_
          rw [HO2.out]
          rintro e w3 ⟨rfl, hg3⟩
          have hgF := GN.trans hg3
          unfold Thrown
          go_wp2_with fail
          exact ⟨rfl, rfl, hgF⟩
        | ok q2 r =>
          rw [hO] at hres
          have HO2 := Lib.hid hO
          have hlr := HLESS.out _ q2 r hO
          have HRS := Lib.hid hres
          clear hO hst hpk hres
          go_wp2_with (go_at_call_of 98 (Value.string ⟨#[79, 82]⟩); refine htk.mono ?_; rintro e w2 ⟨rfl, PC, hg2⟩; have GN := hg.trans hg2; have HI2 := HIN.out.less PC ⟨t, List.suffix_cons _ t, List.suffix_refl t⟩ hg2; have QC := QAt.grN hg2 q b HQ.out; clear hg2)
          refine (HONE.out _ _ HI2).mono ?_
          rw [HO2.out]
          rintro e w3 ⟨b2, rfl, hq2, hp2, hg3⟩
          have hgF := GN.trans hg3
          have hQ1 := QAt.grN hg3 q b QC
          have hi3 := HI2.less hp2 ⟨r, hlr.1, List.suffix_refl r⟩ hg3
          have hN3 : N < w3.heap.size := Nat.lt_of_lt_of_le hlN hgF.2.2.2.1
          have hND := node_new 5 hQ1 hq2 hN3 140
          have hga : Gr w3 (w3.alloc (.cells #[.int .i64 5, .slice none 0 0, .int .i64 0, .pointer (some ⟨b, 0, none⟩), .pointer (some ⟨b2, 0, none⟩)] 140)) := (Gr.refl w3).alloc _
          have hi4 := hi3.less (hi3.1.gr hga) ⟨r, List.suffix_refl r, List.suffix_refl r⟩ (GrX.of_gr hga)
          have hm4 := leftN_at hi4.1
          have hl2 := hlr.2
          have HND := Lib.hid hND
          clear hND hlr hq2 hp2 hi3 HI2
          go_wp2_with fail
          refine ⟨⟨_, w3.heap.size, r, n, rfl, HND.out, hi4, hgF.trans (GrX.of_gr hga), by simp at hn hl2; omega, HRS.out⟩, ?_⟩
          rw [hm4, hm0]
          simp at hl2 ⊢
          omega
      · rw [anyL_stop _ _ _ _ hst] at hres
        subst hres
        have htk := take_no N l ⟨#[79, 82]⟩ HIN.out.2.1 _ HIN.out.1 hst
        clear hst hm0
        go_wp2_with (go_at_call_of 98 (Value.string ⟨#[79, 82]⟩); refine htk.mono ?_; rintro e w2 ⟨rfl, rfl⟩)
        go_ret
        exact ⟨b, rfl, HQ.out, HIN.out.1, hg⟩
/-- What stands at a depth, in so many parentheses more. -/
theorem any_k (N : Nat) : ∀ (k d : Nat), d + k = 13 → ∀ (l : List ByteArray) (w : World), InP N w l → Calls Tryd.prog 76 #[.pointer (some ⟨N, 0, none⟩), .int .i64 d] w (QPost N w (anyK k l)) := by
  intro k
  induction k with
  | zero =>
    intro d hd l w h
    exact any_t N d (allK 0) (allK_less 0) (fun l' w' h' => all_t N d (by omega) (oneK 0) (oneK_less 0) (fun l'' w'' _ => one_deep N d (by omega) w'') l' w' h') l w h
  | succ k ih =>
    intro d hd l w h
    refine any_t N d (allK (k + 1)) (allK_less (k + 1)) (fun l' w' h' => all_t N d (by omega) (oneK (k + 1)) (oneK_less (k + 1)) (fun l'' w'' h'' => ?_) l' w' h') l w h
    exact one_t N d (by omega) (anyK k) (anyK_less k) (fun l3 w3 h3 => by
      have := ih (d + 1) (by omega) l3 w3 h3
      rwa [show ((d + 1 : Nat) : Int) = (d : Int) + 1 by omega] at this) l'' w'' h''
end Go.Proofs.YthenhglpljdhfaaDoor
