/-
  match.parser: one, all and any.
-/
import Derived.Test.YthenhglpljdhfaaDoorMtO3
namespace Go.Proofs.YthenhglpljdhfaaDoor
open Go Go.RowKit

theorem one_t (N d : Nat) (hd : d ≤ 12) (anyR : List ByteArray → Rd) (hless : ∀ l q r, anyR l = .ok q r → Less r l) (hany : ∀ (l' : List ByteArray) (w' : World), InP N w' l' → Calls Tryd.prog 76 #[.pointer (some ⟨N, 0, none⟩), .int .i64 ((d : Int) + 1)] w' (QPost N w' (anyR l')))
    (l : List ByteArray) (w : World) (h : InP N w l) : Calls Tryd.prog 118 #[.pointer (some ⟨N, 0, none⟩), .int .i64 d] w (QPost N w (oneF anyR l)) := by
  unfold oneF
  dsimp only
  split
  · rename_i hs
    exact one_stop N d hd l w h hs
  · rename_i hs
    obtain ⟨s, t, rfl, hp⟩ := pk_cons (l := l) (fun e => hs (.inl e))
    rw [hp] at hs
    simp only [hp, List.tail_cons]
    have hf := free_of hs
    split
    · rename_i ho
      subst ho
      exact one_open N d hd anyR hless hany t w h
    · rename_i ho
      obtain ⟨c0, r, hr, _⟩ := (h.2.2.1 s (by simp)).1
      have hh : headB s = c0 := by unfold headB; rw [hr]; rfl
      rw [hh, hr]
      split
      · rename_i h34
        subst h34
        exact one_quote N d hd s t w h hf ho r hr
      · rename_i h34
        split
        · rename_i hst
          obtain ⟨a, t', rfl, ha⟩ := pk_cons (l := t) (by rw [hst]; decide)
          obtain rfl : a = ⟨#[42]⟩ := ha.symm.trans hst
          exact one_star N d hd s t' w h hf ho c0 r hr h34
        · rename_i hst
          split
          · rename_i a hsp
            show Calls _ _ _ _ (QPost N w (if pkB t = sNear then (if pkB t.tail = sNone ∨ markB (headB (pkB t.tail)) = true then Rd.bad 3 else (match splitS (pkB t.tail) with | [b] => Rd.ok (Qy.leaf 3 [a, b] 3) t.tail.tail | _ => Rd.bad 3)) else Rd.ok (Qy.leaf 1 [a] 0) t))
            by_cases hnear : pkB t = sNear
            · rw [if_pos hnear]
              obtain ⟨x, t', rfl, hx⟩ := pk_cons (l := t) (by rw [hnear]; decide)
              obtain rfl : x = ⟨#[78, 69, 65, 82]⟩ := hx.symm.trans hnear
              show Calls _ _ _ _ (QPost N w (if pkB t' = sNone ∨ markB (headB (pkB t')) = true then Rd.bad 3 else (match splitS (pkB t') with | [b] => Rd.ok (Qy.leaf 3 [a, b] 3) t'.tail | _ => Rd.bad 3)))
              by_cases hb : pkB t' = sNone ∨ markB (headB (pkB t')) = true
              · rw [if_pos hb]
                by_cases hb0 : pkB t' = sNone
                · exact one_word3 N d hd s t' w h hf ho c0 r hr h34 hst a hsp hb0
                · obtain ⟨b, t'', rfl, hbb⟩ := pk_cons (l := t') hb0
                  have hmk : markB (headB b) = true := by
                    rcases hb with e | e
                    · exact absurd e hb0
                    · rwa [hbb] at e
                  exact one_word4 N d hd s b t'' w h hf ho c0 r hr h34 hst a hsp hmk
              · rw [if_neg hb]
                obtain ⟨b, t'', rfl, hbb⟩ := pk_cons (l := t') (fun e => hb (.inl e))
                rw [hbb] at hb ⊢
                have hmk : markB (headB b) = false := by
                  rw [Bool.eq_false_iff]
                  exact fun e => hb (.inr e)
                split
                · rename_i a2 hsb
                  exact one_word6 N d hd s b t'' w h hf ho c0 r hr h34 hst a hsp hmk a2 hsb
                · rename_i hsb
                  exact one_word5 N d hd s b t'' w h hf ho c0 r hr h34 hst a hsp hmk (fun a e => hsb a e)
            · rw [if_neg hnear]
              exact one_word2 N d hd s t w h hf ho c0 r hr h34 hst a hsp hnear
          · rename_i hsp
            exact one_word1 N d hd s t w h hf ho c0 r hr h34 hst (fun a e => hsp a e)
/-- How many pieces are left. -/
def leftN (N : Nat) (w : World) : Nat := match w.cell? ⟨N, 0, none⟩ with | some (.slice _ n _) => n | _ => 0
theorem leftN_at {N : Nat} {w : World} {l : List ByteArray} (h : PAt N w l) : leftN N w = l.length := by
  obtain ⟨ao, c, b, off, h1, _⟩ := h
  unfold leftN
  rw [h1]
theorem InP.less {N : Nat} {w w' : World} {l r : List ByteArray} (h : InP N w l) (hp : PAt N w' r) (hr : ∃ m, m <:+ l ∧ r <:+ m) (g : GrN N w w') : InP N w' r := by
  obtain ⟨m, h1, h2⟩ := hr
  have h3 := h2.trans h1
  exact ⟨hp, Nat.le_trans h3.length_le h.2.1, fun p hp => h.2.2.1 p (h3.subset hp), h.2.2.2.1.grN g h.2.2.2.2, h.2.2.2.2⟩
theorem allL_stop (oneR : List ByteArray → Rd) (n : Nat) (q : Qy) (l : List ByteArray) (h : stopB (pkB l)) : allL oneR n q l = .ok q l := by
  unfold allL
  rw [if_pos h]
theorem allL_step (oneR : List ByteArray → Rd) (n : Nat) (q : Qy) (l : List ByteArray) (h : ¬ stopB (pkB l)) : allL oneR (n + 1) q l = match oneR (if pkB l = sNot ∨ pkB l = sAnd then l.tail else l) with | .bad m => .bad m | .ok q' r => allL oneR n (.node (if pkB l = sNot then 6 else 4) q q') r := by
  conv => lhs; unfold allL
  rw [if_neg h]
  rfl
set_option maxRecDepth 100000 in
set_option maxHeartbeats 1600000 in
theorem all_t (N d : Nat) (_hd : d ≤ 13) (oneR : List ByteArray → Rd) (hless : ∀ l q r, oneR l = .ok q r → Less r l) (hone : ∀ (l' : List ByteArray) (w' : World), InP N w' l' → Calls Tryd.prog 118 #[.pointer (some ⟨N, 0, none⟩), .int .i64 d] w' (QPost N w' (oneR l')))
    (l : List ByteArray) (w : World) (h : InP N w l) : Calls Tryd.prog 97 #[.pointer (some ⟨N, 0, none⟩), .int .i64 d] w (QPost N w (allF oneR l)) := by
  have HI := Lib.hid h
  have HONE := Lib.hid hone
  have HLESS := Lib.hid hless
  have hlN := (show N < w.heap.size by obtain ⟨ao, c, b, off, h1, _⟩ := h.1; exact lt_of_cell h1)
  clear h hone hless
  generalize hR : allF oneR l = R
  unfold allF at hR
  cases ho : oneR l with
  | bad m =>
    rw [ho] at hR
    subst hR
    have HO := Lib.hid ho
    clear ho
    go_enter Tryd.func97, Tryd.ntmps97
    go_wp2_with fail
    refine (HONE.out l w HI.out).mono ?_
    rw [HO.out]
    rintro e w1 ⟨rfl, hg1⟩
    unfold Thrown
    go_wp2_with fail
    exact ⟨rfl, rfl, hg1⟩
  | ok q r =>
    rw [ho] at hR
    have HR := Lib.hid hR
    have HO := Lib.hid ho
    clear ho hR
    go_enter Tryd.func97, Tryd.ntmps97
    go_wp2_with fail
    refine (HONE.out l w HI.out).mono ?_
    rw [HO.out]
    rintro e w1 ⟨b, rfl, hq1, hp1, hg1⟩
    have hlr := HLESS.out l q r HO.out
    have hi1 := HI.out.less hp1 ⟨r, hlr.1, List.suffix_refl r⟩ hg1
    clear hlr
    go_wp2_with fail
    go_loopw [5] (fun qv w' => ∃ (q : Qy) (b : Nat) (l : List ByteArray) (n : Nat), qv = .pointer (some ⟨b, 0, none⟩) ∧ QAt N w' q b ∧ InP N w' l ∧ GrN N w w' ∧ l.length ≤ n ∧ allL oneR n q l = R) (fun _ w' => leftN N w')
    case atStart => exact ⟨q, b, r, r.length, rfl, hq1, hi1, hg1, Nat.le_refl _, HR.out⟩
    case round =>
      obtain ⟨q, b, l, n, rfl, hq, hin, hg, hn, hres⟩ := hrel
      have HQ := Lib.hid hq
      have HIN := Lib.hid hin
      have hm0 := leftN_at hin.1
      have hnx := next_t N l hin.2.1 _ hin.1
      clear hq hin hq1 hp1 hi1 hg1
      by_cases hst : stopB (pkB l)
      · rw [allL_stop _ _ _ _ hst] at hres
        subst hres
        clear hm0
        generalize hs : pkB l = s at *
        rcases hst with e | e | e
        · have hK := (tl_iff s ([] : List UInt8)).2 e
          clear e hs
          go_wp2_with (go_at_call 77; refine hnx.mono ?_; rintro e w1 ⟨rfl, rfl⟩)
          go_ret
          exact ⟨b, rfl, HQ.out, HIN.out.1, hg⟩
        · have hK := (tl_iff s [41]).2 e
          clear e hs
          go_wp2_with (go_at_call 77; refine hnx.mono ?_; rintro e w1 ⟨rfl, rfl⟩)
          go_ret
          exact ⟨b, rfl, HQ.out, HIN.out.1, hg⟩
        · have hK := (tl_iff s [79, 82]).2 e
          clear e hs
          go_wp2_with (go_at_call 77; refine hnx.mono ?_; rintro e w1 ⟨rfl, rfl⟩)
          go_ret
          exact ⟨b, rfl, HQ.out, HIN.out.1, hg⟩
      · obtain ⟨s, t, rfl, hpk⟩ := pk_cons (l := l) (fun e => hst (.inl e))
        obtain ⟨n, rfl⟩ : ∃ m, n = m + 1 := ⟨n - 1, by simp at hn; omega⟩
        rw [allL_step _ _ _ _ hst] at hres
        rw [hpk] at hst hnx hres
        have s0 : s.toList.isEmpty = false := by rw [tl_none]; simpa using fun e => hst (.inl e)
        have s1 := tl_ne (s := s) (k := [41]) (fun e => hst (.inr (.inl e)))
        have s2 := tl_ne (s := s) (k := [79, 82]) (fun e => hst (.inr (.inr e)))
        by_cases hnot : s = sNot
        · subst hnot
          rw [if_pos (rfl : sNot = sNot)] at hres
          have htk := take_yes N ⟨#[78, 79, 84]⟩ t HIN.out.2.1 _ HIN.out.1
          change Calls _ _ _ _ fun e w' => e = .returned (.string ⟨#[78, 79, 84]⟩) ∧ w' = _ at hnx
          clear s0 s1 s2
          have e1 : oneR (if sNot = sNot ∨ sNot = sAnd then (sNot :: t).tail else sNot :: t) = oneR (t) := by rw [if_pos (.inl rfl)]; rfl
          rw [e1] at hres
          cases hO : oneR (t) with
          | bad m =>
            rw [hO] at hres
            have HO2 := Lib.hid hO
            subst hres
            clear hO e1 hst
            go_wp2_with (first | (go_at_call 77; refine hnx.mono ?_; rintro e w1 ⟨rfl, rfl⟩) | (go_at_call_of 98 (Value.string ⟨#[78, 79, 84]⟩); refine htk.mono ?_; rintro e w2 ⟨rfl, PC, hg2⟩; have GN := hg.trans hg2; have HI2 := HIN.out.less PC ⟨t, List.suffix_cons _ t, List.suffix_refl t⟩ hg2; have QC := QAt.grN hg2 q b HQ.out; clear hg2))
            refine (HONE.out _ _ HI2).mono ?_
            rw [HO2.out]
            rintro e w3 ⟨rfl, hg3⟩
            have hgF := GN.trans hg3
            unfold Thrown
            go_wp2_with fail
            exact ⟨rfl, rfl, hgF⟩
          | ok q2 r =>
            rw [hO] at hres
            have HO2 := Lib.hid hO
            have hlr := HLESS.out _ q2 r hO
            have HRS := Lib.hid hres
            clear hO e1 hst hres
            go_wp2_with (first | (go_at_call 77; refine hnx.mono ?_; rintro e w1 ⟨rfl, rfl⟩) | (go_at_call_of 98 (Value.string ⟨#[78, 79, 84]⟩); refine htk.mono ?_; rintro e w2 ⟨rfl, PC, hg2⟩; have GN := hg.trans hg2; have HI2 := HIN.out.less PC ⟨t, List.suffix_cons _ t, List.suffix_refl t⟩ hg2; have QC := QAt.grN hg2 q b HQ.out; clear hg2))
            refine (HONE.out _ _ HI2).mono ?_
            rw [HO2.out]
            rintro e w3 ⟨b2, rfl, hq2, hp2, hg3⟩
            have hgF := GN.trans hg3
            have hQ1 := QAt.grN hg3 q b QC
            have hi3 := HI2.less hp2 ⟨r, hlr.1, List.suffix_refl r⟩ hg3
            have hN3 : N < w3.heap.size := Nat.lt_of_lt_of_le hlN hgF.2.2.2.1
            have hND := node_new 6 hQ1 hq2 hN3 140
            have hga : Gr w3 (w3.alloc (.cells #[.int .i64 6, .slice none 0 0, .int .i64 0, .pointer (some ⟨b, 0, none⟩), .pointer (some ⟨b2, 0, none⟩)] 140)) := (Gr.refl w3).alloc _
            have hi4 := hi3.less (hi3.1.gr hga) ⟨r, List.suffix_refl r, List.suffix_refl r⟩ (GrX.of_gr hga)
            have hm4 := leftN_at hi4.1
            have hl2 := hlr.2
            have HND := Lib.hid hND
            clear hND hlr hq2 hp2 hi3 HI2
            go_wp2_with fail
            refine ⟨⟨_, w3.heap.size, r, n, rfl, HND.out, hi4, hgF.trans (GrX.of_gr hga), by simp at hn hl2; omega, HRS.out⟩, ?_⟩
            rw [hm4, hm0]
            simp at hl2 ⊢
            omega
        · rw [if_neg hnot] at hres
          by_cases hand : s = sAnd
          · subst hand
            have htk := take_no N _ ⟨#[78, 79, 84]⟩ HIN.out.2.1 _ HIN.out.1 (by show sAnd ≠ _; decide)
            have htk2 := take_yes N ⟨#[65, 78, 68]⟩ t HIN.out.2.1 _ HIN.out.1
            change Calls _ _ _ _ fun e w' => e = .returned (.string ⟨#[65, 78, 68]⟩) ∧ w' = _ at hnx
            clear s0 s1 s2
            have e1 : oneR (if sAnd = sNot ∨ sAnd = sAnd then (sAnd :: t).tail else sAnd :: t) = oneR (t) := by rw [if_pos (.inr rfl)]; rfl
            rw [e1] at hres
            cases hO : oneR (t) with
            | bad m =>
              rw [hO] at hres
              have HO2 := Lib.hid hO
              subst hres
              clear hO e1 hst
              go_wp2_with (first | (go_at_call 77; refine hnx.mono ?_; rintro e w1 ⟨rfl, rfl⟩) | (go_at_call_of 98 (Value.string ⟨#[78, 79, 84]⟩); refine htk.mono ?_; rintro e w2 ⟨rfl, rfl⟩) | (go_at_call_of 98 (Value.string ⟨#[65, 78, 68]⟩); refine htk2.mono ?_; rintro e w2 ⟨rfl, PC, hg2⟩; have GN := hg.trans hg2; have HI2 := HIN.out.less PC ⟨t, List.suffix_cons _ t, List.suffix_refl t⟩ hg2; have QC := QAt.grN hg2 q b HQ.out; clear hg2))
              refine (HONE.out _ _ HI2).mono ?_
              rw [HO2.out]
              rintro e w3 ⟨rfl, hg3⟩
              have hgF := GN.trans hg3
              unfold Thrown
              go_wp2_with fail
              exact ⟨rfl, rfl, hgF⟩
            | ok q2 r =>
              rw [hO] at hres
              have HO2 := Lib.hid hO
              have hlr := HLESS.out _ q2 r hO
              have HRS := Lib.hid hres
              clear hO e1 hst hres
              go_wp2_with (first | (go_at_call 77; refine hnx.mono ?_; rintro e w1 ⟨rfl, rfl⟩) | (go_at_call_of 98 (Value.string ⟨#[78, 79, 84]⟩); refine htk.mono ?_; rintro e w2 ⟨rfl, rfl⟩) | (go_at_call_of 98 (Value.string ⟨#[65, 78, 68]⟩); refine htk2.mono ?_; rintro e w2 ⟨rfl, PC, hg2⟩; have GN := hg.trans hg2; have HI2 := HIN.out.less PC ⟨t, List.suffix_cons _ t, List.suffix_refl t⟩ hg2; have QC := QAt.grN hg2 q b HQ.out; clear hg2))
              refine (HONE.out _ _ HI2).mono ?_
              rw [HO2.out]
              rintro e w3 ⟨b2, rfl, hq2, hp2, hg3⟩
              have hgF := GN.trans hg3
              have hQ1 := QAt.grN hg3 q b QC
              have hi3 := HI2.less hp2 ⟨r, hlr.1, List.suffix_refl r⟩ hg3
              have hN3 : N < w3.heap.size := Nat.lt_of_lt_of_le hlN hgF.2.2.2.1
              have hND := node_new 4 hQ1 hq2 hN3 140
              have hga : Gr w3 (w3.alloc (.cells #[.int .i64 4, .slice none 0 0, .int .i64 0, .pointer (some ⟨b, 0, none⟩), .pointer (some ⟨b2, 0, none⟩)] 140)) := (Gr.refl w3).alloc _
              have hi4 := hi3.less (hi3.1.gr hga) ⟨r, List.suffix_refl r, List.suffix_refl r⟩ (GrX.of_gr hga)
              have hm4 := leftN_at hi4.1
              have hl2 := hlr.2
              have HND := Lib.hid hND
              clear hND hlr hq2 hp2 hi3 HI2
              go_wp2_with fail
              refine ⟨⟨_, w3.heap.size, r, n, rfl, HND.out, hi4, hgF.trans (GrX.of_gr hga), by simp at hn hl2; omega, HRS.out⟩, ?_⟩
              rw [hm4, hm0]
              simp at hl2 ⊢
              omega
          · have hnn : ¬ (s = sNot ∨ s = sAnd) := fun h => h.elim hnot hand
            have htk := take_no N _ ⟨#[78, 79, 84]⟩ HIN.out.2.1 _ HIN.out.1 (fun e => hnot e)
            have htk2 := take_no N _ ⟨#[65, 78, 68]⟩ HIN.out.2.1 _ HIN.out.1 (fun e => hand e)
            have e1 : oneR (if s = sNot ∨ s = sAnd then (s :: t).tail else s :: t) = oneR (s :: t) := by rw [if_neg hnn]
            rw [e1] at hres
            cases hO : oneR (s :: t) with
            | bad m =>
              rw [hO] at hres
              have HO2 := Lib.hid hO
              subst hres
              clear hO e1 hst
              go_wp2_with (first | (go_at_call 77; refine hnx.mono ?_; rintro e w1 ⟨rfl, rfl⟩) | (go_at_call_of 98 (Value.string ⟨#[78, 79, 84]⟩); refine htk.mono ?_; rintro e w2 ⟨rfl, rfl⟩) | (go_at_call_of 98 (Value.string ⟨#[65, 78, 68]⟩); refine htk2.mono ?_; rintro e w2 ⟨rfl, rfl⟩; have GN := hg; have HI2 := HIN.out; have QC := HQ.out))
              refine (HONE.out _ _ HI2).mono ?_
              rw [HO2.out]
              rintro e w3 ⟨rfl, hg3⟩
              have hgF := GN.trans hg3
              unfold Thrown
              go_wp2_with fail
              exact ⟨rfl, rfl, hgF⟩
            | ok q2 r =>
              rw [hO] at hres
              have HO2 := Lib.hid hO
              have hlr := HLESS.out _ q2 r hO
              have HRS := Lib.hid hres
              clear hO e1 hst hres
              go_wp2_with (first | (go_at_call 77; refine hnx.mono ?_; rintro e w1 ⟨rfl, rfl⟩) | (go_at_call_of 98 (Value.string ⟨#[78, 79, 84]⟩); refine htk.mono ?_; rintro e w2 ⟨rfl, rfl⟩) | (go_at_call_of 98 (Value.string ⟨#[65, 78, 68]⟩); refine htk2.mono ?_; rintro e w2 ⟨rfl, rfl⟩; have GN := hg; have HI2 := HIN.out; have QC := HQ.out))
              refine (HONE.out _ _ HI2).mono ?_
              rw [HO2.out]
              rintro e w3 ⟨b2, rfl, hq2, hp2, hg3⟩
              have hgF := GN.trans hg3
              have hQ1 := QAt.grN hg3 q b QC
              have hi3 := HI2.less hp2 ⟨r, hlr.1, List.suffix_refl r⟩ hg3
              have hN3 : N < w3.heap.size := Nat.lt_of_lt_of_le hlN hgF.2.2.2.1
              have hND := node_new 4 hQ1 hq2 hN3 140
              have hga : Gr w3 (w3.alloc (.cells #[.int .i64 4, .slice none 0 0, .int .i64 0, .pointer (some ⟨b, 0, none⟩), .pointer (some ⟨b2, 0, none⟩)] 140)) := (Gr.refl w3).alloc _
              have hi4 := hi3.less (hi3.1.gr hga) ⟨r, List.suffix_refl r, List.suffix_refl r⟩ (GrX.of_gr hga)
              have hm4 := leftN_at hi4.1
              have hl2 := hlr.2
              have HND := Lib.hid hND
              clear hND hlr hq2 hp2 hi3 HI2
              go_wp2_with fail
              refine ⟨⟨_, w3.heap.size, r, n, rfl, HND.out, hi4, hgF.trans (GrX.of_gr hga), by simp at hn hl2; omega, HRS.out⟩, ?_⟩
              rw [hm4, hm0]
              simp at hl2 ⊢
              omega
end Go.Proofs.YthenhglpljdhfaaDoor
