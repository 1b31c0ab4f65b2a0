/-
  concordanceref.asker: one, all and any, whatever the depth.
-/
import Derived.Test.YthenhglpljdhfaaDoorMtG
import Derived.Test.YthenhglpljdhfaaDoorMtH
import Derived.Test.YthenhglpljdhfaaDoorMtM
namespace Go.Proofs.YthenhglpljdhfaaDoor
open Go Go.RowKit

theorem rone_t (N d : Nat) (hd : d ≤ 12) (anyR : List ByteArray → Rd) (hless : ∀ l q r, anyR l = .ok q r → Less r l) (hany : ∀ (l' : List ByteArray) (w' : World), InA N w' l' → Calls Tryd.prog 72 #[.pointer (some ⟨N, 0, none⟩), .int .i64 ((d : Int) + 1)] w' (RPost N w' (anyR l')))
    (l : List ByteArray) (w : World) (h : InA N w l) : Calls Tryd.prog 112 #[.pointer (some ⟨N, 0, none⟩), .int .i64 d] w (RPost N w (oneF anyR l)) := by
  unfold oneF
  dsimp only
  split
  · rename_i hs
    exact rone_stop N d hd l w h hs
  · rename_i hs
    obtain ⟨s, t, rfl, hp⟩ := pk_cons (l := l) (fun e => hs (.inl e))
    rw [hp] at hs
    simp only [hp, List.tail_cons]
    have hf := free_of hs
    split
    · rename_i ho
      subst ho
      exact rone_open N d hd anyR hless hany t w h
    · rename_i ho
      obtain ⟨c0, r, hr, _⟩ := (h.2.2 s (by simp)).1
      have hh : headB s = c0 := by unfold headB; rw [hr]; rfl
      rw [hh, hr]
      split
      · rename_i h34
        subst h34
        exact rone_quote N d hd s t w h hf ho r hr
      · rename_i h34
        split
        · rename_i hst
          obtain ⟨a, t', rfl, ha⟩ := pk_cons (l := t) (by rw [hst]; decide)
          obtain rfl : a = ⟨#[42]⟩ := ha.symm.trans hst
          exact rone_star N d hd s t' w h hf ho c0 r hr h34
        · rename_i hst
          split
          · rename_i a hsp
            show Calls _ _ _ _ (RPost N w (if pkB t = sNear then (if pkB t.tail = sNone ∨ markB (headB (pkB t.tail)) = true then Rd.bad 3 else (match splitS (pkB t.tail) with | [b] => Rd.ok (Qy.leaf 3 [a, b] 3) t.tail.tail | _ => Rd.bad 3)) else Rd.ok (Qy.leaf 1 [a] 0) t))
            by_cases hnear : pkB t = sNear
            · rw [if_pos hnear]
              obtain ⟨x, t', rfl, hx⟩ := pk_cons (l := t) (by rw [hnear]; decide)
              obtain rfl : x = ⟨#[78, 69, 65, 82]⟩ := hx.symm.trans hnear
              show Calls _ _ _ _ (RPost N w (if pkB t' = sNone ∨ markB (headB (pkB t')) = true then Rd.bad 3 else (match splitS (pkB t') with | [b] => Rd.ok (Qy.leaf 3 [a, b] 3) t'.tail | _ => Rd.bad 3)))
              by_cases hb : pkB t' = sNone ∨ markB (headB (pkB t')) = true
              · rw [if_pos hb]
                by_cases hb0 : pkB t' = sNone
                · exact rone_word3 N d hd s t' w h hf ho c0 r hr h34 hst a hsp hb0
                · obtain ⟨b, t'', rfl, hbb⟩ := pk_cons (l := t') hb0
                  have hmk : markB (headB b) = true := by
                    rcases hb with e | e
                    · exact absurd e hb0
                    · rwa [hbb] at e
                  exact rone_word4 N d hd s b t'' w h hf ho c0 r hr h34 hst a hsp hmk
              · rw [if_neg hb]
                obtain ⟨b, t'', rfl, hbb⟩ := pk_cons (l := t') (fun e => hb (.inl e))
                rw [hbb] at hb ⊢
                have hmk : markB (headB b) = false := by
                  rw [Bool.eq_false_iff]
                  exact fun e => hb (.inr e)
                split
                · rename_i a2 hsb
                  exact rone_word6 N d hd s b t'' w h hf ho c0 r hr h34 hst a hsp hmk a2 hsb
                · rename_i hsb
                  exact rone_word5 N d hd s b t'' w h hf ho c0 r hr h34 hst a hsp hmk (fun a e => hsb a e)
            · rw [if_neg hnear]
              exact rone_word2 N d hd s t w h hf ho c0 r hr h34 hst a hsp hnear
          · rename_i hsp
            exact rone_word1 N d hd s t w h hf ho c0 r hr h34 hst (fun a e => hsp a e)
theorem InA.less {N : Nat} {w w' : World} {l r : List ByteArray} (h : InA N w l) (hp : AAt N w' r 0) (hr : r <:+ l) : InA N w' r :=
  ⟨hp, Nat.le_trans hr.length_le h.2.1, fun p hp => h.2.2 p (hr.subset hp)⟩
/-- What is left to do, in a round. -/
def leftA (N : Nat) (sv : Value) (w : World) : Nat := if sizeOfS sv = 0 then 0 else leftN N w + 1
theorem pk_size {l : List ByteArray} (hp : ∀ p ∈ l, PieceOk p ∧ p.size ≤ 1000) (h : pkB l ≠ sNone) : (pkB l).size ≠ 0 := by
  obtain ⟨a, t, rfl, e⟩ := pk_cons h
  obtain ⟨c, r, hc, _⟩ := (hp a (by simp)).1
  rw [e, size_data, hc]
  simp
set_option maxRecDepth 100000 in
set_option maxHeartbeats 1600000 in
theorem rall_t (N d : Nat) (oneR : List ByteArray → Rd) (hless : ∀ l q r, oneR l = .ok q r → Less r l) (hone : ∀ (l' : List ByteArray) (w' : World), InA N w' l' → Calls Tryd.prog 112 #[.pointer (some ⟨N, 0, none⟩), .int .i64 d] w' (RPost N w' (oneR l')))
    (l : List ByteArray) (w : World) (h : InA N w l) : Calls Tryd.prog 94 #[.pointer (some ⟨N, 0, none⟩), .int .i64 d] w (RPost N w (allF oneR l)) := by
  have HI := Lib.hid h
  have HONE := Lib.hid hone
  have HLESS := Lib.hid hless
  have hlN := lt_of_cell h.1.2.1
  clear h hone hless
  generalize hR : allF oneR l = R
  unfold allF at hR
  have HR := Lib.hid hR
  clear hR
  go_enter Tryd.func94, Tryd.ntmps94
  go_wp2_with fail
  refine (HONE.out l w HI.out).mono ?_
  intro e w1 hpost
  have hstart : ∃ b sv, e = .returned (.pointer (some ⟨b, 0, none⟩)) ∧ Calls Tryd.prog 113 #[.pointer (some ⟨N, 0, none⟩)] w1 (fun e w' => e = .returned (.string sv) ∧ w' = w1) ∧
      ((∃ q l n, sv = pkB l ∧ RAt N w1 q b ∧ InA N w1 l ∧ GrN N w w1 ∧ l.length ≤ n ∧ allL oneR n q l = R) ∨ (∃ l' m, sv = ⟨#[]⟩ ∧ AAt N w1 l' m ∧ m ≠ 0 ∧ GrN N w w1 ∧ R = .bad m)) := by
    have hR := HR.out
    cases ho : oneR l with
    | bad m =>
      rw [ho] at hR hpost
      obtain ⟨b, l', rfl, hA, hm, hg⟩ := hpost
      exact ⟨b, ⟨#[]⟩, rfl, peek_bad N l' m w1 hA hm, .inr ⟨l', m, rfl, hA, hm, hg, hR.symm⟩⟩
    | ok q r =>
      rw [ho] at hR hpost
      obtain ⟨b, rfl, hq, hA, hg⟩ := hpost
      have hin := HI.out.less hA (HLESS.out l q r ho).1
      exact ⟨b, pkB r, rfl, peek_t N r hin.2.1 w1 hA, .inl ⟨q, r, r.length, rfl, hq, hin, hg, Nat.le_refl _, hR⟩⟩
  obtain ⟨b, sv, rfl, hpk, hrel0⟩ := hstart
  have HREL := Lib.hid hrel0
  clear hpost hrel0
  go_wp2_with (go_at_call 113; refine hpk.mono ?_; rintro e w2 ⟨rfl, rfl⟩)
  go_loopw [5, 6] (fun qv sv w' => (∃ (q : Qy) (b : Nat) (l : List ByteArray) (n : Nat), qv = .pointer (some ⟨b, 0, none⟩) ∧ sv = .string (pkB l) ∧ RAt N w' q b ∧ InA N w' l ∧ GrN N w w' ∧ l.length ≤ n ∧ allL oneR n q l = R) ∨ (∃ (b : Nat) (l' : List ByteArray) (m : Int), qv = .pointer (some ⟨b, 0, none⟩) ∧ sv = .string ⟨#[]⟩ ∧ AAt N w' l' m ∧ m ≠ 0 ∧ GrN N w w' ∧ R = .bad m)) (fun _ sv w' => leftA N sv w')
  case atStart =>
    rcases HREL.out with ⟨q, l, n, rfl, h1, h2, h3, h4, h5⟩ | ⟨l', m, rfl, h1, h2, h3, h4⟩
    · exact .inl ⟨q, b, l, n, rfl, rfl, h1, h2, h3, h4, h5⟩
    · exact .inr ⟨b, l', m, rfl, rfl, h1, h2, h3, h4⟩
  case round =>
    rcases hrel with ⟨q, b, l, n, rfl, rfl, hq, hin, hg, hn, hres⟩ | ⟨b, l', m, rfl, rfl, hA, hm, hg, rfl⟩
    · have HQ := Lib.hid hq
      have HIN := Lib.hid hin
      have hm0 := leftN_at hin.1.1
      clear hq hin hpk HREL
      by_cases hst : stopB (pkB l)
      · rw [allL_stop _ _ _ _ hst] at hres
        subst hres
        clear hm0
        generalize hs : pkB l = s at *
        rcases hst with e | e | e
        · have hK := (tl_iff s ([] : List UInt8)).2 e
          clear e hs
          go_wp2_with fail
          go_ret
          exact ⟨b, rfl, HQ.out, HIN.out.1, hg⟩
        · have hK := (tl_iff s [41]).2 e
          clear e hs
          go_wp2_with fail
          go_ret
          exact ⟨b, rfl, HQ.out, HIN.out.1, hg⟩
        · have hK := (tl_iff s [79, 82]).2 e
          clear e hs
          go_wp2_with fail
          go_ret
          exact ⟨b, rfl, HQ.out, HIN.out.1, hg⟩
      · have hpz := pk_size HIN.out.2.2 (fun e => hst (.inl e))
        obtain ⟨s, t, rfl, hpk⟩ := pk_cons (l := l) (fun e => hst (.inl e))
        obtain ⟨n, rfl⟩ : ∃ m, n = m + 1 := ⟨n - 1, by simp at hn; omega⟩
        rw [allL_step _ _ _ _ hst] at hres
        rw [hpk] at hst hres hpz
        have s0 : s.toList.isEmpty = false := by rw [tl_none]; simpa using fun e => hst (.inl e)
        have s1 := tl_ne (s := s) (k := [41]) (fun e => hst (.inr (.inl e)))
        have s2 := tl_ne (s := s) (k := [79, 82]) (fun e => hst (.inr (.inr e)))
        rw [hpk]
        have hmu : leftA N (.string s) wr = (s :: t).length + 1 := by unfold leftA; rw [show sizeOfS (.string s) = s.size from rfl, if_neg hpz, hm0]
        by_cases hnot : s = sNot
        · subst hnot
          rw [if_pos (rfl : sNot = sNot)] at hres
          have htk := atake_yes N ⟨#[78, 79, 84]⟩ t HIN.out.2.1 _ HIN.out.1
          have hK := (tl_iff sNot [78, 79, 84]).2 rfl
          have e1 : oneR (if sNot = sNot ∨ sNot = sAnd then (sNot :: t).tail else sNot :: t) = oneR (t) := by rw [if_pos (.inl rfl)]; rfl
          rw [e1] at hres
          cases hO : oneR (t) with
          | bad m =>
            rw [hO] at hres
            have HO2 := Lib.hid hO
            subst hres
            clear hO e1 hst
            go_wp2_with (first | (go_at_call_of 95 (Value.string ⟨#[78, 79, 84]⟩); refine htk.mono ?_; rintro e w2 ⟨rfl, PC, hg2⟩; have GN := hg.trans hg2; have HI2 := HIN.out.less PC (List.suffix_cons _ t); have QC := RAt.grN hg2 q b HQ.out; clear hg2))
            refine (HONE.out _ _ HI2).mono ?_
            rw [HO2.out]
            rintro e w3 ⟨b2, l2, rfl, hA3, hm3, hg3⟩
            have hga : Gr w3 (w3.alloc (.cells #[.int .i64 6, .slice none 0 0, .pointer (some ⟨b, 0, none⟩), .pointer (some ⟨b2, 0, none⟩)] 138)) := (Gr.refl w3).alloc _
            have hgF := (GN.trans hg3).trans (GrX.of_gr hga)
            have hA4 := hA3.gr hga
            have HA4 := Lib.hid hA4
            clear hA3 hA4 hga
            go_wp2_with (go_at_call 113; refine (peek_bad N l2 m _ HA4.out hm3).mono ?_; rintro e w5 ⟨rfl, rfl⟩)
            refine ⟨.inr ⟨w3.heap.size, l2, m, rfl, rfl, HA4.out, hm3, hgF, rfl⟩, ?_⟩
            rw [hmu, show ∀ W, leftA N (.string ⟨#[]⟩) W = 0 from fun W => if_pos rfl]
            exact Nat.succ_pos _
          | ok q2 r =>
            rw [hO] at hres
            have HO2 := Lib.hid hO
            have hlr := HLESS.out _ q2 r hO
            have HRS := Lib.hid hres
            clear hO e1 hst hres
            go_wp2_with (first | (go_at_call_of 95 (Value.string ⟨#[78, 79, 84]⟩); refine htk.mono ?_; rintro e w2 ⟨rfl, PC, hg2⟩; have GN := hg.trans hg2; have HI2 := HIN.out.less PC (List.suffix_cons _ t); have QC := RAt.grN hg2 q b HQ.out; clear hg2))
            refine (HONE.out _ _ HI2).mono ?_
            rw [HO2.out]
            rintro e w3 ⟨b2, rfl, hq2, hp2, hg3⟩
            have hgF := GN.trans hg3
            have hQ1 := RAt.grN hg3 q b QC
            have hi3 := HI2.less hp2 hlr.1
            have hN3 : N < w3.heap.size := Nat.lt_of_lt_of_le hlN hgF.2.2.2.1
            have hND := rnode_new 6 hQ1 hq2 hN3 138
            have hga : Gr w3 (w3.alloc (.cells #[.int .i64 6, .slice none 0 0, .pointer (some ⟨b, 0, none⟩), .pointer (some ⟨b2, 0, none⟩)] 138)) := (Gr.refl w3).alloc _
            have hi4 := hi3.less (hi3.1.gr hga) (List.suffix_refl r)
            have hm4 := leftN_at hi4.1.1
            have hl2 := hlr.2
            have HND := Lib.hid hND
            have HI4 := Lib.hid hi4
            clear hND hlr hq2 hp2 hi3 HI2 hi4
            go_wp2_with (go_at_call 113; refine (peek_t N r HI4.out.2.1 _ HI4.out.1).mono ?_; rintro e w5 ⟨rfl, rfl⟩)
            refine ⟨.inl ⟨_, w3.heap.size, r, n, rfl, rfl, HND.out, HI4.out, hgF.trans (GrX.of_gr hga), by simp at hn hl2; omega, HRS.out⟩, ?_⟩
            have hl3 : r.length ≤ t.length := by first | omega | (simp only [List.length_cons] at hl2; omega)
            rw [hmu]
            unfold leftA
            rw [hm4, List.length_cons]
            split <;> omega
        · rw [if_neg hnot] at hres
          by_cases hand : s = sAnd
          · subst hand
            have htk := atake_no N _ ⟨#[78, 79, 84]⟩ HIN.out.2.1 _ HIN.out.1 (by show sAnd ≠ _; decide)
            have htk2 := atake_yes N ⟨#[65, 78, 68]⟩ t HIN.out.2.1 _ HIN.out.1
            have e1 : oneR (if sAnd = sNot ∨ sAnd = sAnd then (sAnd :: t).tail else sAnd :: t) = oneR (t) := by rw [if_pos (.inr rfl)]; rfl
            rw [e1] at hres
            cases hO : oneR (t) with
            | bad m =>
              rw [hO] at hres
              have HO2 := Lib.hid hO
              subst hres
              clear hO e1 hst
              go_wp2_with (first | (go_at_call_of 95 (Value.string ⟨#[78, 79, 84]⟩); refine htk.mono ?_; rintro e w2 ⟨rfl, rfl⟩) | (go_at_call_of 95 (Value.string ⟨#[65, 78, 68]⟩); refine htk2.mono ?_; rintro e w2 ⟨rfl, PC, hg2⟩; have GN := hg.trans hg2; have HI2 := HIN.out.less PC (List.suffix_cons _ t); have QC := RAt.grN hg2 q b HQ.out; clear hg2))
              refine (HONE.out _ _ HI2).mono ?_
              rw [HO2.out]
              rintro e w3 ⟨b2, l2, rfl, hA3, hm3, hg3⟩
              have hga : Gr w3 (w3.alloc (.cells #[.int .i64 4, .slice none 0 0, .pointer (some ⟨b, 0, none⟩), .pointer (some ⟨b2, 0, none⟩)] 138)) := (Gr.refl w3).alloc _
              have hgF := (GN.trans hg3).trans (GrX.of_gr hga)
              have hA4 := hA3.gr hga
              have HA4 := Lib.hid hA4
              clear hA3 hA4 hga
              go_wp2_with (go_at_call 113; refine (peek_bad N l2 m _ HA4.out hm3).mono ?_; rintro e w5 ⟨rfl, rfl⟩)
              refine ⟨.inr ⟨w3.heap.size, l2, m, rfl, rfl, HA4.out, hm3, hgF, rfl⟩, ?_⟩
              rw [hmu, show ∀ W, leftA N (.string ⟨#[]⟩) W = 0 from fun W => if_pos rfl]
              exact Nat.succ_pos _
            | ok q2 r =>
              rw [hO] at hres
              have HO2 := Lib.hid hO
              have hlr := HLESS.out _ q2 r hO
              have HRS := Lib.hid hres
              clear hO e1 hst hres
              go_wp2_with (first | (go_at_call_of 95 (Value.string ⟨#[78, 79, 84]⟩); refine htk.mono ?_; rintro e w2 ⟨rfl, rfl⟩) | (go_at_call_of 95 (Value.string ⟨#[65, 78, 68]⟩); refine htk2.mono ?_; rintro e w2 ⟨rfl, PC, hg2⟩; have GN := hg.trans hg2; have HI2 := HIN.out.less PC (List.suffix_cons _ t); have QC := RAt.grN hg2 q b HQ.out; clear hg2))
              refine (HONE.out _ _ HI2).mono ?_
              rw [HO2.out]
              rintro e w3 ⟨b2, rfl, hq2, hp2, hg3⟩
              have hgF := GN.trans hg3
              have hQ1 := RAt.grN hg3 q b QC
              have hi3 := HI2.less hp2 hlr.1
              have hN3 : N < w3.heap.size := Nat.lt_of_lt_of_le hlN hgF.2.2.2.1
              have hND := rnode_new 4 hQ1 hq2 hN3 138
              have hga : Gr w3 (w3.alloc (.cells #[.int .i64 4, .slice none 0 0, .pointer (some ⟨b, 0, none⟩), .pointer (some ⟨b2, 0, none⟩)] 138)) := (Gr.refl w3).alloc _
              have hi4 := hi3.less (hi3.1.gr hga) (List.suffix_refl r)
              have hm4 := leftN_at hi4.1.1
              have hl2 := hlr.2
              have HND := Lib.hid hND
              have HI4 := Lib.hid hi4
              clear hND hlr hq2 hp2 hi3 HI2 hi4
              go_wp2_with (go_at_call 113; refine (peek_t N r HI4.out.2.1 _ HI4.out.1).mono ?_; rintro e w5 ⟨rfl, rfl⟩)
              refine ⟨.inl ⟨_, w3.heap.size, r, n, rfl, rfl, HND.out, HI4.out, hgF.trans (GrX.of_gr hga), by simp at hn hl2; omega, HRS.out⟩, ?_⟩
              have hl3 : r.length ≤ t.length := by first | omega | (simp only [List.length_cons] at hl2; omega)
              rw [hmu]
              unfold leftA
              rw [hm4, List.length_cons]
              split <;> omega
          · have hnn : ¬ (s = sNot ∨ s = sAnd) := fun h => h.elim hnot hand
            have htk := atake_no N _ ⟨#[78, 79, 84]⟩ HIN.out.2.1 _ HIN.out.1 (fun e => hnot e)
            have htk2 := atake_no N _ ⟨#[65, 78, 68]⟩ HIN.out.2.1 _ HIN.out.1 (fun e => hand e)
            have e1 : oneR (if s = sNot ∨ s = sAnd then (s :: t).tail else s :: t) = oneR (s :: t) := by rw [if_neg hnn]
            rw [e1] at hres
            cases hO : oneR (s :: t) with
            | bad m =>
              rw [hO] at hres
              have HO2 := Lib.hid hO
              subst hres
              clear hO e1 hst
              go_wp2_with (first | (go_at_call_of 95 (Value.string ⟨#[78, 79, 84]⟩); refine htk.mono ?_; rintro e w2 ⟨rfl, rfl⟩) | (go_at_call_of 95 (Value.string ⟨#[65, 78, 68]⟩); refine htk2.mono ?_; rintro e w2 ⟨rfl, rfl⟩; have GN := hg; have HI2 := HIN.out; have QC := HQ.out))
              refine (HONE.out _ _ HI2).mono ?_
              rw [HO2.out]
              rintro e w3 ⟨b2, l2, rfl, hA3, hm3, hg3⟩
              have hga : Gr w3 (w3.alloc (.cells #[.int .i64 4, .slice none 0 0, .pointer (some ⟨b, 0, none⟩), .pointer (some ⟨b2, 0, none⟩)] 138)) := (Gr.refl w3).alloc _
              have hgF := (GN.trans hg3).trans (GrX.of_gr hga)
              have hA4 := hA3.gr hga
              have HA4 := Lib.hid hA4
              clear hA3 hA4 hga
              go_wp2_with (go_at_call 113; refine (peek_bad N l2 m _ HA4.out hm3).mono ?_; rintro e w5 ⟨rfl, rfl⟩)
              refine ⟨.inr ⟨w3.heap.size, l2, m, rfl, rfl, HA4.out, hm3, hgF, rfl⟩, ?_⟩
              rw [hmu, show ∀ W, leftA N (.string ⟨#[]⟩) W = 0 from fun W => if_pos rfl]
              exact Nat.succ_pos _
            | ok q2 r =>
              rw [hO] at hres
              have HO2 := Lib.hid hO
              have hlr := HLESS.out _ q2 r hO
              have HRS := Lib.hid hres
              clear hO e1 hst hres
              go_wp2_with (first | (go_at_call_of 95 (Value.string ⟨#[78, 79, 84]⟩); refine htk.mono ?_; rintro e w2 ⟨rfl, rfl⟩) | (go_at_call_of 95 (Value.string ⟨#[65, 78, 68]⟩); refine htk2.mono ?_; rintro e w2 ⟨rfl, rfl⟩; have GN := hg; have HI2 := HIN.out; have QC := HQ.out))
              refine (HONE.out _ _ HI2).mono ?_
              rw [HO2.out]
              rintro e w3 ⟨b2, rfl, hq2, hp2, hg3⟩
              have hgF := GN.trans hg3
              have hQ1 := RAt.grN hg3 q b QC
              have hi3 := HI2.less hp2 hlr.1
              have hN3 : N < w3.heap.size := Nat.lt_of_lt_of_le hlN hgF.2.2.2.1
              have hND := rnode_new 4 hQ1 hq2 hN3 138
              have hga : Gr w3 (w3.alloc (.cells #[.int .i64 4, .slice none 0 0, .pointer (some ⟨b, 0, none⟩), .pointer (some ⟨b2, 0, none⟩)] 138)) := (Gr.refl w3).alloc _
              have hi4 := hi3.less (hi3.1.gr hga) (List.suffix_refl r)
              have hm4 := leftN_at hi4.1.1
              have hl2 := hlr.2
              have HND := Lib.hid hND
              have HI4 := Lib.hid hi4
              clear hND hlr hq2 hp2 hi3 HI2 hi4
              go_wp2_with (go_at_call 113; refine (peek_t N r HI4.out.2.1 _ HI4.out.1).mono ?_; rintro e w5 ⟨rfl, rfl⟩)
              refine ⟨.inl ⟨_, w3.heap.size, r, n, rfl, rfl, HND.out, HI4.out, hgF.trans (GrX.of_gr hga), by simp at hn hl2; omega, HRS.out⟩, ?_⟩
              have hl3 : r.length ≤ t.length := by first | omega | (simp only [List.length_cons] at hl2; omega)
              rw [hmu]
              unfold leftA
              rw [hm4, List.length_cons]
              split <;> omega
    · clear hpk HREL
      go_wp2_with fail
      go_ret
      exact ⟨b, l', rfl, hA, hm, hg⟩
end Go.Proofs.YthenhglpljdhfaaDoor
