/-
  concordanceref.asker.one, but at a beginning.
-/
import Derived.Test.YthenhglpljdhfaaDoorMtE
import Derived.Test.YthenhglpljdhfaaDoorMtO2
namespace Go.Proofs.YthenhglpljdhfaaDoor
open Go Go.RowKit

def RPost (N : Nat) (w : World) (R : Rd) (e : Ending) (w' : World) : Prop :=
  match R with
  | .ok q r => ∃ b, e = .returned (.pointer (some ⟨b, 0, none⟩)) ∧ RAt N w' q b ∧ AAt N w' r 0 ∧ GrN N w w'
  | .bad n => ∃ b l', e = .returned (.pointer (some ⟨b, 0, none⟩)) ∧ AAt N w' l' n ∧ n ≠ 0 ∧ GrN N w w'
/-- What the asker may lean on. -/
def InA (N : Nat) (w : World) (l : List ByteArray) : Prop := AAt N w l 0 ∧ l.length ≤ 1000 ∧ ∀ p ∈ l, PieceOk p ∧ p.size ≤ 1000
set_option maxRecDepth 100000 in
set_option maxHeartbeats 1600000 in
theorem rone_deep (N d : Nat) (hd : 12 < d) (l : List ByteArray) (w : World) (h : InA N w l) :
    Calls Tryd.prog 112 #[.pointer (some ⟨N, 0, none⟩), .int .i64 d] w (RPost N w (.bad 4)) := by
  obtain ⟨hA, hl, hps⟩ := h
  have hpk := peek_t N (l) hl w hA
  have hlN := lt_of_cell hA.2.1
  have hgw : Gr w (w.alloc (.cells #[.int .i64 0, .slice none 0 0, .pointer none, .pointer none] 138)) := (Gr.refl w).alloc _
  have AC := hA.gr hgw
  have GN : GrN N w (w.alloc (.cells #[.int .i64 0, .slice none 0 0, .pointer none, .pointer none] 138)) := GrX.of_gr hgw
  have gd : decide ((12 : Int) < (d : Int)) = true := by simp; omega
  clear hA hps
  generalize pkB l = s at *
  go_enter Tryd.func112, Tryd.ntmps112
  go_wp2_with (first | (go_at_call 113; with_reducible refine hpk.mono ?_; rintro e w1 ⟨rfl, rfl⟩) | (go_at_call 73; refine (fails_t N (l) (0) (4) _ AC).mono ?_; rintro e w2 ⟨rfl, AC, hg2⟩; have GN := GN.trans hg2; clear hg2))
  go_ret
  exact ⟨_, l, rfl, AC, by decide, GN⟩
set_option maxRecDepth 100000 in
set_option maxHeartbeats 3200000 in
theorem rone_stop (N d : Nat) (hd : d ≤ 12) (l : List ByteArray) (w : World) (h : InA N w l) (hs : pkB l = sNone ∨ pkB l = sShut ∨ pkB l = sStar ∨ pkB l = sAnd ∨ pkB l = sOr ∨ pkB l = sNot ∨ pkB l = sNear) :
    Calls Tryd.prog 112 #[.pointer (some ⟨N, 0, none⟩), .int .i64 d] w (RPost N w (.bad 3)) := by
  obtain ⟨hA, hl, hps⟩ := h
  have hpk := peek_t N (l) hl w hA
  have hlN := lt_of_cell hA.2.1
  have hgw : Gr w (w.alloc (.cells #[.int .i64 0, .slice none 0 0, .pointer none, .pointer none] 138)) := (Gr.refl w).alloc _
  have AC := hA.gr hgw
  have GN : GrN N w (w.alloc (.cells #[.int .i64 0, .slice none 0 0, .pointer none, .pointer none] 138)) := GrX.of_gr hgw
  have gd : decide ((12 : Int) < (d : Int)) = false := by simp; omega
  clear hA hps
  generalize pkB l = s at *
  rcases hs with h | h | h | h | h | h | h
  all_goals
    first
    | have hK := (tl_iff s ([] : List UInt8)).2 h
    | have hK := (tl_iff s [41]).2 h
    | have hK := (tl_iff s [42]).2 h
    | have hK := (tl_iff s [65, 78, 68]).2 h
    | have hK := (tl_iff s [79, 82]).2 h
    | have hK := (tl_iff s [78, 79, 84]).2 h
    | have hK := (tl_iff s [78, 69, 65, 82]).2 h
    clear h
    go_enter Tryd.func112, Tryd.ntmps112
    go_wp2_with (first | (go_at_call 113; with_reducible refine hpk.mono ?_; rintro e w1 ⟨rfl, rfl⟩) | (go_at_call 73; refine (fails_t N (l) (0) (3) _ AC).mono ?_; rintro e w2 ⟨rfl, AC, hg2⟩; have GN := GN.trans hg2; clear hg2))
    go_ret
    exact ⟨_, l, rfl, AC, by decide, GN⟩
set_option maxRecDepth 100000 in
set_option maxHeartbeats 1600000 in
theorem rone_open (N d : Nat) (hd : d ≤ 12) (anyR : List ByteArray → Rd) (hless : ∀ l q r, anyR l = .ok q r → Less r l) (hany : ∀ (l' : List ByteArray) (w' : World), InA N w' l' → Calls Tryd.prog 72 #[.pointer (some ⟨N, 0, none⟩), .int .i64 ((d : Int) + 1)] w' (RPost N w' (anyR l')))
    (t : List ByteArray) (w : World) (h : InA N w (⟨#[40]⟩ :: t)) :
    Calls Tryd.prog 112 #[.pointer (some ⟨N, 0, none⟩), .int .i64 d] w (RPost N w (match anyR t with | .bad n => .bad n | .ok q r => if pkB r = sShut then .ok q r.tail else .bad 3)) := by
  obtain ⟨hA, hl, hps⟩ := h
  have hpk := peek_t N ((⟨#[40]⟩ : ByteArray) :: t) hl w hA
  have hlN := lt_of_cell hA.2.1
  have hgw : Gr w (w.alloc (.cells #[.int .i64 0, .slice none 0 0, .pointer none, .pointer none] 138)) := (Gr.refl w).alloc _
  have AC := hA.gr hgw
  have GN : GrN N w (w.alloc (.cells #[.int .i64 0, .slice none 0 0, .pointer none, .pointer none] 138)) := GrX.of_gr hgw
  have gd : decide ((12 : Int) < (d : Int)) = false := by simp; omega
  rw [show pkB ((⟨#[40]⟩ : ByteArray) :: t) = ⟨#[40]⟩ from rfl] at hpk
  have HANY := Lib.hid hany
  have HPS := Lib.hid hps
  have hl' : t.length ≤ 1000 := by simp at hl; omega
  clear hany hps hA
  cases hA2 : anyR t with
  | bad n =>
    have HA := Lib.hid hA2
    clear hA2
    go_enter Tryd.func112, Tryd.ntmps112
    go_wp2_with (first | (go_at_call 113; with_reducible refine hpk.mono ?_; rintro e w1 ⟨rfl, rfl⟩) | (go_at_call_of 95 (Value.string ⟨#[40]⟩); refine (atake_yes N ⟨#[40]⟩ t hl _ AC).mono ?_; rintro e w3 ⟨rfl, AC, hg3⟩; have GN := GN.trans hg3; clear hg3))
    refine (HANY.out t _ ⟨AC, hl', fun p hp => HPS.out p (List.mem_cons_of_mem _ hp)⟩).mono ?_
    rw [HA.out]
    rintro e w4 ⟨b, l', rfl, AC, hn, hg4⟩
    have GN := GN.trans hg4
    have htk := atake_bad N l' n ⟨#[41]⟩ _ AC hn (by decide)
    go_wp2_with (first | (go_at_call_of 95 (Value.string ⟨#[41]⟩); refine (htk).mono ?_; rintro e w3 ⟨rfl, rfl⟩) | (go_at_call 73; refine (fails_t N (l') (n) (3) _ AC).mono ?_; rintro e w2 ⟨rfl, AC, hg2⟩; have GN := GN.trans hg2; clear hg2))
    go_ret
    rw [show notedB n 3 = n from if_neg hn] at AC
    exact ⟨b, l', rfl, AC, hn, GN⟩
  | ok q r =>
    have HA := Lib.hid hA2
    have hlr := hless t q r hA2
    have hlr2 : r.length ≤ 1000 := by have := hlr.2; omega
    clear hA2 hlr
    show Calls _ _ _ _ (RPost N w (if pkB r = sShut then Rd.ok q r.tail else Rd.bad 3))
    generalize hR : (if pkB r = sShut then Rd.ok q r.tail else Rd.bad 3) = R
    have HR := Lib.hid hR
    clear hR
    go_enter Tryd.func112, Tryd.ntmps112
    go_wp2_with (first | (go_at_call 113; with_reducible refine hpk.mono ?_; rintro e w1 ⟨rfl, rfl⟩) | (go_at_call_of 95 (Value.string ⟨#[40]⟩); refine (atake_yes N ⟨#[40]⟩ t hl _ AC).mono ?_; rintro e w3 ⟨rfl, AC, hg3⟩; have GN := GN.trans hg3; clear hg3))
    refine (HANY.out t _ ⟨AC, hl', fun p hp => HPS.out p (List.mem_cons_of_mem _ hp)⟩).mono ?_
    rw [HA.out]
    rintro e w4 ⟨b, rfl, hq, AC, hg4⟩
    have GN := GN.trans hg4
    by_cases hs : pkB r = sShut
    · have e := HR.out
      rw [if_pos hs] at e
      subst e
      obtain ⟨a, r', rfl, ha⟩ := pk_cons (l := r) (by rw [hs]; decide)
      obtain rfl : a = ⟨#[41]⟩ := ha.symm.trans hs
      clear hs ha
      go_wp2_with (go_at_call_of 95 (Value.string ⟨#[41]⟩); refine (atake_yes N ⟨#[41]⟩ r' hlr2 _ AC).mono ?_; rintro e w5 ⟨rfl, AC, hg5⟩)
      go_ret
      exact ⟨b, rfl, RAt.grN hg5 q b hq, AC, GN.trans hg5⟩
    · have e := HR.out
      rw [if_neg hs] at e
      subst e
      have htk := atake_no N r ⟨#[41]⟩ hlr2 _ AC hs
      clear hs
      go_wp2_with (first | (go_at_call_of 95 (Value.string ⟨#[41]⟩); refine (htk).mono ?_; rintro e w3 ⟨rfl, rfl⟩) | (go_at_call 73; refine (fails_t N (r) (0) (3) _ AC).mono ?_; rintro e w2 ⟨rfl, AC, hg2⟩; have GN := GN.trans hg2; clear hg2))
      go_ret
      exact ⟨b, r, rfl, AC, by decide, GN⟩
set_option maxRecDepth 100000 in
set_option maxHeartbeats 1600000 in
theorem rone_quote (N d : Nat) (hd : d ≤ 12) (s : ByteArray) (t : List ByteArray) (w : World) (h : InA N w (s :: t)) (hf : Free s) (ho : s ≠ sOpen) (r : List UInt8) (hr : s.data.toList = 34 :: r) :
    Calls Tryd.prog 112 #[.pointer (some ⟨N, 0, none⟩), .int .i64 d] w (RPost N w (if splitS (bsL r) = [] then .bad 3 else .ok (.leaf 1 (splitS (bsL r)) 0) t)) := by
  obtain ⟨hA, hl, hps⟩ := h
  have hpk := peek_t N (s :: t) hl w hA
  have hlN := lt_of_cell hA.2.1
  have hgw : Gr w (w.alloc (.cells #[.int .i64 0, .slice none 0 0, .pointer none, .pointer none] 138)) := (Gr.refl w).alloc _
  have AC := hA.gr hgw
  have GN : GrN N w (w.alloc (.cells #[.int .i64 0, .slice none 0 0, .pointer none, .pointer none] 138)) := GrX.of_gr hgw
  have gd : decide ((12 : Int) < (d : Int)) = false := by simp; omega
  have hsz := (hps s (by simp)).2
  have h0 : 0 < s.size := by rw [size_data, hr]; simp
  have hq : (((s[0].toNat : Nat) : Int) == 34) = true := by rw [get_data s 0 h0]; simp [hr]
  have hx1 : s.extract 1 s.size = bsL r := by
    apply bytes_ext
    rw [ext_drop, hr, bsL_data]
    rfl
  have hrs : (bsL r).size ≤ 1000 := by
    have : (bsL r).size + 1 = s.size := by rw [size_data, size_data, hr, bsL_data]; rfl
    omega
  have hwd := words_ref (bsL r) (by omega)
  rw [← hx1] at hwd
  obtain ⟨n0, n1, n2, n3, n4, n5, n6⟩ := hf
  have n7 := tl_ne (s := s) (k := [40]) ho
  have hj1 : (1 : Int) ≤ (s.size : Int) := by omega
  rw [show pkB (s :: t) = s from rfl] at hpk
  clear hps hA hr
  rw [← hx1]
  generalize splitS (s.extract 1 s.size) = ws at *
  generalize hR : (if ws = [] then Rd.bad 3 else Rd.ok (Qy.leaf 1 ws 0) t) = R
  have HR := Lib.hid hR
  clear hR hx1
  go_enter Tryd.func112, Tryd.ntmps112
  go_wp2_with (first | (go_at_call 113; with_reducible refine hpk.mono ?_; rintro e w1 ⟨rfl, rfl⟩) | (go_at_call_of 95 (Value.string s); refine (atake_yes N s t hl _ AC).mono ?_; rintro e w3 ⟨rfl, AC, hg3⟩; have GN := GN.trans hg3; clear hg3))
  refine (hwd _).mono ?_
  rintro e w4 ⟨v, rfl, hown, hg4⟩
  have hwa := wordsAt_own (N := N) hown (Nat.lt_of_lt_of_le hlN GN.2.2.2.1)
  obtain ⟨ao2, c2, b2, rfl, _, _⟩ := own_open hown
  have hga : Gr w4 (w4.alloc (.cells #[.int .i64 1, .slice ao2 ws.length c2, .pointer none, .pointer none] 138)) := (Gr.refl w4).alloc _
  have hN4 : N < w4.heap.size := Nat.lt_of_lt_of_le (Nat.lt_of_lt_of_le hlN GN.2.2.2.1) hg4.size
  have GN := (GN.trans (GrX.of_gr hg4)).trans (GrX.of_gr hga)
  have AC := (AC.gr hg4).gr hga
  have hrl := rleaf_new (N := N) (w := w4) 1 0 hwa hN4 138
  have HRL := Lib.hid hrl
  clear hown hwa hrl hwd hg4 hga
  by_cases hw0 : ws = []
  · have hb : (((ws.length : Nat) : Int) == 0) = true := by rw [hw0]; rfl
    have e := HR.out
    rw [if_pos hw0] at e
    subst e
    clear hw0
    go_wp2_with (go_at_call 73; refine (fails_t N t 0 3 _ AC).mono ?_; rintro e w2 ⟨rfl, AC, hg2⟩; have GN := GN.trans hg2; clear hg2)
    go_ret
    exact ⟨_, t, rfl, AC, by decide, GN⟩
  · have hb : (((ws.length : Nat) : Int) == 0) = false := by
      rw [Bool.eq_false_iff]
      intro h
      have := beq_iff_eq.1 h
      exact hw0 (List.length_eq_zero_iff.1 (by omega))
    have e := HR.out
    rw [if_neg hw0] at e
    subst e
    clear hw0
    go_wp2_with fail
    go_ret
    exact ⟨_, rfl, HRL.out, AC, GN⟩
end Go.Proofs.YthenhglpljdhfaaDoor
