/-
  match.parser.one.
-/
import Derived.Test.YthenhglpljdhfaaDoorMtQ2
import Derived.WalkLawsBesides
namespace Go.Proofs.YthenhglpljdhfaaDoor
open Go Go.RowKit

def QPost (N : Nat) (w : World) (R : Rd) (e : Ending) (w' : World) : Prop :=
  match R with
  | .ok q r => ∃ b, e = .returned (.pointer (some ⟨b, 0, none⟩)) ∧ QAt N w' q b ∧ PAt N w' r ∧ GrN N w w'
  | .bad n => e = Thrown n ∧ GrN N w w'
theorem EndsAt.grN {N : Nat} {w w' : World} (h : EndsAt w) (g : GrN N w w') (hN : 0 ≠ N) : EndsAt w' := by
  have hl := h.lt
  obtain ⟨t, fr, hb⟩ := h
  exact ⟨t, fr, by rw [g.block hl hN]; exact hb⟩
/-- What the parser may lean on. -/
def InP (N : Nat) (w : World) (l : List ByteArray) : Prop := PAt N w l ∧ l.length ≤ 1000 ∧ (∀ p ∈ l, PieceOk p ∧ p.size ≤ 1000) ∧ EndsAt w ∧ 0 ≠ N
def PlainPost (w : World) (ws : List ByteArray) (e : Ending) (w' : World) : Prop :=
  match ws with
  | [a] => Ret w (.string a) e w'
  | _ => e = Thrown 3 ∧ Gr w w'
set_option maxRecDepth 100000 in
theorem plain_t (s : ByteArray) (hs : s.size ≤ 1000) (w : World) (he : EndsAt w) : Calls Tryd.prog 127 #[.string s] w (PlainPost w (splitS s)) := by
  have hsp := split_t s (by omega) w he
  generalize splitS s = ws at *
  have hlen : ws.length = 1 ∨ ws.length ≠ 1 := by omega
  rcases hlen with h1 | h1
  · match ws, h1 with
    | [a], _ =>
      clear he
      go_enter Tryd.func127, Tryd.ntmps127
      go_wp2_with fail
      refine hsp.mono ?_
      rintro e w1 ⟨v, rfl, hown, hg⟩
      obtain ⟨ao, c, b, rfl, ha, hst⟩ := own_open hown
      obtain rfl := ha (by simp)
      have hc := hst 0 (by simp)
      simp only [List.getElem_cons_zero, Nat.add_zero] at hc
      clear ha hst hown
      go_wp2_with fail
      go_ret
      exact Ret.mk rfl hg
  · have key : ∀ e w', (e = Thrown 3 ∧ Gr w w') → PlainPost w ws e w' := fun e w' h => by
      match ws, h1 with
      | [], _ => exact h
      | [a], h2 => exact absurd rfl h2
      | _ :: _ :: _, _ => exact h
    refine Calls.mono (R := fun e w' => e = Thrown 3 ∧ Gr w w') ?_ key
    clear key
    have hb : (((ws.length : Nat) : Int) != 1) = true := by rw [bne_iff_ne]; omega
    clear he
    go_enter Tryd.func127, Tryd.ntmps127
    go_wp2_with fail
    refine hsp.mono ?_
    rintro e w1 ⟨v, rfl, hown, hg⟩
    obtain ⟨ao, c, b, rfl, ha, hst⟩ := own_open hown
    clear ha hst hown
    go_wp2_with (go_at_call 78; refine (fail_t 3 _).mono ?_; rintro e w6 ⟨rfl, rfl⟩; unfold Thrown)
    exact ⟨rfl, rfl, hg⟩
theorem cutp_yes (s : ByteArray) (r : List UInt8) (h : s.data.toList = 34 :: r) (W : World) : Calls Tryd.prog 125 #[.string s, .string ⟨#[34]⟩] W fun e w' => e = .returned (.tuple #[.string (bsL r), .bool true]) ∧ w' = W := by
  have h1 := Tryd.strings_CutPrefix s ⟨#[34]⟩ W
  have e1 : Lib.hasPrefix s.data.toList (⟨#[34]⟩ : ByteArray).data.toList = true := by rw [h]; simp [Lib.hasPrefix]
  have e2 : Lib.trimPrefix s.data.toList (⟨#[34]⟩ : ByteArray).data.toList = r := by rw [h]; simp [Lib.trimPrefix, Lib.hasPrefix]
  rw [e1, e2] at h1
  exact h1
theorem cutp_no (s : ByteArray) (c : UInt8) (r : List UInt8) (h : s.data.toList = c :: r) (hc : c ≠ 34) (W : World) : Calls Tryd.prog 125 #[.string s, .string ⟨#[34]⟩] W fun e w' => e = .returned (.tuple #[.string s, .bool false]) ∧ w' = W := by
  have h1 := Tryd.strings_CutPrefix s ⟨#[34]⟩ W
  have e1 : Lib.hasPrefix s.data.toList (⟨#[34]⟩ : ByteArray).data.toList = false := by
    rw [h]
    show ((34 : UInt8) == c && ([] : List UInt8).isPrefixOf r) = false
    rw [show ((34 : UInt8) == c) = false from by simpa using fun e => hc (Eq.symm e)]
    rfl
  have e2 : Lib.trimPrefix s.data.toList (⟨#[34]⟩ : ByteArray).data.toList = s.data.toList := by
    unfold Lib.trimPrefix
    rw [e1]
    rfl
  rw [e1, e2] at h1
  exact h1
/-- A piece that is no sign and no word of the language. -/
def Free (s : ByteArray) : Prop := s.toList.isEmpty = false ∧ (s.toList == [41]) = false ∧ (s.toList == [42]) = false ∧ (s.toList == [65, 78, 68]) = false ∧ (s.toList == [79, 82]) = false ∧ (s.toList == [78, 79, 84]) = false ∧ (s.toList == [78, 69, 65, 82]) = false
theorem tl_ne {s : ByteArray} {k : List UInt8} (h : s ≠ bsL k) : (s.toList == k) = false := by
  rw [Bool.eq_false_iff]
  intro e
  exact h ((tl_iff s k).1 (beq_iff_eq.1 e))
theorem free_of {s : ByteArray} (h : ¬ (s = sNone ∨ s = sShut ∨ s = sStar ∨ s = sAnd ∨ s = sOr ∨ s = sNot ∨ s = sNear)) : Free s := by
  simp only [not_or] at h
  obtain ⟨h0, h1, h2, h3, h4, h5, h6⟩ := h
  exact ⟨by rw [tl_none]; simpa using h0, tl_ne h1, tl_ne h2, tl_ne h3, tl_ne h4, tl_ne h5, tl_ne h6⟩
set_option maxRecDepth 100000 in
set_option maxHeartbeats 1600000 in
theorem one_deep (N d : Nat) (hd : 12 < d) (w : World) : Calls Tryd.prog 118 #[.pointer (some ⟨N, 0, none⟩), .int .i64 d] w (QPost N w (.bad 4)) := by
  have gd : decide ((12 : Int) < (d : Int)) = true := by simp; omega
  go_enter Tryd.func118, Tryd.ntmps118
  go_wp2_with (go_at_call 78; refine (fail_t 4 _).mono ?_; rintro e w6 ⟨rfl, rfl⟩; unfold Thrown)
  exact ⟨rfl, rfl, GrX.refl _ _⟩
set_option maxRecDepth 100000 in
set_option maxHeartbeats 3200000 in
theorem one_stop (N d : Nat) (hd : d ≤ 12) (l : List ByteArray) (w : World) (h : InP N w l) (hs : pkB l = sNone ∨ pkB l = sShut ∨ pkB l = sStar ∨ pkB l = sAnd ∨ pkB l = sOr ∨ pkB l = sNot ∨ pkB l = sNear) :
    Calls Tryd.prog 118 #[.pointer (some ⟨N, 0, none⟩), .int .i64 d] w (QPost N w (.bad 3)) := by
  obtain ⟨hP, hl, hps, hE, hN⟩ := h
  have hnx := next_t N l hl w hP
  have gd : decide ((12 : Int) < (d : Int)) = false := by simp; omega
  clear hP hps hE
  generalize pkB l = s at *
  rcases hs with h | h | h | h | h | h | h
  all_goals
    first
    | have hK := (tl_iff s ([] : List UInt8)).2 h
    | have hK := (tl_iff s [41]).2 h
    | have hK := (tl_iff s [42]).2 h
    | have hK := (tl_iff s [65, 78, 68]).2 h
    | have hK := (tl_iff s [79, 82]).2 h
    | have hK := (tl_iff s [78, 79, 84]).2 h
    | have hK := (tl_iff s [78, 69, 65, 82]).2 h
    clear h
    go_enter Tryd.func118, Tryd.ntmps118
    go_wp2_with (first | (go_at_call 77; refine hnx.mono ?_; rintro e w1 ⟨rfl, rfl⟩) | (go_at_call 78; refine (fail_t 3 _).mono ?_; rintro e w6 ⟨rfl, rfl⟩; unfold Thrown))
    exact ⟨rfl, rfl, GrX.refl _ _⟩
set_option maxRecDepth 100000 in
set_option maxHeartbeats 1600000 in
theorem one_quote (N d : Nat) (hd : d ≤ 12) (s : ByteArray) (t : List ByteArray) (w : World) (h : InP N w (s :: t)) (hf : Free s) (ho : s ≠ sOpen) (r : List UInt8) (hr : s.data.toList = 34 :: r) :
    Calls Tryd.prog 118 #[.pointer (some ⟨N, 0, none⟩), .int .i64 d] w (QPost N w (if splitS (bsL r) = [] then .bad 3 else .ok (.leaf 1 (splitS (bsL r)) 0) t)) := by
  obtain ⟨hP, hl, hps, hE, hN⟩ := h
  have hnx := next_t N (s :: t) hl w hP
  have htk := take_no N (s :: t) ⟨#[40]⟩ hl w hP ho
  have gd : decide ((12 : Int) < (d : Int)) = false := by simp; omega
  have hsz := (hps s (by simp)).2
  obtain ⟨ao, c, ao', c', p1, p2, p3, p4⟩ := hP.rest
  have hcp := cutp_yes s r hr
  have hg1 : GrN N w (w.setCell ⟨N, 0, none⟩ (.slice ao' t.length c')) := GrX.setCell _ _ rfl
  have hrs : (bsL r).size ≤ 1000 := by
    have : (bsL r).size + 1 = s.size := by rw [size_data, size_data, hr, bsL_data]; rfl
    omega
  have hsp := split_t (bsL r) (by omega) _ (hE.grN hg1 hN)
  have HP4 := Lib.hid p4
  obtain ⟨n0, n1, n2, n3, n4, n5, n6⟩ := hf
  rw [show pkB (s :: t) = s from rfl] at hnx
  clear hP hps hE hr p4
  generalize splitS (bsL r) = ws at *
  generalize hR : (if ws = [] then Rd.bad 3 else Rd.ok (Qy.leaf 1 ws 0) t) = R
  have HR := Lib.hid hR
  clear hR
  go_enter Tryd.func118, Tryd.ntmps118
  go_wp2_with (first | (go_at_call 77; refine hnx.mono ?_; rintro e w1 ⟨rfl, rfl⟩) | (go_at_call 98; refine htk.mono ?_; rintro e w1 ⟨rfl, rfl⟩) | (go_at_call 125; refine (hcp _).mono ?_; rintro e w1 ⟨rfl, rfl⟩))
  refine hsp.mono ?_
  rintro e w2 ⟨v, rfl, hown, hg2⟩
  have hlN : N < (w1.setCell ⟨N, 0, none⟩ (.slice ao' t.length c')).heap.size := by
    have := lt_of_cell p1
    simpa using this
  have hwa := wordsAt_own hown hlN
  obtain ⟨ao2, c2, b2, rfl, ha2, hst2⟩ := own_open hown
  have HW := Lib.hid hwa
  have hgN := hg1.trans (GrX.of_gr hg2)
  clear ha2 hst2 hown hwa hsp
  by_cases hw0 : ws = []
  · have hb : (((ws.length : Nat) : Int) == 0) = true := by rw [hw0]; rfl
    have e := HR.out
    rw [if_pos hw0] at e
    subst e
    clear hw0
    go_wp2_with (go_at_call 78; refine (fail_t 3 _).mono ?_; rintro e w6 ⟨rfl, rfl⟩; unfold Thrown)
    exact ⟨rfl, rfl, hgN⟩
  · have hb : (((ws.length : Nat) : Int) == 0) = false := by
      rw [Bool.eq_false_iff]
      intro h
      have := beq_iff_eq.1 h
      exact hw0 (List.length_eq_zero_iff.1 (by omega))
    have e := HR.out
    rw [if_neg hw0] at e
    subst e
    clear hw0
    go_wp2_with fail
    go_ret
    have hN2 : N < w2.heap.size := Nat.lt_of_lt_of_le hlN hg2.size
    have hga : GrN N w2 (w2.alloc (.cells #[.int .i64 1, .slice ao2 ws.length c2, .int .i64 0, .pointer none, .pointer none] 140)) := GrX.of_gr ((Gr.refl w2).alloc _)
    exact ⟨w2.heap.size, rfl, leaf_new 1 0 HW.out hN2 _, (HP4.out.gr hg2).gr ((Gr.refl w2).alloc _), hgN.trans hga⟩
end Go.Proofs.YthenhglpljdhfaaDoor
