/-
  match.parser.one at a word; and whole.
-/
import Derived.Test.YthenhglpljdhfaaDoorMtO2
namespace Go.Proofs.YthenhglpljdhfaaDoor
open Go Go.RowKit

theorem plain_one (s a : ByteArray) (hs : s.size ≤ 1000) (h : splitS s = [a]) (w : World) (he : EndsAt w) : Calls Tryd.prog 127 #[.string s] w (Ret w (.string a)) := by
  have := plain_t s hs w he
  rw [h] at this
  exact this
theorem plain_bad (s : ByteArray) (hs : s.size ≤ 1000) (h : ∀ a, splitS s ≠ [a]) (w : World) (he : EndsAt w) : Calls Tryd.prog 127 #[.string s] w fun e w' => e = Thrown 3 ∧ Gr w w' := by
  have := plain_t s hs w he
  generalize splitS s = ws at *
  match ws, h with
  | [], _ => exact this
  | [a], h2 => exact absurd rfl (h2 a)
  | _ :: _ :: _, _ => exact this
set_option maxRecDepth 100000 in
set_option maxHeartbeats 1600000 in
theorem one_word1 (N d : Nat) (hd : d ≤ 12) (s : ByteArray) (t : List ByteArray) (w : World) (h : InP N w (s :: t)) (hf : Free s) (ho : s ≠ sOpen) (c0 : UInt8) (r : List UInt8) (hr : s.data.toList = c0 :: r) (h34 : c0 ≠ 34) (hst : pkB (t) ≠ sStar) (hsp : ∀ a, splitS s ≠ [a]) :
    Calls Tryd.prog 118 #[.pointer (some ⟨N, 0, none⟩), .int .i64 d] w (QPost N w (.bad 3)) := by
  obtain ⟨hP, hl, hps, hE, hN⟩ := h
  have hnx := next_t N _ hl w hP
  have htk := take_no N _ ⟨#[40]⟩ hl w hP ho
  have gd : decide ((12 : Int) < (d : Int)) = false := by simp; omega
  have hsz := (hps s (by simp)).2
  obtain ⟨ao, c, ao', c', p1, p2, p3, p4⟩ := hP.rest
  have hlt : (t).length ≤ 1000 := by simp at hl ⊢; omega
  have htk2 := take_no N (t) ⟨#[42]⟩ hlt _ p4 hst
  have P4 := Lib.hid p4
  have HPS := Lib.hid hps
  generalize hm : (t).length = m at p1 p3 p4 htk2 P4
  have hcp := cutp_no s c0 r hr h34
  have hg1 : GrN N w (w.setCell ⟨N, 0, none⟩ (.slice ao' m c')) := GrX.setCell _ _ rfl
  have hlN := lt_of_cell p1
  obtain ⟨n0, n1, n2, n3, n4, n5, n6⟩ := hf
  rw [show pkB (s :: t) = s from rfl] at hnx
  have hE1 := hE.grN hg1 hN
  clear hP hps hE hr p4 hst hm
  go_enter Tryd.func118, Tryd.ntmps118
  go_wp2_with (first | (go_at_call 77; with_reducible refine hnx.mono ?_; rintro e w1 ⟨rfl, rfl⟩) | (go_at_call_of 98 (Value.string ⟨#[40]⟩); refine htk.mono ?_; rintro e w1 ⟨rfl, rfl⟩) | (go_at_call 125; refine (hcp _).mono ?_; rintro e w1 ⟨rfl, rfl⟩) | (go_at_call_of 98 (Value.string ⟨#[42]⟩); refine htk2.mono ?_; rintro e w2 ⟨rfl, rfl⟩) | (go_at_call_of 127 (Value.string s); refine (plain_bad s hsz hsp _ hE1).mono ?_; rintro e w3 ⟨rfl, hg3⟩; have GN := hg1.trans (GrX.of_gr hg3); unfold Thrown))
  exact ⟨rfl, rfl, GN⟩
set_option maxRecDepth 100000 in
set_option maxHeartbeats 1600000 in
theorem one_word2 (N d : Nat) (hd : d ≤ 12) (s : ByteArray) (t : List ByteArray) (w : World) (h : InP N w (s :: t)) (hf : Free s) (ho : s ≠ sOpen) (c0 : UInt8) (r : List UInt8) (hr : s.data.toList = c0 :: r) (h34 : c0 ≠ 34) (hst : pkB (t) ≠ sStar) (a : ByteArray) (hsp : splitS s = [a]) (hnear : pkB t ≠ sNear) :
    Calls Tryd.prog 118 #[.pointer (some ⟨N, 0, none⟩), .int .i64 d] w (QPost N w (.ok (.leaf 1 [a] 0) t)) := by
  obtain ⟨hP, hl, hps, hE, hN⟩ := h
  have hnx := next_t N _ hl w hP
  have htk := take_no N _ ⟨#[40]⟩ hl w hP ho
  have gd : decide ((12 : Int) < (d : Int)) = false := by simp; omega
  have hsz := (hps s (by simp)).2
  obtain ⟨ao, c, ao', c', p1, p2, p3, p4⟩ := hP.rest
  have hlt : (t).length ≤ 1000 := by simp at hl ⊢; omega
  have htk2 := take_no N (t) ⟨#[42]⟩ hlt _ p4 hst
  have P4 := Lib.hid p4
  have HPS := Lib.hid hps
  generalize hm : (t).length = m at p1 p3 p4 htk2 P4
  have hcp := cutp_no s c0 r hr h34
  have hg1 : GrN N w (w.setCell ⟨N, 0, none⟩ (.slice ao' m c')) := GrX.setCell _ _ rfl
  have hlN := lt_of_cell p1
  obtain ⟨n0, n1, n2, n3, n4, n5, n6⟩ := hf
  rw [show pkB (s :: t) = s from rfl] at hnx
  have hE1 := hE.grN hg1 hN
  clear hP hps hE hr p4 hst hm
  go_enter Tryd.func118, Tryd.ntmps118
  go_wp2_with (first | (go_at_call 77; with_reducible refine hnx.mono ?_; rintro e w1 ⟨rfl, rfl⟩) | (go_at_call_of 98 (Value.string ⟨#[40]⟩); refine htk.mono ?_; rintro e w1 ⟨rfl, rfl⟩) | (go_at_call 125; refine (hcp _).mono ?_; rintro e w1 ⟨rfl, rfl⟩) | (go_at_call_of 98 (Value.string ⟨#[42]⟩); refine htk2.mono ?_; rintro e w2 ⟨rfl, rfl⟩) | (go_at_call_of 127 (Value.string s); refine (plain_one s a hsz hsp _ hE1).mono ?_; rintro e w3 ⟨rfl, hg3⟩; have GN := hg1.trans (GrX.of_gr hg3); have PC := P4.out.gr hg3; clear hg3) | (go_at_call_of 98 (Value.string ⟨#[78, 69, 65, 82]⟩); refine (take_no N t ⟨#[78, 69, 65, 82]⟩ hlt _ PC hnear).mono ?_; rintro e w4 ⟨rfl, rfl⟩))
  go_ret
  have hN3 : N < w4.heap.size := Nat.lt_of_lt_of_le hlN GN.2.2.2.1
  have hq := leaf_new (N := N) (w := w4.alloc (.cells #[.string a] 9)) 1 0 (words_one a hN3 9) (by simp; omega) 140
  rw [show (w4.alloc (.cells #[.string a] 9)).heap.size = w4.heap.size + 1 by simp] at hq
  have hga : Gr w4 ((w4.alloc (.cells #[.string a] 9)).alloc (.cells #[.int .i64 1, .slice (some ⟨w4.heap.size, 0, none⟩) 1 1, .int .i64 0, .pointer none, .pointer none] 140)) := ((Gr.refl w4).alloc _).alloc _
  exact ⟨w4.heap.size + 1, rfl, hq, PC.gr hga, GN.trans (GrX.of_gr hga)⟩
set_option maxRecDepth 100000 in
set_option maxHeartbeats 1600000 in
theorem one_word3 (N d : Nat) (hd : d ≤ 12) (s : ByteArray) (t : List ByteArray) (w : World) (h : InP N w (s :: (⟨#[78, 69, 65, 82]⟩ : ByteArray) :: t)) (hf : Free s) (ho : s ≠ sOpen) (c0 : UInt8) (r : List UInt8) (hr : s.data.toList = c0 :: r) (h34 : c0 ≠ 34) (hst : pkB ((⟨#[78, 69, 65, 82]⟩ : ByteArray) :: t) ≠ sStar) (a : ByteArray) (hsp : splitS s = [a]) (hnb : pkB t = sNone) :
    Calls Tryd.prog 118 #[.pointer (some ⟨N, 0, none⟩), .int .i64 d] w (QPost N w (.bad 3)) := by
  have hnb2 := (tl_iff (pkB t) []).2 hnb
  obtain ⟨hP, hl, hps, hE, hN⟩ := h
  have hnx := next_t N _ hl w hP
  have htk := take_no N _ ⟨#[40]⟩ hl w hP ho
  have gd : decide ((12 : Int) < (d : Int)) = false := by simp; omega
  have hsz := (hps s (by simp)).2
  obtain ⟨ao, c, ao', c', p1, p2, p3, p4⟩ := hP.rest
  have hlt : ((⟨#[78, 69, 65, 82]⟩ : ByteArray) :: t).length ≤ 1000 := by simp at hl ⊢; omega
  have htk2 := take_no N ((⟨#[78, 69, 65, 82]⟩ : ByteArray) :: t) ⟨#[42]⟩ hlt _ p4 hst
  have P4 := Lib.hid p4
  have HPS := Lib.hid hps
  generalize hm : ((⟨#[78, 69, 65, 82]⟩ : ByteArray) :: t).length = m at p1 p3 p4 htk2 P4
  have hcp := cutp_no s c0 r hr h34
  have hg1 : GrN N w (w.setCell ⟨N, 0, none⟩ (.slice ao' m c')) := GrX.setCell _ _ rfl
  have hlN := lt_of_cell p1
  obtain ⟨n0, n1, n2, n3, n4, n5, n6⟩ := hf
  rw [show pkB (s :: (⟨#[78, 69, 65, 82]⟩ : ByteArray) :: t) = s from rfl] at hnx
  have hE1 := hE.grN hg1 hN
  clear hP hps hE hr p4 hst hm
  generalize hpb : pkB t = pb at *
  have HPB := Lib.hid hpb
  clear hnb hpb
  go_enter Tryd.func118, Tryd.ntmps118
  go_wp2_with (first | (go_at_call 77; with_reducible refine hnx.mono ?_; rintro e w1 ⟨rfl, rfl⟩) | (go_at_call_of 98 (Value.string ⟨#[40]⟩); refine htk.mono ?_; rintro e w1 ⟨rfl, rfl⟩) | (go_at_call 125; refine (hcp _).mono ?_; rintro e w1 ⟨rfl, rfl⟩) | (go_at_call_of 98 (Value.string ⟨#[42]⟩); refine htk2.mono ?_; rintro e w2 ⟨rfl, rfl⟩) | (go_at_call_of 127 (Value.string s); refine (plain_one s a hsz hsp _ hE1).mono ?_; rintro e w3 ⟨rfl, hg3⟩; have GN := hg1.trans (GrX.of_gr hg3); have PC := P4.out.gr hg3; clear hg3) | (go_at_call_of 98 (Value.string ⟨#[78, 69, 65, 82]⟩); refine (take_yes N ⟨#[78, 69, 65, 82]⟩ t hlt _ PC).mono ?_; rintro e w4 ⟨rfl, PC, hg4⟩; have GN := GN.trans hg4; clear hg4) | (go_at_call 77; refine (next_t N t (by simp at hlt ⊢; omega) _ PC).mono ?_; rintro e w5 ⟨rfl, rfl⟩; rw [HPB.out]) | (go_at_call 78; refine (fail_t 3 _).mono ?_; rintro e w6 ⟨rfl, rfl⟩; unfold Thrown))
  exact ⟨rfl, rfl, GN⟩
set_option maxRecDepth 100000 in
set_option maxHeartbeats 1600000 in
theorem one_word4 (N d : Nat) (hd : d ≤ 12) (s : ByteArray) (b : ByteArray) (t : List ByteArray) (w : World) (h : InP N w (s :: (⟨#[78, 69, 65, 82]⟩ : ByteArray) :: b :: t)) (hf : Free s) (ho : s ≠ sOpen) (c0 : UInt8) (r : List UInt8) (hr : s.data.toList = c0 :: r) (h34 : c0 ≠ 34) (hst : pkB ((⟨#[78, 69, 65, 82]⟩ : ByteArray) :: b :: t) ≠ sStar) (a : ByteArray) (hsp : splitS s = [a]) (hmk : markB (headB b) = true) :
    Calls Tryd.prog 118 #[.pointer (some ⟨N, 0, none⟩), .int .i64 d] w (QPost N w (.bad 3)) := by
  obtain ⟨hP, hl, hps, hE, hN⟩ := h
  have hnx := next_t N _ hl w hP
  have htk := take_no N _ ⟨#[40]⟩ hl w hP ho
  have gd : decide ((12 : Int) < (d : Int)) = false := by simp; omega
  have hsz := (hps s (by simp)).2
  obtain ⟨ao, c, ao', c', p1, p2, p3, p4⟩ := hP.rest
  have hlt : ((⟨#[78, 69, 65, 82]⟩ : ByteArray) :: b :: t).length ≤ 1000 := by simp at hl ⊢; omega
  have htk2 := take_no N ((⟨#[78, 69, 65, 82]⟩ : ByteArray) :: b :: t) ⟨#[42]⟩ hlt _ p4 hst
  have P4 := Lib.hid p4
  have HPS := Lib.hid hps
  generalize hm : ((⟨#[78, 69, 65, 82]⟩ : ByteArray) :: b :: t).length = m at p1 p3 p4 htk2 P4
  have hcp := cutp_no s c0 r hr h34
  have hg1 : GrN N w (w.setCell ⟨N, 0, none⟩ (.slice ao' m c')) := GrX.setCell _ _ rfl
  have hlN := lt_of_cell p1
  obtain ⟨n0, n1, n2, n3, n4, n5, n6⟩ := hf
  rw [show pkB (s :: (⟨#[78, 69, 65, 82]⟩ : ByteArray) :: b :: t) = s from rfl] at hnx
  have hE1 := hE.grN hg1 hN
  clear hP hps hE hr p4 hst hm
  have hbz := (HPS.out b (by simp)).2
  have hbo := (HPS.out b (by simp)).1
  have hbe : b.toList.isEmpty = false := by
    obtain ⟨c1, r1, hc1, _⟩ := hbo
    rw [ByteArray.toList_eq, hc1]
    rfl
  have hca := fun W => contains_any' b ⟨#[40, 41, 34, 42]⟩ hbz (by decide) (by decide) W
  rw [show Lib.containsAny b.data.toList (⟨#[40, 41, 34, 42]⟩ : ByteArray).data.toList = markB (headB b) from cany_mark hbo] at hca
  rw [hmk] at hca
  clear hmk
  go_enter Tryd.func118, Tryd.ntmps118
  go_wp2_with (first | (go_at_call 77; with_reducible refine hnx.mono ?_; rintro e w1 ⟨rfl, rfl⟩) | (go_at_call_of 98 (Value.string ⟨#[40]⟩); refine htk.mono ?_; rintro e w1 ⟨rfl, rfl⟩) | (go_at_call 125; refine (hcp _).mono ?_; rintro e w1 ⟨rfl, rfl⟩) | (go_at_call_of 98 (Value.string ⟨#[42]⟩); refine htk2.mono ?_; rintro e w2 ⟨rfl, rfl⟩) | (go_at_call_of 127 (Value.string s); refine (plain_one s a hsz hsp _ hE1).mono ?_; rintro e w3 ⟨rfl, hg3⟩; have GN := hg1.trans (GrX.of_gr hg3); have PC := P4.out.gr hg3; clear hg3) | (go_at_call_of 98 (Value.string ⟨#[78, 69, 65, 82]⟩); refine (take_yes N ⟨#[78, 69, 65, 82]⟩ (b :: t) hlt _ PC).mono ?_; rintro e w4 ⟨rfl, PC, hg4⟩; have GN := GN.trans hg4; clear hg4) | (go_at_call 77; refine (next_t N (b :: t) (by simp at hlt ⊢; omega) _ PC).mono ?_; rintro e w5 ⟨rfl, rfl⟩; rw [show pkB (b :: t) = b from rfl]) | (go_at_call 128; refine (hca _).mono ?_; rintro e w7 ⟨rfl, hg7⟩; have GN := GN.trans (GrX.of_gr hg7); have PC := PC.gr hg7; clear hg7) | (go_at_call 78; refine (fail_t 3 _).mono ?_; rintro e w6 ⟨rfl, rfl⟩; unfold Thrown))
  exact ⟨rfl, rfl, GN⟩
set_option maxRecDepth 100000 in
set_option maxHeartbeats 1600000 in
theorem one_word5 (N d : Nat) (hd : d ≤ 12) (s : ByteArray) (b : ByteArray) (t : List ByteArray) (w : World) (h : InP N w (s :: (⟨#[78, 69, 65, 82]⟩ : ByteArray) :: b :: t)) (hf : Free s) (ho : s ≠ sOpen) (c0 : UInt8) (r : List UInt8) (hr : s.data.toList = c0 :: r) (h34 : c0 ≠ 34) (hst : pkB ((⟨#[78, 69, 65, 82]⟩ : ByteArray) :: b :: t) ≠ sStar) (a : ByteArray) (hsp : splitS s = [a]) (hmk : markB (headB b) = false) (hsb : ∀ a, splitS b ≠ [a]) :
    Calls Tryd.prog 118 #[.pointer (some ⟨N, 0, none⟩), .int .i64 d] w (QPost N w (.bad 3)) := by
  obtain ⟨hP, hl, hps, hE, hN⟩ := h
  have hnx := next_t N _ hl w hP
  have htk := take_no N _ ⟨#[40]⟩ hl w hP ho
  have gd : decide ((12 : Int) < (d : Int)) = false := by simp; omega
  have hsz := (hps s (by simp)).2
  obtain ⟨ao, c, ao', c', p1, p2, p3, p4⟩ := hP.rest
  have hlt : ((⟨#[78, 69, 65, 82]⟩ : ByteArray) :: b :: t).length ≤ 1000 := by simp at hl ⊢; omega
  have htk2 := take_no N ((⟨#[78, 69, 65, 82]⟩ : ByteArray) :: b :: t) ⟨#[42]⟩ hlt _ p4 hst
  have P4 := Lib.hid p4
  have HPS := Lib.hid hps
  generalize hm : ((⟨#[78, 69, 65, 82]⟩ : ByteArray) :: b :: t).length = m at p1 p3 p4 htk2 P4
  have hcp := cutp_no s c0 r hr h34
  have hg1 : GrN N w (w.setCell ⟨N, 0, none⟩ (.slice ao' m c')) := GrX.setCell _ _ rfl
  have hlN := lt_of_cell p1
  obtain ⟨n0, n1, n2, n3, n4, n5, n6⟩ := hf
  rw [show pkB (s :: (⟨#[78, 69, 65, 82]⟩ : ByteArray) :: b :: t) = s from rfl] at hnx
  have hE1 := hE.grN hg1 hN
  have hE0 := hE
  clear hP hps hE hr p4 hst hm
  have hbz := (HPS.out b (by simp)).2
  have hbo := (HPS.out b (by simp)).1
  have hbe : b.toList.isEmpty = false := by
    obtain ⟨c1, r1, hc1, _⟩ := hbo
    rw [ByteArray.toList_eq, hc1]
    rfl
  have hca := fun W => contains_any' b ⟨#[40, 41, 34, 42]⟩ hbz (by decide) (by decide) W
  rw [show Lib.containsAny b.data.toList (⟨#[40, 41, 34, 42]⟩ : ByteArray).data.toList = markB (headB b) from cany_mark hbo] at hca
  rw [hmk] at hca
  clear hmk
  go_enter Tryd.func118, Tryd.ntmps118
  go_wp2_with (first | (go_at_call 77; with_reducible refine hnx.mono ?_; rintro e w1 ⟨rfl, rfl⟩) | (go_at_call_of 98 (Value.string ⟨#[40]⟩); refine htk.mono ?_; rintro e w1 ⟨rfl, rfl⟩) | (go_at_call 125; refine (hcp _).mono ?_; rintro e w1 ⟨rfl, rfl⟩) | (go_at_call_of 98 (Value.string ⟨#[42]⟩); refine htk2.mono ?_; rintro e w2 ⟨rfl, rfl⟩) | (go_at_call_of 127 (Value.string s); refine (plain_one s a hsz hsp _ hE1).mono ?_; rintro e w3 ⟨rfl, hg3⟩; have GN := hg1.trans (GrX.of_gr hg3); have PC := P4.out.gr hg3; clear hg3) | (go_at_call_of 98 (Value.string ⟨#[78, 69, 65, 82]⟩); refine (take_yes N ⟨#[78, 69, 65, 82]⟩ (b :: t) hlt _ PC).mono ?_; rintro e w4 ⟨rfl, PC, hg4⟩; have GN := GN.trans hg4; clear hg4) | (go_at_call 77; refine (next_t N (b :: t) (by simp at hlt ⊢; omega) _ PC).mono ?_; rintro e w5 ⟨rfl, rfl⟩; rw [show pkB (b :: t) = b from rfl]) | (go_at_call 128; refine (hca _).mono ?_; rintro e w7 ⟨rfl, hg7⟩; have GN := GN.trans (GrX.of_gr hg7); have PC := PC.gr hg7; clear hg7; obtain ⟨ao5, c5, ao5', c5', q1, q2, q3, q4⟩ := PC.rest; have GN := GN.trans (GrX.setCell (S := fun i => i = N) w7 (p := ⟨N, 0, none⟩) (.slice ao5' t.length c5') rfl); have hE7 := hE0.grN GN hN) | (go_at_call_of 127 (Value.string b); refine (plain_bad b hbz hsb _ hE7).mono ?_; rintro e w8 ⟨rfl, hg8⟩; have GN := GN.trans (GrX.of_gr hg8); unfold Thrown))
  exact ⟨rfl, rfl, GN⟩
set_option maxRecDepth 100000 in
set_option maxHeartbeats 1600000 in
theorem one_word6 (N d : Nat) (hd : d ≤ 12) (s : ByteArray) (b : ByteArray) (t : List ByteArray) (w : World) (h : InP N w (s :: (⟨#[78, 69, 65, 82]⟩ : ByteArray) :: b :: t)) (hf : Free s) (ho : s ≠ sOpen) (c0 : UInt8) (r : List UInt8) (hr : s.data.toList = c0 :: r) (h34 : c0 ≠ 34) (hst : pkB ((⟨#[78, 69, 65, 82]⟩ : ByteArray) :: b :: t) ≠ sStar) (a : ByteArray) (hsp : splitS s = [a]) (hmk : markB (headB b) = false) (a2 : ByteArray) (hsb : splitS b = [a2]) :
    Calls Tryd.prog 118 #[.pointer (some ⟨N, 0, none⟩), .int .i64 d] w (QPost N w (.ok (.leaf 3 [a, a2] 3) t)) := by
  obtain ⟨hP, hl, hps, hE, hN⟩ := h
  have hnx := next_t N _ hl w hP
  have htk := take_no N _ ⟨#[40]⟩ hl w hP ho
  have gd : decide ((12 : Int) < (d : Int)) = false := by simp; omega
  have hsz := (hps s (by simp)).2
  obtain ⟨ao, c, ao', c', p1, p2, p3, p4⟩ := hP.rest
  have hlt : ((⟨#[78, 69, 65, 82]⟩ : ByteArray) :: b :: t).length ≤ 1000 := by simp at hl ⊢; omega
  have htk2 := take_no N ((⟨#[78, 69, 65, 82]⟩ : ByteArray) :: b :: t) ⟨#[42]⟩ hlt _ p4 hst
  have P4 := Lib.hid p4
  have HPS := Lib.hid hps
  generalize hm : ((⟨#[78, 69, 65, 82]⟩ : ByteArray) :: b :: t).length = m at p1 p3 p4 htk2 P4
  have hcp := cutp_no s c0 r hr h34
  have hg1 : GrN N w (w.setCell ⟨N, 0, none⟩ (.slice ao' m c')) := GrX.setCell _ _ rfl
  have hlN := lt_of_cell p1
  obtain ⟨n0, n1, n2, n3, n4, n5, n6⟩ := hf
  rw [show pkB (s :: (⟨#[78, 69, 65, 82]⟩ : ByteArray) :: b :: t) = s from rfl] at hnx
  have hE1 := hE.grN hg1 hN
  have hE0 := hE
  clear hP hps hE hr p4 hst hm
  have hbz := (HPS.out b (by simp)).2
  have hbo := (HPS.out b (by simp)).1
  have hbe : b.toList.isEmpty = false := by
    obtain ⟨c1, r1, hc1, _⟩ := hbo
    rw [ByteArray.toList_eq, hc1]
    rfl
  have hca := fun W => contains_any' b ⟨#[40, 41, 34, 42]⟩ hbz (by decide) (by decide) W
  rw [show Lib.containsAny b.data.toList (⟨#[40, 41, 34, 42]⟩ : ByteArray).data.toList = markB (headB b) from cany_mark hbo] at hca
  rw [hmk] at hca
  clear hmk
  go_enter Tryd.func118, Tryd.ntmps118
  go_wp2_with (first | (go_at_call 77; with_reducible refine hnx.mono ?_; rintro e w1 ⟨rfl, rfl⟩) | (go_at_call_of 98 (Value.string ⟨#[40]⟩); refine htk.mono ?_; rintro e w1 ⟨rfl, rfl⟩) | (go_at_call 125; refine (hcp _).mono ?_; rintro e w1 ⟨rfl, rfl⟩) | (go_at_call_of 98 (Value.string ⟨#[42]⟩); refine htk2.mono ?_; rintro e w2 ⟨rfl, rfl⟩) | (go_at_call_of 127 (Value.string s); refine (plain_one s a hsz hsp _ hE1).mono ?_; rintro e w3 ⟨rfl, hg3⟩; have GN := hg1.trans (GrX.of_gr hg3); have PC := P4.out.gr hg3; clear hg3) | (go_at_call_of 98 (Value.string ⟨#[78, 69, 65, 82]⟩); refine (take_yes N ⟨#[78, 69, 65, 82]⟩ (b :: t) hlt _ PC).mono ?_; rintro e w4 ⟨rfl, PC, hg4⟩; have GN := GN.trans hg4; clear hg4) | (go_at_call 77; refine (next_t N (b :: t) (by simp at hlt ⊢; omega) _ PC).mono ?_; rintro e w5 ⟨rfl, rfl⟩; rw [show pkB (b :: t) = b from rfl]) | (go_at_call 128; refine (hca _).mono ?_; rintro e w7 ⟨rfl, hg7⟩; have GN := GN.trans (GrX.of_gr hg7); have PC := PC.gr hg7; clear hg7; obtain ⟨ao5, c5, ao5', c5', q1, q2, q3, q4⟩ := PC.rest; have GN := GN.trans (GrX.setCell (S := fun i => i = N) w7 (p := ⟨N, 0, none⟩) (.slice ao5' t.length c5') rfl); have hE7 := hE0.grN GN hN) | (go_at_call_of 127 (Value.string b); refine (plain_one b a2 hbz hsb _ hE7).mono ?_; rintro e w8 ⟨rfl, hg8⟩; have GN := GN.trans (GrX.of_gr hg8); have PC := q4.gr hg8; clear hg8))
  go_ret
  have hN3 : N < w8.heap.size := Nat.lt_of_lt_of_le hlN GN.2.2.2.1
  have hq := leaf_new (N := N) (w := w8.alloc (.cells #[.string a, .string a2] 9)) 3 3 (words_two a a2 hN3 9) (by simp; omega) 140
  rw [show (w8.alloc (.cells #[.string a, .string a2] 9)).heap.size = w8.heap.size + 1 by simp] at hq
  have hga : Gr w8 ((w8.alloc (.cells #[.string a, .string a2] 9)).alloc (.cells #[.int .i64 3, .slice (some ⟨w8.heap.size, 0, none⟩) 2 2, .int .i64 3, .pointer none, .pointer none] 140)) := ((Gr.refl w8).alloc _).alloc _
  exact ⟨w8.heap.size + 1, rfl, hq, PC.gr hga, GN.trans (GrX.of_gr hga)⟩
end Go.Proofs.YthenhglpljdhfaaDoor
