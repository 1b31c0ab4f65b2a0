/-
  match.parser.one, whole.
-/
import Derived.Test.YthenhglpljdhfaaDoorMtO
import Derived.Shelf.Strings.SlTrimAscii
namespace Go.Proofs.YthenhglpljdhfaaDoor
open Go Go.RowKit

def beginL : List UInt8 := [97, 98, 99, 100, 101, 102, 103, 104, 105, 106, 107, 108, 109, 110, 111, 112, 113, 114, 115, 116, 117, 118, 119, 120, 121, 122, 48, 49, 50, 51, 52, 53, 54, 55, 56, 57]
theorem begin_iff (c : UInt8) : beginL.contains c = beginB c := by
  have h : ∀ n : Fin 256, beginL.contains (UInt8.ofNat n.val) = beginB (UInt8.ofNat n.val) := by decide +kernel
  have := h ⟨c.toNat, UInt8.toNat_lt c⟩
  simpa using this
theorem dropWhile_empty {α : Type} (p : α → Bool) (l : List α) : (l.dropWhile p).isEmpty = l.all p := by
  induction l with
  | nil => rfl
  | cons a t ih => cases h : p a <;> simp [h, ih]
theorem dropWhile_all {α : Type} (p : α → Bool) (l : List α) : (l.dropWhile p).all p = l.all p := by
  induction l with
  | nil => rfl
  | cons a t ih => cases h : p a <;> simp [h, ih]
theorem trim_all (l : List UInt8) : (Lib.trimS l beginL).isEmpty = l.all beginB := by
  have hp : (fun x => beginL.contains x) = beginB := funext begin_iff
  unfold Lib.trimS Lib.trimLeftS Lib.trimRightS
  rw [hp, dropWhile_empty, List.all_reverse, dropWhile_all, List.all_reverse]
theorem cany_mark {b : ByteArray} (h : PieceOk b) : Lib.containsAny b.data.toList [40, 41, 34, 42] = markB (headB b) := by
  obtain ⟨c, r, hc, hm⟩ := h
  have hh : headB b = c := by unfold headB; rw [hc]; rfl
  rw [hh]
  have hmk : ∀ x : UInt8, [40, 41, 34, 42].contains x = markB x := by
    intro x
    unfold markB
    simp only [List.contains_cons, List.contains_nil, Bool.or_false, Bool.or_assoc]
  unfold Lib.containsAny
  cases hmc : markB c
  · have hall : (c :: r).all (fun x => !signB x) = true := by
      rcases hm with h | h
      · rw [hmc] at h; cases h
      · exact h
    rw [Lib.indexAny_none]
    · decide
    · intro j x _ hx
      rw [hmk, Bool.eq_false_iff]
      intro h2
      rw [hc] at hx
      have h3 := List.all_eq_true.1 hall x (List.mem_of_getElem? hx)
      have h4 : signB x = true := by
        unfold markB at h2
        unfold signB
        simp only [Bool.or_eq_true, beq_iff_eq] at *
        rcases h2 with ((h | h) | h) | h
        · exact .inl (.inl (.inl (.inr h)))
        · exact .inl (.inl (.inr h))
        · exact .inl (.inr h)
        · exact .inr h
      rw [h4] at h3
      cases h3
  · rw [Lib.indexAny_hit (Lib.NoAny.zero _ _) (x := c) (by rw [hc]; rfl) (by rw [hmk]; exact hmc)]
    rfl
set_option maxRecDepth 100000 in
set_option maxHeartbeats 1600000 in
theorem one_open (N d : Nat) (hd : d ≤ 12) (anyR : List ByteArray → Rd) (hless : ∀ l q r, anyR l = .ok q r → Less r l) (hany : ∀ (l' : List ByteArray) (w' : World), InP N w' l' → Calls Tryd.prog 76 #[.pointer (some ⟨N, 0, none⟩), .int .i64 ((d : Int) + 1)] w' (QPost N w' (anyR l')))
    (t : List ByteArray) (w : World) (h : InP N w (⟨#[40]⟩ :: t)) :
    Calls Tryd.prog 118 #[.pointer (some ⟨N, 0, none⟩), .int .i64 d] w (QPost N w (match anyR t with | .bad n => .bad n | .ok q r => if pkB r = sShut then .ok q r.tail else .bad 3)) := by
  obtain ⟨hP, hl, hps, hE, hN⟩ := h
  have hnx := next_t N _ hl w hP
  have htk := take_yes N ⟨#[40]⟩ t hl w hP
  have gd : decide ((12 : Int) < (d : Int)) = false := by simp; omega
  rw [show pkB ((⟨#[40]⟩ : ByteArray) :: t) = ⟨#[40]⟩ from rfl] at hnx
  have HANY := Lib.hid hany
  have HPS := Lib.hid hps
  have HE := Lib.hid hE
  have hl' : t.length ≤ 1000 := by simp at hl; omega
  clear hany hps hE hP
  cases hA : anyR t with
  | bad n =>
    have HA := Lib.hid hA
    clear hA
    go_enter Tryd.func118, Tryd.ntmps118
    go_wp2_with (first | (go_at_call 77; refine hnx.mono ?_; rintro e w1 ⟨rfl, rfl⟩) | (go_at_call 98; refine htk.mono ?_; rintro e w2 ⟨rfl, hp2, hg2⟩))
    refine (HANY.out t _ ⟨hp2, hl', fun p hp => HPS.out p (List.mem_cons_of_mem _ hp), HE.out.grN hg2 hN, hN⟩).mono ?_
    rw [HA.out]
    rintro e w3 ⟨rfl, hg3⟩
    unfold Thrown
    have hg := hg2.trans hg3
    go_wp2_with fail
    exact ⟨rfl, rfl, hg⟩
  | ok q r =>
    have HA := Lib.hid hA
    have hlr := hless t q r hA
    have hlr2 : r.length ≤ 1000 := by have := hlr.2; omega
    clear hA hlr
    show Calls _ _ _ _ (QPost N w (if pkB r = sShut then Rd.ok q r.tail else Rd.bad 3))
    generalize hR : (if pkB r = sShut then Rd.ok q r.tail else Rd.bad 3) = R
    have HR := Lib.hid hR
    clear hR
    go_enter Tryd.func118, Tryd.ntmps118
    go_wp2_with (first | (go_at_call 77; refine hnx.mono ?_; rintro e w1 ⟨rfl, rfl⟩) | (go_at_call_of 98 (Value.string ⟨#[40]⟩); refine htk.mono ?_; rintro e w2 ⟨rfl, hp2, hg2⟩))
    refine (HANY.out t _ ⟨hp2, hl', fun p hp => HPS.out p (List.mem_cons_of_mem _ hp), HE.out.grN hg2 hN, hN⟩).mono ?_
    rw [HA.out]
    rintro e w3 ⟨b, rfl, hq3, hp3, hg3⟩
    have hg := hg2.trans hg3
    by_cases hs : pkB r = sShut
    · have e := HR.out
      rw [if_pos hs] at e
      subst e
      obtain ⟨a, r', rfl, ha⟩ := pk_cons (l := r) (by rw [hs]; decide)
      obtain rfl : a = ⟨#[41]⟩ := ha.symm.trans hs
      have htk2 := take_yes N ⟨#[41]⟩ r' hlr2 _ hp3
      clear hs ha
      go_wp2_with (first | (go_at_call_of 98 (Value.string ⟨#[41]⟩); refine htk2.mono ?_; rintro e w4 ⟨rfl, hp4, hg4⟩))
      go_ret
      exact ⟨b, rfl, QAt.grN hg4 q b hq3, hp4, hg.trans hg4⟩
    · have e := HR.out
      rw [if_neg hs] at e
      subst e
      have htk2 := take_no N r ⟨#[41]⟩ hlr2 _ hp3 hs
      clear hs
      go_wp2_with (first | (go_at_call_of 98 (Value.string ⟨#[41]⟩); refine htk2.mono ?_; rintro e w4 ⟨rfl, rfl⟩) | (go_at_call 78; refine (fail_t 3 _).mono ?_; rintro e w6 ⟨rfl, rfl⟩; unfold Thrown))
      exact ⟨rfl, rfl, hg⟩
set_option maxRecDepth 100000 in
set_option maxHeartbeats 1600000 in
theorem one_star (N d : Nat) (hd : d ≤ 12) (s : ByteArray) (t : List ByteArray) (w : World) (h : InP N w (s :: ⟨#[42]⟩ :: t)) (hf : Free s) (ho : s ≠ sOpen) (c0 : UInt8) (r : List UInt8) (hr : s.data.toList = c0 :: r) (h34 : c0 ≠ 34) :
    Calls Tryd.prog 118 #[.pointer (some ⟨N, 0, none⟩), .int .i64 d] w (QPost N w (if (smallS s).data.toList.all beginB = true ∧ s.size ≤ 12 then .ok (.leaf 2 [smallS s] 0) t else .bad 3)) := by
  obtain ⟨hP, hl, hps, hE, hN⟩ := h
  have hnx := next_t N _ hl w hP
  have htk := take_no N _ ⟨#[40]⟩ hl w hP ho
  have gd : decide ((12 : Int) < (d : Int)) = false := by simp; omega
  have hsz := (hps s (by simp)).2
  obtain ⟨ao, c, ao', c', p1, p2, p3, p4⟩ := hP.rest
  generalize hm : ((⟨#[42]⟩ : ByteArray) :: t).length = m at p1 p3 p4
  have hcp := cutp_no s c0 r hr h34
  have hg1 : GrN N w (w.setCell ⟨N, 0, none⟩ (.slice ao' m c')) := GrX.setCell _ _ rfl
  have htk2 := take_yes N ⟨#[42]⟩ t (by simp at hl ⊢; omega) _ p4
  have hlN := lt_of_cell p1
  obtain ⟨n0, n1, n2, n3, n4, n5, n6⟩ := hf
  rw [show pkB (s :: (⟨#[42]⟩ : ByteArray) :: t) = s from rfl] at hnx
  have hsm := small_t s (by omega)
  have htr : ∀ W, Calls Tryd.prog 126 #[.string (smallS s), .string ⟨#[97, 98, 99, 100, 101, 102, 103, 104, 105, 106, 107, 108, 109, 110, 111, 112, 113, 114, 115, 116, 117, 118, 119, 120, 121, 122, 48, 49, 50, 51, 52, 53, 54, 55, 56, 57]⟩] W (Ret W (.string (bsL (Lib.trimS (smallS s).data.toList beginL)))) := fun W =>
    Any.strings_Trim_laid Tryd.lays160 (by kernel_rfl) (smallS s) ⟨#[97, 98, 99, 100, 101, 102, 103, 104, 105, 106, 107, 108, 109, 110, 111, 112, 113, 114, 115, 116, 117, 118, 119, 120, 121, 122, 48, 49, 50, 51, 52, 53, 54, 55, 56, 57]⟩ W (by rw [smallS_size]; omega) (by decide) (fun j b h => (by decide : ∀ b ∈ beginL, b.toNat < 128) b (List.mem_of_getElem? h))
  have hem : (bsL (Lib.trimS (smallS s).data.toList beginL)).toList.isEmpty = (smallS s).data.toList.all beginB := by
    rw [ByteArray.toList_eq, bsL_data]
    exact trim_all _
  generalize bsL (Lib.trimS (smallS s).data.toList beginL) = tr at *
  generalize hR : (if (smallS s).data.toList.all beginB = true ∧ s.size ≤ 12 then Rd.ok (Qy.leaf 2 [smallS s] 0) t else Rd.bad 3) = R
  have HR := Lib.hid hR
  clear hR hP hps hE hr p4
  generalize (smallS s).data.toList.all beginB = bb at *
  by_cases hgood : bb = true ∧ s.size ≤ 12
  · obtain ⟨rfl, h12⟩ := hgood
    have e := HR.out
    rw [if_pos ⟨rfl, h12⟩] at e
    subst e
    have g12 : decide ((12 : Int) < (s.size : Int)) = false := by simp; omega
    go_enter Tryd.func118, Tryd.ntmps118
    go_wp2_with (first | (go_at_call 77; refine hnx.mono ?_; rintro e w1 ⟨rfl, rfl⟩) | (go_at_call_of 98 (Value.string ⟨#[40]⟩); refine htk.mono ?_; rintro e w1 ⟨rfl, rfl⟩) | (go_at_call 125; refine (hcp _).mono ?_; rintro e w1 ⟨rfl, rfl⟩) | (go_at_call_of 98 (Value.string ⟨#[42]⟩); refine htk2.mono ?_; rintro e w2 ⟨rfl, PC, hg2⟩; have GN := hg1.trans hg2; clear hg2) | (go_at_call 10; refine (hsm _).mono ?_; rintro e w3 ⟨rfl, hg3⟩; have GN := GN.trans (GrX.of_gr hg3); have PC := PC.gr hg3; clear hg3) | (go_at_call 126; refine (htr _).mono ?_; rintro e w4 ⟨rfl, hg4⟩; have GN := GN.trans (GrX.of_gr hg4); have PC := PC.gr hg4; clear hg4))
    go_ret
    have hN3 : N < w3.heap.size := Nat.lt_of_lt_of_le hlN GN.2.2.2.1
    have hq := leaf_new (N := N) (w := w3.alloc (.cells #[.string (smallS s)] 9)) 2 0 (words_one (smallS s) hN3 9) (by simp; omega) 140
    rw [show (w3.alloc (.cells #[.string (smallS s)] 9)).heap.size = w3.heap.size + 1 by simp] at hq
    have hga : Gr w3 ((w3.alloc (.cells #[.string (smallS s)] 9)).alloc (.cells #[.int .i64 2, .slice (some ⟨w3.heap.size, 0, none⟩) 1 1, .int .i64 0, .pointer none, .pointer none] 140)) := ((Gr.refl w3).alloc _).alloc _
    exact ⟨w3.heap.size + 1, rfl, hq, PC.gr hga, GN.trans (GrX.of_gr hga)⟩
  · have e := HR.out
    rw [if_neg hgood] at e
    subst e
    cases bb
    · clear hgood
      go_enter Tryd.func118, Tryd.ntmps118
      go_wp2_with (first | (go_at_call 77; refine hnx.mono ?_; rintro e w1 ⟨rfl, rfl⟩) | (go_at_call_of 98 (Value.string ⟨#[40]⟩); refine htk.mono ?_; rintro e w1 ⟨rfl, rfl⟩) | (go_at_call 125; refine (hcp _).mono ?_; rintro e w1 ⟨rfl, rfl⟩) | (go_at_call_of 98 (Value.string ⟨#[42]⟩); refine htk2.mono ?_; rintro e w2 ⟨rfl, PC, hg2⟩; have GN := hg1.trans hg2; clear hg2) | (go_at_call 10; refine (hsm _).mono ?_; rintro e w3 ⟨rfl, hg3⟩; have GN := GN.trans (GrX.of_gr hg3); have PC := PC.gr hg3; clear hg3) | (go_at_call 126; refine (htr _).mono ?_; rintro e w4 ⟨rfl, hg4⟩; have GN := GN.trans (GrX.of_gr hg4); have PC := PC.gr hg4; clear hg4) | (go_at_call 78; refine (fail_t 3 _).mono ?_; rintro e w6 ⟨rfl, rfl⟩; unfold Thrown))
      exact ⟨rfl, rfl, GN⟩
    · have g12 : decide ((12 : Int) < (s.size : Int)) = true := by
        simp only [true_and] at hgood
        simp
        omega
      clear hgood
      go_enter Tryd.func118, Tryd.ntmps118
      go_wp2_with (first | (go_at_call 77; refine hnx.mono ?_; rintro e w1 ⟨rfl, rfl⟩) | (go_at_call_of 98 (Value.string ⟨#[40]⟩); refine htk.mono ?_; rintro e w1 ⟨rfl, rfl⟩) | (go_at_call 125; refine (hcp _).mono ?_; rintro e w1 ⟨rfl, rfl⟩) | (go_at_call_of 98 (Value.string ⟨#[42]⟩); refine htk2.mono ?_; rintro e w2 ⟨rfl, PC, hg2⟩; have GN := hg1.trans hg2; clear hg2) | (go_at_call 10; refine (hsm _).mono ?_; rintro e w3 ⟨rfl, hg3⟩; have GN := GN.trans (GrX.of_gr hg3); have PC := PC.gr hg3; clear hg3) | (go_at_call 126; refine (htr _).mono ?_; rintro e w4 ⟨rfl, hg4⟩; have GN := GN.trans (GrX.of_gr hg4); have PC := PC.gr hg4; clear hg4) | (go_at_call 78; refine (fail_t 3 _).mono ?_; rintro e w6 ⟨rfl, rfl⟩; unfold Thrown))
      exact ⟨rfl, rfl, GN⟩
end Go.Proofs.YthenhglpljdhfaaDoor
