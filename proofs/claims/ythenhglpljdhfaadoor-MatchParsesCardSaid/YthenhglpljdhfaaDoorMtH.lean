/-
  concordanceref.asker.one at a beginning.
-/
import Derived.Test.YthenhglpljdhfaaDoorMtF
namespace Go.Proofs.YthenhglpljdhfaaDoor
open Go Go.RowKit

/-- The first j letters may begin a word. -/
def goodTo (s : ByteArray) (j : Nat) : Prop := ((smallS s).data.toList.take j).all beginB = true ∧ (j = 0 ∨ s.size ≤ 12)
theorem good_succ (s : ByteArray) (j : Nat) (hj : j < (smallS s).size) : goodTo s (j + 1) ↔ goodTo s j ∧ beginB (smallS s)[j] = true ∧ s.size ≤ 12 := by
  unfold goodTo
  have hl : j < (smallS s).data.toList.length := by rw [← size_data]; exact hj
  rw [List.take_succ_eq_append_getElem hl, List.all_append, get_data _ _ hj]
  simp only [Bool.and_eq_true, List.all_cons, List.all_nil, Bool.and_true, Nat.add_eq_zero_iff, Nat.one_ne_zero, and_false, false_or]
  constructor
  · rintro ⟨⟨h1, h2⟩, h3⟩
    exact ⟨⟨h1, .inr h3⟩, h2, h3⟩
  · rintro ⟨⟨h1, _⟩, h2, h3⟩
    exact ⟨⟨h1, h2⟩, h3⟩
theorem good_all (s : ByteArray) (_h : 0 < s.size) : goodTo s s.size ↔ ((smallS s).data.toList.all beginB = true ∧ s.size ≤ 12) := by
  unfold goodTo
  rw [List.take_of_length_le (by rw [← size_data, smallS_size]; exact Nat.le_refl _)]
  constructor
  · rintro ⟨h1, h2⟩
    exact ⟨h1, by omega⟩
  · rintro ⟨h1, h2⟩
    exact ⟨h1, .inr h2⟩
theorem begin_at (c : UInt8) : beginB c = true ↔ ((97 : Int) ≤ c.toNat ∧ (c.toNat : Int) ≤ 122) ∨ ((48 : Int) ≤ c.toNat ∧ (c.toNat : Int) ≤ 57) := by
  unfold beginB
  simp only [Bool.or_eq_true, Bool.and_eq_true, decide_eq_true_eq, UInt8.le_iff_toNat_le]
  constructor
  · rintro (⟨h1, h2⟩ | ⟨h1, h2⟩)
    · exact .inl ⟨by have : (97 : UInt8).toNat = 97 := rfl; omega, by have : (122 : UInt8).toNat = 122 := rfl; omega⟩
    · exact .inr ⟨by have : (48 : UInt8).toNat = 48 := rfl; omega, by have : (57 : UInt8).toNat = 57 := rfl; omega⟩
  · rintro (⟨h1, h2⟩ | ⟨h1, h2⟩)
    · exact .inl ⟨by have : (97 : UInt8).toNat = 97 := rfl; omega, by have : (122 : UInt8).toNat = 122 := rfl; omega⟩
    · exact .inr ⟨by have : (48 : UInt8).toNat = 48 := rfl; omega, by have : (57 : UInt8).toNat = 57 := rfl; omega⟩
set_option maxRecDepth 100000 in
set_option maxHeartbeats 1600000 in
theorem rone_star (N d : Nat) (hd : d ≤ 12) (s : ByteArray) (t : List ByteArray) (w : World) (h : InA N w (s :: (⟨#[42]⟩ : ByteArray) :: t)) (hf : Free s) (ho : s ≠ sOpen) (c0 : UInt8) (r : List UInt8) (hr : s.data.toList = c0 :: r) (h34 : c0 ≠ 34) :
    Calls Tryd.prog 112 #[.pointer (some ⟨N, 0, none⟩), .int .i64 d] w (RPost N w (if (smallS s).data.toList.all beginB = true ∧ s.size ≤ 12 then .ok (.leaf 2 [smallS s] 0) t else .bad 3)) := by
  obtain ⟨hA, hl, hps⟩ := h
  have hpk := peek_t N (s :: (⟨#[42]⟩ : ByteArray) :: t) hl w hA
  have hlN := lt_of_cell hA.2.1
  have hgw : Gr w (w.alloc (.cells #[.int .i64 0, .slice none 0 0, .pointer none, .pointer none] 138)) := (Gr.refl w).alloc _
  have AC := hA.gr hgw
  have GN : GrN N w (w.alloc (.cells #[.int .i64 0, .slice none 0 0, .pointer none, .pointer none] 138)) := GrX.of_gr hgw
  have gd : decide ((12 : Int) < (d : Int)) = false := by simp; omega
  have hsz := (hps s (by simp)).2
  have h0 : 0 < s.size := by rw [size_data, hr]; simp
  have hq : (((s[0].toNat : Nat) : Int) == 34) = false := (byteEq s[0] 34).trans (by
    rw [get_data s 0 h0]
    simpa [hr] using h34)
  have hlt : ((⟨#[42]⟩ : ByteArray) :: t).length ≤ 1000 := by simp at hl ⊢; omega
  obtain ⟨n0, n1, n2, n3, n4, n5, n6⟩ := hf
  have n7 := tl_ne (s := s) (k := [40]) ho
  rw [show pkB (s :: (⟨#[42]⟩ : ByteArray) :: t) = s from rfl] at hpk
  have hsm := small_ref s (by omega)
  have hss : (smallS s).size = s.size := smallS_size s
  generalize hR : (if (smallS s).data.toList.all beginB = true ∧ s.size ≤ 12 then Rd.ok (Qy.leaf 2 [smallS s] 0) t else Rd.bad 3) = R
  have HR := Lib.hid hR
  clear hps hA hr hR
  go_enter Tryd.func112, Tryd.ntmps112
  go_wp2_with (first | (go_at_call 113; with_reducible refine hpk.mono ?_; rintro e w1 ⟨rfl, rfl⟩) | (go_at_call_of 95 (Value.string s); refine (atake_yes N s ((⟨#[42]⟩ : ByteArray) :: t) hl _ AC).mono ?_; rintro e w3 ⟨rfl, AC, hg3⟩; have GN := GN.trans hg3; clear hg3) | (go_at_call_of 95 (Value.string ⟨#[42]⟩); refine (atake_yes N ⟨#[42]⟩ t hlt _ AC).mono ?_; rintro e w4 ⟨rfl, AC, hg4⟩; have GN := GN.trans hg4; clear hg4))
  go_loopw [21] (fun k w' => ∃ (j : Nat) (bad : Int), j ≤ s.size ∧ k = .int .i64 j ∧ AAt N w' t bad ∧ GrN N w1 w' ∧ (bad = 0 ∨ bad = 3) ∧ (bad = 0 ↔ goodTo s j)) (fun k _ => s.size - (intOf k).toNat)
  case atStart => exact ⟨0, 0, Nat.zero_le _, rfl, AC, GN, .inl rfl, by simp [goodTo]⟩
  case round =>
    obtain ⟨j, bad, hj, rfl, hA, hg, hb03, hiff⟩ := hrel
    have HA := Lib.hid hA
    have HI := Lib.hid hiff
    clear hA hiff AC GN
    by_cases hlt2 : j < s.size
    · have hju : j < (smallS s).size := by omega
      have hgs := good_succ s j hju
      have hba := begin_at (smallS s)[j]
      have HGS := Lib.hid hgs
      have HBA := Lib.hid hba
      have hx := UInt8.toNat_lt (smallS s)[j]
      clear hgs hba
      generalize smallS s = u at *
      go_wp2_with (first | (go_at_call 11; refine (hsm _).mono ?_; rintro e w5 ⟨rfl, hg5⟩; have AC4 := HA.out.gr hg5; have GN4 := hg.trans (GrX.of_gr hg5); clear hg5) | (go_at_call 73; refine (fails_t N t bad 3 _ AC4).mono ?_; rintro e w6 ⟨rfl, AC5, hg6⟩; have GN5 := GN4.trans hg6; clear hg6))
      all_goals first
        | (have hno : ¬ (beginB u[j] = true ∧ s.size ≤ 12) := (by rw [HBA.out]; omega)
           have hn3 : notedB bad 3 = 3 := (by unfold notedB; rcases hb03 with rfl | rfl <;> rfl)
           rw [hn3] at AC5
           exact ⟨⟨j + 1, 3, by omega, by go_num, AC5, GN5, .inr rfl, ⟨fun h => absurd h (by decide), fun h => absurd (HGS.out.1 h).2 hno⟩⟩, by simp [intOf]; omega⟩)
        | (have hyes : beginB u[j] = true ∧ s.size ≤ 12 := (by rw [HBA.out]; omega)
           exact ⟨⟨j + 1, bad, by omega, by go_num, AC4, GN4, hb03, HI.out.trans ⟨fun h => HGS.out.2 ⟨h, hyes⟩, fun h => (HGS.out.1 h).1⟩⟩, by simp [intOf]; omega⟩)
    · obtain rfl : j = s.size := by omega
      have hga := good_all s h0
      have hN5 : N < wr.heap.size := Nat.lt_of_lt_of_le hlN hg.2.2.2.1
      have hiff := HI.out.trans hga
      clear hga
      rcases hb03 with rfl | rfl
      · have hgood := hiff.1 rfl
        have e := HR.out
        rw [if_pos hgood] at e
        subst e
        clear hiff hgood
        generalize smallS s = u at *
        go_wp2_with (go_at_call 11; refine (hsm _).mono ?_; rintro e w5 ⟨rfl, hg5⟩; have AC4 := HA.out.gr hg5; have GN4 := hg.trans (GrX.of_gr hg5); have hN5 := Nat.lt_of_lt_of_le hN5 hg5.size; clear hg5)
        go_ret
        have hga : Gr w5 ((w5.alloc (.cells #[.string u] 9)).alloc (.cells #[.int .i64 2, .slice (some ⟨w5.heap.size, 0, none⟩) 1 1, .pointer none, .pointer none] 138)) := ((Gr.refl w5).alloc _).alloc _
        have hq := rleaf_new (N := N) (w := w5.alloc (.cells #[.string u] 9)) 2 0 (words_one u hN5 9) (by simp; omega) 138
        rw [show (w5.alloc (.cells #[.string u] 9)).heap.size = w5.heap.size + 1 by simp] at hq
        exact ⟨_, rfl, hq, AC4.gr hga, GN4.trans (GrX.of_gr hga)⟩
      · have hbad : ¬ ((smallS s).data.toList.all beginB = true ∧ s.size ≤ 12) := fun h => absurd (hiff.2 h) (by decide)
        have e := HR.out
        rw [if_neg hbad] at e
        subst e
        clear hiff hbad
        generalize smallS s = u at *
        go_wp2_with (go_at_call 11; refine (hsm _).mono ?_; rintro e w5 ⟨rfl, hg5⟩; have AC4 := HA.out.gr hg5; have GN4 := hg.trans (GrX.of_gr hg5); have hN5 := Nat.lt_of_lt_of_le hN5 hg5.size; clear hg5)
        go_ret
        have hga : Gr w5 ((w5.alloc (.cells #[.string u] 9)).alloc (.cells #[.int .i64 2, .slice (some ⟨w5.heap.size, 0, none⟩) 1 1, .pointer none, .pointer none] 138)) := ((Gr.refl w5).alloc _).alloc _
        exact ⟨_, t, rfl, AC4.gr hga, by decide, GN4.trans (GrX.of_gr hga)⟩
end Go.Proofs.YthenhglpljdhfaaDoor
