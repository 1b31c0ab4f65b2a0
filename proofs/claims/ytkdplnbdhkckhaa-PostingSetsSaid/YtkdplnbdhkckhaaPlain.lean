/-
  Plain lemmas on lists of bytes and their order; no program in sight.
-/
import Derived.Lib.Bytealg
import Derived.Lib.IndexLaws
import Derived.Laws.Strings
import Derived.Laws.BitsLemmas
import Derived.WalkKit
namespace Go.Proofs.Ytkdplnbdhkckhaa
open Go

theorem cmpB_less (a b : List UInt8) : Op.bytesLess a b = true ↔ Lib.compareBytes a b = -1 := by
  induction a generalizing b with
  | nil => cases b <;> simp [Op.bytesLess, Lib.compareBytes]
  | cons x xs ih =>
    cases b with
    | nil => simp [Op.bytesLess, Lib.compareBytes]
    | cons y ys =>
      simp only [Op.bytesLess, Lib.compareBytes, Bool.or_eq_true, decide_eq_true_eq, Bool.and_eq_true, beq_iff_eq, ih]
      by_cases h1 : x < y
      · simp [h1]
      · by_cases h2 : y < x
        · have : x ≠ y := by rintro rfl; exact h1 h2
          simp [h1, h2, this]
        · have : x = y := UInt8.le_antisymm (UInt8.not_lt.1 h2) (UInt8.not_lt.1 h1)
          simp [this]
theorem cmpB_zero (a b : List UInt8) : Lib.compareBytes a b = 0 ↔ a = b := by
  induction a generalizing b with
  | nil => cases b <;> simp [Lib.compareBytes]
  | cons x xs ih =>
    cases b with
    | nil => simp [Lib.compareBytes]
    | cons y ys =>
      simp only [Lib.compareBytes, List.cons.injEq]
      by_cases h1 : x < y
      · have : x ≠ y := by rintro rfl; exact UInt8.lt_irrefl _ h1
        simp [h1, this]
      · by_cases h2 : y < x
        · have : x ≠ y := by rintro rfl; exact h1 h2
          simp [h1, h2, this]
        · have : x = y := UInt8.le_antisymm (UInt8.not_lt.1 h2) (UInt8.not_lt.1 h1)
          simp [this, ih]
theorem cmpB_range (a b : List UInt8) : Lib.compareBytes a b = -1 ∨ Lib.compareBytes a b = 0 ∨ Lib.compareBytes a b = 1 := by
  induction a generalizing b with
  | nil => cases b <;> simp [Lib.compareBytes]
  | cons x xs ih =>
    cases b with
    | nil => simp [Lib.compareBytes]
    | cons y ys =>
      simp only [Lib.compareBytes]
      split
      · simp
      · split
        · simp
        · exact ih ys
theorem cmpB_eq (a b : List UInt8) : Lib.compareBytes a b = if Op.bytesLess a b = true then -1 else if a = b then 0 else 1 := by
  split
  · rename_i h; exact (cmpB_less a b).1 h
  · rename_i h
    split
    · rename_i h2; exact (cmpB_zero a b).2 h2
    · rename_i h2
      rcases cmpB_range a b with h3 | h3 | h3
      · exact absurd ((cmpB_less a b).2 h3) h
      · exact absurd ((cmpB_zero a b).1 h3) h2
      · exact h3
theorem less_irrefl (a : List UInt8) : Op.bytesLess a a = false := by
  rw [Bool.eq_false_iff]
  intro h
  have h1 := (cmpB_less a a).1 h
  have h2 := (cmpB_zero a a).2 rfl
  omega
theorem xor_top (y : Nat) (h : y < 2 ^ 63) : 2 ^ 63 + y = 2 ^ 63 ^^^ y := by
  apply Nat.eq_of_testBit_eq
  intro i
  rw [Nat.testBit_xor]
  rcases Nat.lt_trichotomy i 63 with hi | hi | hi
  · rw [Nat.testBit_two_pow_add_gt hi, Nat.testBit_two_pow_of_ne (by omega)]
    simp
  · subst hi
    rw [Nat.testBit_two_pow_add_eq, Nat.testBit_two_pow_self]
    simp
  · rw [Nat.testBit_two_pow_of_ne (by omega), Nat.testBit_lt_two_pow (x := y) (Nat.lt_trans h (Nat.pow_lt_pow_right (by omega) hi)), Nat.testBit_lt_two_pow]
    · rfl
    · have : 2 ^ 64 ≤ 2 ^ i := Nat.pow_le_pow_right (by omega) hi
      omega
theorem ofInt_64 (a : Nat) (ha : a < 18446744073709551616) : (BitVec.ofInt 64 (a : Int)).toNat = a := by
  rw [BitVec.ofInt_natCast, BitVec.toNat_ofNat]; exact Nat.mod_eq_of_lt ha
theorem bits_top (n : Int) (h1 : -9223372036854775808 ≤ n) (h2 : n ≤ 9223372036854775807) : bits BinOp.xor IntKind.u64 (IntKind.u64.wrap n) 9223372036854775808 = ((n + 9223372036854775808).toNat : Int) := by
  have hw : IntKind.u64.wrap n = (((n % 18446744073709551616).toNat : Nat) : Int) := by
    simp only [IntKind.wrap_u64]
    omega
  rw [hw]
  generalize hx : (n % 18446744073709551616).toNat = x
  have hxl : x < 18446744073709551616 := by omega
  show IntKind.u64.wrap ((BitVec.ofInt 64 (x : Int) ^^^ BitVec.ofInt 64 ((9223372036854775808 : Nat) : Int)).toNat : Int) = _
  rw [BitVec.toNat_xor, ofInt_64 x hxl, ofInt_64 _ (by omega), IntKind.wrap_u64]
  have e : x ^^^ 9223372036854775808 = (n + 9223372036854775808).toNat := by
    rcases Nat.lt_or_ge x 9223372036854775808 with h | h
    · have := xor_top x h
      rw [Nat.xor_comm, show (9223372036854775808 : Nat) = 2 ^ 63 from rfl, ← this]
      omega
    · obtain ⟨y, rfl⟩ := Nat.exists_eq_add_of_le h
      have := xor_top y (by omega)
      rw [show (9223372036854775808 : Nat) = 2 ^ 63 from rfl, this, Nat.xor_comm (2 ^ 63) y, Nat.xor_assoc, Nat.xor_self, Nat.xor_zero]
      omega
  rw [e]
  omega
end Go.Proofs.Ytkdplnbdhkckhaa
