/-
  Plain lemmas on lists of bytes and their order; no program in sight.
-/
import Derived.Lib.Bytealg
import Derived.Lib.IndexLaws
import Derived.Laws.Strings
namespace Go.Proofs.YthenhglpljdhfaaDoor
open Go

theorem cmpB_less (a b : List UInt8) : Op.bytesLess a b = true ↔ Lib.compareBytes a b = -1 := by
  induction a generalizing b with
  | nil => cases b <;> simp [Op.bytesLess, Lib.compareBytes]
  | cons x xs ih =>
    cases b with
    | nil => simp [Op.bytesLess, Lib.compareBytes]
    | cons y ys =>
      simp only [Op.bytesLess, Lib.compareBytes, Bool.or_eq_true, decide_eq_true_eq, Bool.and_eq_true, beq_iff_eq, ih]
      by_cases h1 : x < y
      · simp [h1]
      · by_cases h2 : y < x
        · have : x ≠ y := by rintro rfl; exact h1 h2
          simp [h1, h2, this]
        · have : x = y := UInt8.le_antisymm (UInt8.not_lt.1 h2) (UInt8.not_lt.1 h1)
          simp [this]
theorem cmpB_zero (a b : List UInt8) : Lib.compareBytes a b = 0 ↔ a = b := by
  induction a generalizing b with
  | nil => cases b <;> simp [Lib.compareBytes]
  | cons x xs ih =>
    cases b with
    | nil => simp [Lib.compareBytes]
    | cons y ys =>
      simp only [Lib.compareBytes, List.cons.injEq]
      by_cases h1 : x < y
      · have : x ≠ y := by rintro rfl; exact UInt8.lt_irrefl _ h1
        simp [h1, this]
      · by_cases h2 : y < x
        · have : x ≠ y := by rintro rfl; exact h1 h2
          simp [h1, h2, this]
        · have : x = y := UInt8.le_antisymm (UInt8.not_lt.1 h2) (UInt8.not_lt.1 h1)
          simp [this, ih]
theorem cmpB_range (a b : List UInt8) : Lib.compareBytes a b = -1 ∨ Lib.compareBytes a b = 0 ∨ Lib.compareBytes a b = 1 := by
  induction a generalizing b with
  | nil => cases b <;> simp [Lib.compareBytes]
  | cons x xs ih =>
    cases b with
    | nil => simp [Lib.compareBytes]
    | cons y ys =>
      simp only [Lib.compareBytes]
      split
      · simp
      · split
        · simp
        · exact ih ys
theorem cmpB_eq (a b : List UInt8) : Lib.compareBytes a b = if Op.bytesLess a b = true then -1 else if a = b then 0 else 1 := by
  split
  · rename_i h; exact (cmpB_less a b).1 h
  · rename_i h
    split
    · rename_i h2; exact (cmpB_zero a b).2 h2
    · rename_i h2
      rcases cmpB_range a b with h3 | h3 | h3
      · exact absurd ((cmpB_less a b).2 h3) h
      · exact absurd ((cmpB_zero a b).1 h3) h2
      · exact h3
theorem less_irrefl (a : List UInt8) : Op.bytesLess a a = false := by
  rw [Bool.eq_false_iff]
  intro h
  have h1 := (cmpB_less a a).1 h
  have h2 := (cmpB_zero a a).2 rfl
  omega
end Go.Proofs.YthenhglpljdhfaaDoor
