/-
  What bytes are as a list of values; no program in sight.
-/
import Derived.Test.YthenhglpljdhfaaDoorVal
import Derived.Lib.Index
import Derived.Lib.IndexMore
import Derived.Lib.IndexBytes
namespace Go.Proofs.YthenhglpljdhfaaDoor
open Go

/-- A number, of bytes with the greatest first. -/
def beN (l : List UInt8) : Nat := l.foldl (fun n c => n * 256 + c.toNat) 0
/-- The first value that bytes are, and what is behind it. -/
def parse1 : List UInt8 → Option (GVal × List UInt8)
  | [] => none
  | k :: s =>
    if k = 1 then some (⟨0, 0, ⟨#[]⟩⟩, s)
    else if k = 2 then (if s.length < 8 then none else some (⟨1, (beN (s.take 8) : Int) - 9223372036854775808, ⟨#[]⟩⟩, s.drop 8))
    else if k = 3 then (if s.all (· != 0) then none else if 40 < (s.takeWhile (· != 0)).length then none else some (⟨2, 0, ⟨(s.takeWhile (· != 0)).toArray⟩⟩, s.drop ((s.takeWhile (· != 0)).length + 1)))
    else none
def readF : Nat → List UInt8 → Option (List GVal)
  | 0, [] => some []
  | 0, _ :: _ => none
  | _ + 1, [] => some []
  | n + 1, c :: s => match parse1 (c :: s) with
    | none => none
    | some (v, r) => (readF n r).map (v :: ·)
/-- The list that bytes are. -/
def readL (l : List UInt8) : Option (List GVal) := readF l.length l

theorem parse1_lt {l r : List UInt8} {v : GVal} (h : parse1 l = some (v, r)) : r.length < l.length := by
  cases l with
  | nil => cases h
  | cons k s =>
    rw [parse1] at h
    by_cases h1 : k = 1
    · rw [if_pos h1] at h
      simp only [Option.some.injEq, Prod.mk.injEq] at h
      rw [← h.2]; simp
    rw [if_neg h1] at h
    by_cases h2 : k = 2
    · rw [if_pos h2] at h
      by_cases h3 : s.length < 8
      · rw [if_pos h3] at h; cases h
      · rw [if_neg h3] at h
        simp only [Option.some.injEq, Prod.mk.injEq] at h
        rw [← h.2]; simp; omega
    rw [if_neg h2] at h
    by_cases h3 : k = 3
    · rw [if_pos h3] at h
      by_cases h4 : s.all (· != 0) = true
      · rw [if_pos h4] at h; cases h
      · rw [if_neg h4] at h
        by_cases h5 : 40 < (s.takeWhile (· != 0)).length
        · rw [if_pos h5] at h; cases h
        · rw [if_neg h5] at h
          simp only [Option.some.injEq, Prod.mk.injEq] at h
          rw [← h.2]; simp; omega
    rw [if_neg h3] at h
    cases h
theorem readF_eq : ∀ (n m : Nat) (l : List UInt8), l.length ≤ n → l.length ≤ m → readF n l = readF m l := by
  intro n
  induction n with
  | zero =>
    intro m l hn _
    have : l = [] := List.eq_nil_of_length_eq_zero (by omega)
    subst this
    cases m <;> rfl
  | succ n ih =>
    intro m l hn hm
    cases l with
    | nil => cases m <;> rfl
    | cons c s =>
      cases m with
      | zero => simp at hm
      | succ m =>
        simp only [readF]
        cases hp : parse1 (c :: s) with
        | none => rfl
        | some p =>
          obtain ⟨v, r⟩ := p
          have hlt := parse1_lt hp
          simp only [List.length_cons] at hlt hn hm
          simp only
          rw [ih m r (by omega) (by omega)]
theorem readL_none (c : UInt8) (s : List UInt8) (h : parse1 (c :: s) = none) : readL (c :: s) = none := by
  unfold readL
  simp only [List.length_cons, readF, h]
theorem readL_some (c : UInt8) (s r : List UInt8) (v : GVal) (h : parse1 (c :: s) = some (v, r)) : readL (c :: s) = (readL r).map (v :: ·) := by
  have hlt := parse1_lt h
  simp only [List.length_cons] at hlt
  unfold readL
  simp only [List.length_cons, readF, h]
  rw [readF_eq s.length r.length r (by omega) (Nat.le_refl _)]

theorem index_zero (l : List UInt8) : Lib.index l [0] = if l.all (· != 0) then -1 else ((l.takeWhile (· != 0)).length : Int) := by
  induction l with
  | nil => rfl
  | cons b l ih =>
    rw [Lib.index]
    by_cases hb : b = 0
    · subst hb
      simp
    · have h1 : [(0 : UInt8)].isPrefixOf (b :: l) = false := by
        simp [List.isPrefixOf]
        exact fun h => hb h.symm
      rw [h1, ih]
      have h2 : (b != 0) = true := by simpa using hb
      simp only [List.all_cons, h2, Bool.true_and, List.takeWhile_cons]
      by_cases ha : l.all (· != 0) = true
      · simp [ha]
      · simp only [ha]
        simp
theorem cut_none (l : List UInt8) (h : l.all (· != 0) = true) : Lib.cut l [0] = (l, [], false) := by
  unfold Lib.cut
  rw [index_zero, if_pos h, if_neg (by decide)]
theorem cut_some (l : List UInt8) (h : l.all (· != 0) = false) : Lib.cut l [0] = (l.takeWhile (· != 0), l.drop ((l.takeWhile (· != 0)).length + 1), true) := by
  unfold Lib.cut
  rw [index_zero, h]
  simp only [Bool.false_eq_true, if_false]
  rw [if_pos (by omega), Int.toNat_natCast]
  congr 1
  exact (List.prefix_iff_eq_take.1 (List.takeWhile_prefix _)).symm
theorem tw_all (l : List UInt8) : (l.takeWhile (· != 0)).all (· != 0) = true := by
  induction l with
  | nil => rfl
  | cons b l ih =>
    rw [List.takeWhile_cons]
    split
    · rename_i h; rw [List.all_cons, ih, h]; rfl
    · rfl
end Go.Proofs.YthenhglpljdhfaaDoor
