/-
  Plain lemmas on the words of a text; no program in sight.
-/
import Derived.Laws.Strings
import Derived.Test.YthenhglpljdhfaaDoorWordT
namespace Go.Proofs.YthenhglpljdhfaaDoor
open Go

/-- Is a byte of a word? -/
def letterB (c : UInt8) : Bool := (decide ((97 : Int) ≤ c.toNat) && decide ((c.toNat : Int) ≤ 122)) || (decide ((65 : Int) ≤ c.toNat) && decide ((c.toNat : Int) ≤ 90)) || (decide ((48 : Int) ≤ c.toNat) && decide ((c.toNat : Int) ≤ 57)) || decide ((127 : Int) < c.toNat)

/-- The longest runs of such bytes, one of them begun. -/
def runsA (p : UInt8 → Bool) (cur : List UInt8) : List UInt8 → List (List UInt8)
  | [] => if cur.isEmpty then [] else [cur]
  | c :: l => if p c then runsA p (cur ++ [c]) l else if cur.isEmpty then runsA p [] l else cur :: runsA p [] l

theorem runs_letters (p : UInt8 → Bool) (x l : List UInt8) (h : x.all p = true) : ∀ cur, runsA p cur (x ++ l) = runsA p (cur ++ x) l := by
  induction x with
  | nil => intro cur; simp
  | cons c x ih =>
    intro cur
    simp only [List.all_cons, Bool.and_eq_true] at h
    rw [List.cons_append, runsA, if_pos h.1, ih h.2]
    simp
theorem runs_stop (p : UInt8 → Bool) (x l : List UInt8) (c : UInt8) (h : x.all p = true) (hx : x ≠ []) (hc : p c = false) : runsA p [] (x ++ c :: l) = x :: runsA p [] l := by
  rw [runs_letters p x _ h, List.nil_append, runsA, if_neg (by simp [hc]), if_neg (by simpa using hx)]
theorem runs_last (p : UInt8 → Bool) (x : List UInt8) (h : x.all p = true) (hx : x ≠ []) : runsA p [] x = [x] := by
  have := runs_letters p x [] h []
  rw [List.append_nil, List.nil_append] at this
  rw [this, runsA, if_neg (by simpa using hx)]
theorem runs_skip (p : UInt8 → Bool) (l : List UInt8) (c : UInt8) (hc : p c = false) : runsA p [] (c :: l) = runsA p [] l := by
  rw [runsA, if_neg (by simp [hc])]; rfl
theorem runs_map (p : UInt8 → Bool) (f : UInt8 → UInt8) (hf : ∀ c, p (f c) = p c) (l : List UInt8) : ∀ cur, runsA p (cur.map f) (l.map f) = (runsA p cur l).map (List.map f) := by
  induction l with
  | nil => intro cur; cases cur <;> simp [runsA]
  | cons c l ih =>
    intro cur
    simp only [List.map_cons, runsA, hf]
    split
    · rw [← ih]; simp
    · have h0 := ih []
      rw [List.map_nil] at h0
      cases cur with
      | nil => simpa using h0
      | cons d cur => simp [h0]
end Go.Proofs.YthenhglpljdhfaaDoor
