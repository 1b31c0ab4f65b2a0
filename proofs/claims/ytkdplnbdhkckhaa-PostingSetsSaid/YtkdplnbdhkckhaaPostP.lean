/-
  Places and how they are written; no program in sight.
-/
import Derived.WalkKit
namespace Go.Proofs.Ytkdplnbdhkckhaa
open Go

/-- A place: its row, and where. -/
abbrev GPlace : Type := Int × Int
def GPlace.val (p : GPlace) : Value := .agg #[.int .i64 p.1, .int .i64 p.2]
def beforeB (a b : GPlace) : Bool := decide (a.1 < b.1) || (a.1 == b.1 && decide (a.2 < b.2))
def inP (p : GPlace) : Bool := decide (1 ≤ p.1) && decide (p.1 ≤ 1073741824) && decide (0 ≤ p.2) && decide (p.2 ≤ 1073741823)
/-- The place ahead of the k-th. -/
def prevAt (l : List GPlace) : Nat → GPlace
  | 0 => (0, 0)
  | k + 1 => l.getD k (0, 0)
def okAt (l : List GPlace) (k : Nat) : Bool := inP (l.getD k (0, 0)) && (k == 0 || beforeB (prevAt l k) (l.getD k (0, 0)))
def placesB (l : List GPlace) : Bool := (List.range l.length).all (okAt l)
/-- A number, seven bits a byte. -/
def sevenB (n : Nat) : List UInt8 := if n < 128 then [n.toUInt8] else (128 + n % 128).toUInt8 :: sevenB (n / 128)
termination_by n
decreasing_by omega
def encP (a p : GPlace) : List UInt8 := if p.1 = a.1 then sevenB (2 * (p.2 - a.2)).toNat else sevenB (2 * (p.1 - a.1) + 1).toNat ++ sevenB p.2.toNat
def wrP (l : List GPlace) (k : Nat) : List UInt8 := (List.range k).flatMap fun i => encP (prevAt l i) (l.getD i (0, 0))
def writeP (l : List GPlace) : List UInt8 := wrP l l.length

theorem wrP_succ (l : List GPlace) (k : Nat) : wrP l (k + 1) = wrP l k ++ encP (prevAt l k) (l.getD k (0, 0)) := by
  unfold wrP
  rw [List.range_succ, List.flatMap_append]
  simp
theorem placesB_false {l : List GPlace} {k : Nat} (hk : k < l.length) (h : okAt l k = false) : placesB l = false := by
  unfold placesB
  rw [List.all_eq_false]
  exact ⟨k, List.mem_range.2 hk, by rw [h]; simp⟩
theorem placesB_true {l : List GPlace} (h : ∀ k, k < l.length → okAt l k = true) : placesB l = true := by
  unfold placesB
  rw [List.all_eq_true]
  intro k hk
  exact h k (List.mem_range.1 hk)
theorem placesB_at {l : List GPlace} (h : placesB l = true) (k : Nat) (hk : k < l.length) : okAt l k = true := by
  unfold placesB at h
  rw [List.all_eq_true] at h
  exact h k (List.mem_range.2 hk)
theorem inP_iff {p : GPlace} : inP p = true ↔ 1 ≤ p.1 ∧ p.1 ≤ 1073741824 ∧ 0 ≤ p.2 ∧ p.2 ≤ 1073741823 := by
  unfold inP
  simp [and_assoc]
theorem before_iff {a b : GPlace} : beforeB a b = true ↔ a.1 < b.1 ∨ a.1 = b.1 ∧ a.2 < b.2 := by
  unfold beforeB
  simp
theorem sevenB_small (n : Nat) (h : n < 128) : sevenB n = [n.toUInt8] := by rw [sevenB, if_pos h]
theorem sevenB_big (n : Nat) (h : ¬ n < 128) : sevenB n = (128 + n % 128).toUInt8 :: sevenB (n / 128) := by rw [sevenB, if_neg h]
theorem sevenB_len : ∀ (j n : Nat), n < 128 ^ (j + 1) → (sevenB n).length ≤ j + 1 := by
  intro j
  induction j with
  | zero => intro n h; rw [sevenB_small n (by simpa using h)]; simp
  | succ j ih =>
    intro n h
    by_cases h1 : n < 128
    · rw [sevenB_small n h1]; simp
    · rw [sevenB_big n h1, List.length_cons]
      have := ih (n / 128) (by rw [Nat.div_lt_iff_lt_mul (by omega)]; rw [Nat.pow_succ] at h; exact h)
      omega
/-- What is to be written of a place is in bounds. -/
theorem enc_bounds {l : List GPlace} {k : Nat} (hk : k < l.length) (h : ∀ i, i ≤ k → okAt l i = true) :
    inP (l.getD k (0, 0)) = true ∧ 0 ≤ (prevAt l k).1 ∧ (prevAt l k).1 ≤ 1073741824 ∧ 0 ≤ (prevAt l k).2 ∧ (prevAt l k).2 ≤ 1073741823 ∧
      (prevAt l k).1 ≤ (l.getD k (0, 0)).1 ∧ ((prevAt l k).1 = (l.getD k (0, 0)).1 → (prevAt l k).2 ≤ (l.getD k (0, 0)).2) := by
  have h1 := h k (Nat.le_refl _)
  unfold okAt at h1
  rw [Bool.and_eq_true, inP_iff, Bool.or_eq_true] at h1
  cases k with
  | zero =>
    have e : prevAt l 0 = (0, 0) := rfl
    rw [e, inP_iff]
    refine ⟨h1.1, ?_⟩
    simp only
    omega
  | succ k =>
    have h2 := h k (by omega)
    unfold okAt at h2
    rw [Bool.and_eq_true, inP_iff] at h2
    have h3 : beforeB (prevAt l (k + 1)) (l.getD (k + 1) (0, 0)) = true := by
      rcases h1.2 with h | h
      · simp at h
      · exact h
    rw [before_iff] at h3
    have e : prevAt l (k + 1) = l.getD k (0, 0) := rfl
    rw [e] at h3 ⊢
    rw [inP_iff]
    refine ⟨h1.1, by omega, by omega, by omega, by omega, by omega, by omega⟩
theorem encP_len {a p : GPlace} (h1 : p.1 - a.1 ≤ 1073741824) (h2 : p.2 - a.2 ≤ 1073741824) (h3 : p.2 ≤ 1073741824) : (encP a p).length ≤ 10 := by
  unfold encP
  have e : 128 ^ (4 + 1) = 34359738368 := by decide
  split
  · have := sevenB_len 4 (2 * (p.2 - a.2)).toNat (by rw [e]; omega)
    omega
  · have := sevenB_len 4 (2 * (p.1 - a.1) + 1).toNat (by rw [e]; omega)
    have := sevenB_len 4 p.2.toNat (by rw [e]; omega)
    rw [List.length_append]
    omega
theorem wrP_len {l : List GPlace} : ∀ k, k ≤ l.length → (∀ i, i < k → okAt l i = true) → (wrP l k).length ≤ 10 * k := by
  intro k
  induction k with
  | zero => intro _ _; simp [wrP]
  | succ k ih =>
    intro hk h
    have h1 := ih (by omega) (fun i hi => h i (by omega))
    have h2 := enc_bounds (l := l) (k := k) (by omega) (fun i hi => h i (by omega))
    rw [inP_iff] at h2
    have h3 := encP_len (a := prevAt l k) (p := l.getD k (0, 0)) (by omega) (by omega) (by omega)
    rw [wrP_succ, List.length_append]
    omega

/-- A number that bytes begin with, of at most so many bytes. -/
def getF : Nat → List UInt8 → Option (Nat × List UInt8)
  | 0, _ => none
  | _ + 1, [] => none
  | k + 1, c :: r => if c.toNat < 128 then some (c.toNat, r) else (getF k r).map fun x => (c.toNat - 128 + 128 * x.1, x.2)
theorem getF_lt : ∀ (k : Nat) (l r : List UInt8) (n : Nat), getF k l = some (n, r) → r.length < l.length := by
  intro k
  induction k with
  | zero => intro l r n h; cases h
  | succ k ih =>
    intro l r n h
    cases l with
    | nil => cases h
    | cons c t =>
      rw [getF] at h
      by_cases h1 : c.toNat < 128
      · rw [if_pos h1] at h
        simp only [Option.some.injEq, Prod.mk.injEq] at h
        rw [← h.2]; simp
      · rw [if_neg h1] at h
        cases hg : getF k t with
        | none => rw [hg] at h; cases h
        | some x =>
          rw [hg] at h
          simp only [Option.map_some, Option.some.injEq, Prod.mk.injEq] at h
          have := ih t x.2 x.1 (by rw [hg])
          rw [← h.2, List.length_cons]
          omega
theorem getF_le : ∀ (k : Nat) (l r : List UInt8) (n : Nat), getF k l = some (n, r) → n < 128 ^ k := by
  intro k
  induction k with
  | zero => intro l r n h; cases h
  | succ k ih =>
    intro l r n h
    cases l with
    | nil => cases h
    | cons c t =>
      rw [getF] at h
      by_cases h1 : c.toNat < 128
      · rw [if_pos h1] at h
        simp only [Option.some.injEq, Prod.mk.injEq] at h
        rw [Nat.pow_succ]
        have := Nat.pow_pos (n := k) (show 0 < 128 by omega)
        omega
      · rw [if_neg h1] at h
        cases hg : getF k t with
        | none => rw [hg] at h; cases h
        | some x =>
          rw [hg] at h
          simp only [Option.map_some, Option.some.injEq, Prod.mk.injEq] at h
          have := ih t x.2 x.1 (by rw [hg])
          have h8 := UInt8.toNat_lt c
          rw [Nat.pow_succ]
          omega
/-- All numbers that bytes are. -/
def numsF : Nat → List UInt8 → Option (List Nat)
  | 0, [] => some []
  | 0, _ :: _ => none
  | _ + 1, [] => some []
  | n + 1, c :: s => match getF 5 (c :: s) with
    | none => none
    | some (v, r) => (numsF n r).map (v :: ·)
def numsL (l : List UInt8) : Option (List Nat) := numsF l.length l
theorem numsF_eq : ∀ (n m : Nat) (l : List UInt8), l.length ≤ n → l.length ≤ m → numsF n l = numsF m l := by
  intro n
  induction n with
  | zero =>
    intro m l hn _
    have : l = [] := List.eq_nil_of_length_eq_zero (by omega)
    subst this
    cases m <;> rfl
  | succ n ih =>
    intro m l hn hm
    cases l with
    | nil => cases m <;> rfl
    | cons c s =>
      cases m with
      | zero => simp at hm
      | succ m =>
        simp only [numsF]
        cases hp : getF 5 (c :: s) with
        | none => rfl
        | some p =>
          obtain ⟨v, r⟩ := p
          have hlt := getF_lt 5 _ _ _ hp
          simp only [List.length_cons] at hlt hn hm
          simp only
          rw [ih m r (by omega) (by omega)]
theorem numsL_nil : numsL [] = some [] := rfl
theorem numsL_none {l : List UInt8} (h0 : l ≠ []) (h : getF 5 l = none) : numsL l = none := by
  cases l with
  | nil => exact absurd rfl h0
  | cons c s =>
    unfold numsL
    simp only [List.length_cons, numsF, h]
theorem numsL_some {l r : List UInt8} {v : Nat} (h : getF 5 l = some (v, r)) : numsL l = (numsL r).map (v :: ·) := by
  cases l with
  | nil => cases h
  | cons c s =>
    have hlt := getF_lt 5 _ _ _ h
    simp only [List.length_cons] at hlt
    unfold numsL
    simp only [List.length_cons, numsF, h]
    rw [numsF_eq s.length r.length r (by omega) (Nat.le_refl _)]
/-- The places that numbers are. -/
def placesN : Nat → GPlace → List Nat → Option (List GPlace)
  | 0, _, [] => some []
  | 0, _, _ :: _ => none
  | _ + 1, _, [] => some []
  | f + 1, a, n :: r => if n % 2 = 0 then (placesN f (a.1, a.2 + (n / 2 : Nat)) r).map ((a.1, a.2 + (n / 2 : Nat)) :: ·)
    else match r with
      | [] => none
      | m :: t => (placesN f (a.1 + (n / 2 : Nat), (m : Int)) t).map ((a.1 + (n / 2 : Nat), (m : Int)) :: ·)
theorem placesN_eq : ∀ (f g : Nat) (a : GPlace) (l : List Nat), l.length ≤ f → l.length ≤ g → placesN f a l = placesN g a l := by
  intro f
  induction f with
  | zero =>
    intro g a l hf _
    have : l = [] := List.eq_nil_of_length_eq_zero (by omega)
    subst this
    cases g <;> rfl
  | succ f ih =>
    intro g a l hf hg
    cases l with
    | nil => cases g <;> rfl
    | cons n r =>
      cases g with
      | zero => simp at hg
      | succ g =>
        simp only [List.length_cons] at hf hg
        rw [placesN.eq_def, placesN.eq_def (g + 1)]
        simp only
        by_cases h : n % 2 = 0
        · rw [if_pos h, if_pos h, ih g _ r (by omega) (by omega)]
        · rw [if_neg h, if_neg h]
          cases r with
          | nil => rfl
          | cons m t =>
            simp only [List.length_cons] at hf hg
            simp only
            rw [ih g _ t (by omega) (by omega)]
def placesL (a : GPlace) (l : List Nat) : Option (List GPlace) := placesN l.length a l
theorem placesL_nil (a : GPlace) : placesL a [] = some [] := rfl
theorem placesL_even (a : GPlace) (n : Nat) (r : List Nat) (h : n % 2 = 0) : placesL a (n :: r) = (placesL (a.1, a.2 + (n / 2 : Nat)) r).map ((a.1, a.2 + (n / 2 : Nat)) :: ·) := by
  unfold placesL
  rw [List.length_cons, placesN.eq_def]
  simp only [if_pos h]
theorem placesL_odd (a : GPlace) (n m : Nat) (r : List Nat) (h : ¬ n % 2 = 0) : placesL a (n :: m :: r) = (placesL (a.1 + (n / 2 : Nat), (m : Int)) r).map ((a.1 + (n / 2 : Nat), (m : Int)) :: ·) := by
  unfold placesL
  rw [List.length_cons, placesN, if_neg h]
  simp only [List.length_cons]
  rw [placesN_eq _ r.length _ r (by omega) (Nat.le_refl _)]
theorem placesL_one (a : GPlace) (n : Nat) (h : ¬ n % 2 = 0) : placesL a [n] = none := by
  unfold placesL
  rw [List.length_cons, placesN.eq_def]
  simp only [if_neg h]
/-- The places that bytes are, as they come. -/
def rdL (a : GPlace) (l : List UInt8) : Option (List GPlace) := (numsL l).bind (placesL a)
theorem rdL_nil (a : GPlace) : rdL a [] = some [] := rfl
theorem rdL_none {a : GPlace} {l : List UInt8} (h0 : l ≠ []) (h : getF 5 l = none) : rdL a l = none := by
  unfold rdL
  rw [numsL_none h0 h]; rfl
theorem rdL_even {a : GPlace} {l r : List UInt8} {n : Nat} (h : getF 5 l = some (n, r)) (he : n % 2 = 0) : rdL a l = (rdL (a.1, a.2 + (n / 2 : Nat)) r).map ((a.1, a.2 + (n / 2 : Nat)) :: ·) := by
  unfold rdL
  rw [numsL_some h]
  cases numsL r with
  | none => rfl
  | some x => simp only [Option.map_some, Option.bind_some]; rw [placesL_even a n x he]
theorem rdL_odd_none {a : GPlace} {l r : List UInt8} {n : Nat} (h : getF 5 l = some (n, r)) (he : ¬ n % 2 = 0) (h2 : getF 5 r = none) : rdL a l = none := by
  unfold rdL
  rw [numsL_some h]
  by_cases h0 : r = []
  · rw [h0, numsL_nil]
    simp only [Option.map_some, Option.bind_some]
    exact placesL_one a n he
  · rw [numsL_none h0 h2]; rfl
theorem rdL_odd {a : GPlace} {l r t : List UInt8} {n m : Nat} (h : getF 5 l = some (n, r)) (he : ¬ n % 2 = 0) (h2 : getF 5 r = some (m, t)) : rdL a l = (rdL (a.1 + (n / 2 : Nat), (m : Int)) t).map ((a.1 + (n / 2 : Nat), (m : Int)) :: ·) := by
  unfold rdL
  rw [numsL_some h, numsL_some h2]
  cases numsL t with
  | none => rfl
  | some x => simp only [Option.map_some, Option.bind_some]; rw [placesL_odd a n m x he]
/-- The places that bytes are: 6.1. -/
def readP (l : List UInt8) : Option (List GPlace) := match rdL (0, 0) l with
  | none => none
  | some x => if placesB x && (writeP x == l) then some x else none
end Go.Proofs.Ytkdplnbdhkckhaa
