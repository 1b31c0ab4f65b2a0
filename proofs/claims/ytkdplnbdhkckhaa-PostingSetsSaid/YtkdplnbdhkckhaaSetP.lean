/-
  Lists that rise, each member once: two of them with the same members are one.
-/
import Derived.Test.YtkdplnbdhkckhaaPostP
namespace Go.Proofs.Ytkdplnbdhkckhaa
open Go Go.RowKit

/-- An order that parts any two. -/
structure Parts {α : Type} (lt : α → α → Bool) : Prop where
  irrefl : ∀ x, lt x x = false
  trans : ∀ x y z, lt x y = true → lt y z = true → lt x z = true
  tri : ∀ x y, lt x y = false → lt y x = false → x = y
def Rising {α : Type} (lt : α → α → Bool) (l : List α) : Prop := l.Pairwise fun x y => lt x y = true
def Weakly {α : Type} (lt : α → α → Bool) (l : List α) : Prop := l.Pairwise fun x y => lt y x = false
/-- Of equals that stand side by side, one. -/
def squeeze {α : Type} [DecidableEq α] : List α → List α
  | [] => []
  | [a] => [a]
  | a :: b :: t => if a = b then squeeze (b :: t) else a :: squeeze (b :: t)
theorem squeeze_mem {α : Type} [DecidableEq α] (x : α) : ∀ l : List α, x ∈ squeeze l ↔ x ∈ l
  | [] => Iff.rfl
  | [a] => Iff.rfl
  | a :: b :: t => by
    have ih := squeeze_mem x (b :: t)
    unfold squeeze
    split
    · rename_i h
      subst h
      rw [ih]
      simp
    · rw [List.mem_cons, ih]
      exact List.mem_cons.symm
theorem squeeze_head {α : Type} [DecidableEq α] (a : α) (t : List α) : ∃ u, squeeze (a :: t) = a :: u := by
  induction t generalizing a with
  | nil => exact ⟨[], rfl⟩
  | cons b t ih =>
    unfold squeeze
    split
    · rename_i h
      subst h
      exact ih a
    · exact ⟨_, rfl⟩
theorem squeeze_rising {α : Type} [DecidableEq α] {lt : α → α → Bool} (P : Parts lt) : ∀ l : List α, Weakly lt l → Rising lt (squeeze l)
  | [], _ => List.Pairwise.nil
  | [a], _ => List.pairwise_singleton _ _
  | a :: b :: t, h => by
    obtain ⟨h1, h2⟩ := List.pairwise_cons.1 h
    have ih := squeeze_rising P (b :: t) h2
    unfold squeeze
    split
    · exact ih
    · rename_i hne
      refine List.pairwise_cons.2 ⟨fun y hy => ?_, ih⟩
      have hy' : y ∈ b :: t := (squeeze_mem y (b :: t)).1 hy
      have hba := h1 b List.mem_cons_self
      have hab : lt a b = true := by
        cases hx : lt a b with
        | true => rfl
        | false => exact absurd (P.tri a b hx hba) hne
      rcases List.mem_cons.1 hy' with rfl | hy''
      · exact hab
      · have hyb := (List.pairwise_cons.1 h2).1 y hy''
        cases hx : lt b y with
        | true => exact P.trans a b y hab hx
        | false =>
          have := P.tri b y hx hyb
          subst this
          exact hab
theorem rising_eq {α : Type} {lt : α → α → Bool} (P : Parts lt) : ∀ l m : List α, Rising lt l → Rising lt m → (∀ x, x ∈ l ↔ x ∈ m) → l = m
  | [], [], _, _, _ => rfl
  | [], b :: t, _, _, h => absurd ((h b).2 List.mem_cons_self) (by simp)
  | a :: t, [], _, _, h => absurd ((h a).1 List.mem_cons_self) (by simp)
  | a :: l, b :: m, hl, hm, h => by
    obtain ⟨hl1, hl2⟩ := List.pairwise_cons.1 hl
    obtain ⟨hm1, hm2⟩ := List.pairwise_cons.1 hm
    have hab : a = b := by
      rcases List.mem_cons.1 ((h a).1 List.mem_cons_self) with e | h1
      · exact e
      · rcases List.mem_cons.1 ((h b).2 List.mem_cons_self) with e | h2
        · exact e.symm
        · have h3 := P.trans a b a (hl1 b h2) (hm1 a h1)
          rw [P.irrefl a] at h3
          cases h3
    subst hab
    congr 1
    refine rising_eq P l m hl2 hm2 fun x => ⟨fun hx => ?_, fun hx => ?_⟩
    · rcases List.mem_cons.1 ((h x).1 (List.mem_cons_of_mem _ hx)) with e | h1
      · have h3 := hl1 x hx
        rw [e, P.irrefl a] at h3
        cases h3
      · exact h1
    · rcases List.mem_cons.1 ((h x).2 (List.mem_cons_of_mem _ hx)) with e | h1
      · have h3 := hm1 x hx
        rw [e, P.irrefl a] at h3
        cases h3
      · exact h1
theorem Rising.weakly {α : Type} {lt : α → α → Bool} (P : Parts lt) {l : List α} (h : Rising lt l) : Weakly lt l :=
  h.imp fun {x y} hxy => by
    cases hx : lt y x with
    | false => rfl
    | true =>
      have := P.trans x y x hxy hx
      rw [P.irrefl x] at this
      cases this
/-- The members of a list, rising, each once. -/
def setOf {α : Type} [DecidableEq α] (lt : α → α → Bool) (l : List α) : List α := squeeze (l.mergeSort fun x y => !lt y x)
theorem setOf_mem {α : Type} [DecidableEq α] (lt : α → α → Bool) (l : List α) (x : α) : x ∈ setOf lt l ↔ x ∈ l := by
  unfold setOf
  rw [squeeze_mem, List.mem_mergeSort]
theorem mergeSort_weakly {α : Type} {lt : α → α → Bool} (P : Parts lt) (l : List α) : Weakly lt (l.mergeSort fun x y => !lt y x) := by
  have h := List.pairwise_mergeSort (le := fun x y => !lt y x) (by
    intro a b c h1 h2
    simp only [Bool.not_eq_true'] at *
    cases hca : lt c a with
    | false => rfl
    | true =>
      cases hbc : lt b c with
      | true =>
        have := P.trans b c a hbc hca
        rw [h1] at this
        cases this
      | false =>
        have := P.tri c b h2 hbc
        subst this
        rw [h1] at hca
        cases hca) (by
    intro a b
    cases hba : lt b a with
    | false => simp
    | true =>
      have : lt a b = false := by
        cases hab : lt a b with
        | false => rfl
        | true =>
          have := P.trans a b a hab hba
          rw [P.irrefl a] at this
          cases this
      simp [this]) l
  exact h.imp fun {x y} hxy => by simpa using hxy
theorem setOf_rising {α : Type} [DecidableEq α] {lt : α → α → Bool} (P : Parts lt) (l : List α) : Rising lt (setOf lt l) := squeeze_rising P _ (mergeSort_weakly P l)
/-- Whatever rises and has a list's members is its set. -/
theorem setOf_eq {α : Type} [DecidableEq α] {lt : α → α → Bool} (P : Parts lt) {l m : List α} (h : Rising lt m) (hm : ∀ x, x ∈ m ↔ x ∈ l) : m = setOf lt l :=
  rising_eq P _ _ h (setOf_rising P l) fun x => (hm x).trans (setOf_mem lt l x).symm
theorem squeeze_set {α : Type} [DecidableEq α] {lt : α → α → Bool} (P : Parts lt) {l m : List α} (h : Weakly lt m) (hm : ∀ x, x ∈ m ↔ x ∈ l) : squeeze m = setOf lt l :=
  setOf_eq P (squeeze_rising P m h) fun x => (squeeze_mem x m).trans (hm x)
theorem parts_place : Parts beforeB where
  irrefl x := by simp [beforeB]
  trans x y z h1 h2 := by rw [before_iff] at *; omega
  tri x y h1 h2 := by
    have h3 : ¬ (x.1 < y.1 ∨ x.1 = y.1 ∧ x.2 < y.2) := fun h => by rw [before_iff.2 h] at h1; cases h1
    have h4 : ¬ (y.1 < x.1 ∨ y.1 = x.1 ∧ y.2 < x.2) := fun h => by rw [before_iff.2 h] at h2; cases h2
    exact Prod.ext (by omega) (by omega)
def lessI (x y : Int) : Bool := decide (x < y)
theorem parts_int : Parts lessI where
  irrefl x := by simp [lessI]
  trans x y z h1 h2 := by simp [lessI] at *; omega
  tri x y h1 h2 := by simp [lessI] at *; omega
/-- Places that may be rise. -/
theorem places_rising {l : List GPlace} (h : placesB l = true) : Rising beforeB l := by
  have step : ∀ k (hk : k + 1 < l.length), beforeB l[k] l[k + 1] = true := by
    intro k hk
    have h1 := placesB_at h (k + 1) hk
    unfold okAt at h1
    simp only [Bool.and_eq_true, Bool.or_eq_true] at h1
    rcases h1.2 with h2 | h2
    · simp at h2
    · simpa [prevAt, List.getD_eq_getElem?_getD, hk, (show k < l.length by omega)] using h2
  have far : ∀ d k (hk : k + d + 1 < l.length), beforeB (l[k]'(by omega)) l[k + d + 1] = true := by
    intro d
    induction d with
    | zero => intro k hk; exact step k hk
    | succ d ih => intro k hk; exact parts_place.trans _ _ _ (ih k (by omega)) (step (k + d + 1) hk)
  rw [Rising, List.pairwise_iff_getElem]
  intro i j hi hj hij
  have := far (j - i - 1) i (by omega)
  simpa [show i + (j - i - 1) + 1 = j by omega] using this
end Go.Proofs.Ytkdplnbdhkckhaa
