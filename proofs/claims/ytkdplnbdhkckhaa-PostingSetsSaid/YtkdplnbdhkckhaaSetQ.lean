/-
  The two ways to follow and to be near come to the same: plain.
-/
import Derived.Test.YtkdplnbdhkckhaaSetT
namespace Go.Proofs.Ytkdplnbdhkckhaa
open Go Go.RowKit

theorem places_in {l : List GPlace} (h : placesB l = true) {p : GPlace} (hp : p ∈ l) : 1 ≤ p.1 ∧ p.1 ≤ 1073741824 ∧ 0 ≤ p.2 ∧ p.2 ≤ 1073741823 := by
  obtain ⟨i, hi, rfl⟩ := List.getElem_of_mem hp
  have h1 := placesB_at h i hi
  unfold okAt at h1
  rw [Bool.and_eq_true, inP_iff] at h1
  simpa [List.getD_eq_getElem?_getD, hi] using h1.1
theorem wrap_small (n : Int) (h0 : -4611686018427387904 ≤ n) (h1 : n ≤ 4611686018427387904) : IntKind.i64.wrap n = n := by
  rw [IntKind.wrap_i64]
  omega
/-- Whether the second place stands right behind the first, as the reference counts. -/
def followT (p q : GPlace) : Bool := p.1 == q.1 && decide (q.2 = IntKind.i64.wrap (p.2 + 1))
def followOut1 (xs : List GPlace) (q : GPlace) : List GPlace := (xs.filter fun p => followT p q).map fun _ => q
def followOut (xs ys : List GPlace) : List GPlace := ys.flatMap (followOut1 xs)
theorem follow_eq {xs ys : List GPlace} (hx : placesB xs = true) (hy : placesB ys = true) : setOf beforeB (followOut xs ys) = ys.filter (fun x => !!aheadW xs x) := by
  refine (setOf_eq parts_place ?_ ?_).symm
  · exact (places_rising hy).filter _
  · intro q
    unfold followOut followOut1
    simp only [List.mem_filter, List.mem_flatMap, List.mem_map, Bool.not_not, aheadW, decide_eq_true_eq]
    constructor
    · rintro ⟨hq, hm⟩
      have h1 := places_in hx hm
      have h2 := places_in hy hq
      simp only at h1
      rw [wrap_small _ (by omega) (by omega)] at hm h1
      refine ⟨q, hq, (q.1, q.2 - 1), ⟨hm, ?_⟩, rfl⟩
      unfold followT
      simp only [beq_self_eq_true, Bool.true_and, decide_eq_true_eq]
      rw [wrap_small _ (by omega) (by omega)]
      omega
    · rintro ⟨q', hq, p, ⟨hp, hf⟩, rfl⟩
      have h1 := places_in hx hp
      have h2 := places_in hy hq
      unfold followT at hf
      simp only [Bool.and_eq_true, beq_iff_eq, decide_eq_true_eq] at hf
      obtain ⟨e1, e2⟩ := hf
      rw [wrap_small _ (by omega) (by omega)] at e2
      refine ⟨hq, ?_⟩
      rw [wrap_small _ (by omega) (by omega), e2, ← e1, Int.add_sub_cancel]
      exact hp
theorem near_same {far : Int} {p q : GPlace} (hp : 1 ≤ p.1 ∧ p.1 ≤ 1073741824 ∧ 0 ≤ p.2 ∧ p.2 ≤ 1073741823) (hq : 1 ≤ q.1 ∧ q.1 ≤ 1073741824 ∧ 0 ≤ q.2 ∧ q.2 ≤ 1073741823) : nearW far p q = nearT far p q := by
  unfold nearW nearT
  rw [wrap_small (q.2 - p.2) (by omega) (by omega), wrap_small (p.2 - q.2) (by omega) (by omega), wrap_small (-(p.2 - q.2)) (by omega) (by omega), Bool.eq_iff_iff]
  simp only [Bool.and_eq_true, beq_iff_eq, decide_eq_true_eq]
  constructor
  · rintro ⟨h1, h2⟩
    exact ⟨⟨h1.symm, by omega⟩, by omega⟩
  · rintro ⟨⟨h1, h2⟩, h3⟩
    exact ⟨h1.symm, by omega⟩
theorem near_eq {xs ys : List GPlace} (hx : placesB xs = true) (hy : placesB ys = true) (far : Int) : setOf lessI (nearOut far xs ys) = setOf lessI (nearRows far xs ys) := by
  refine (setOf_eq parts_int (setOf_rising parts_int _) fun x => ?_)
  rw [setOf_mem]
  unfold nearRows nearOut nearOut1
  simp only [List.mem_map, List.mem_filter, List.mem_flatMap, List.any_eq_true]
  constructor
  · rintro ⟨p, hp, q, ⟨hq, hn⟩, rfl⟩
    exact ⟨p, ⟨hp, q, hq, by rw [near_same (places_in hx hp) (places_in hy hq)]; exact hn⟩, rfl⟩
  · rintro ⟨p, ⟨hp, q, hq, hn⟩, rfl⟩
    exact ⟨p, hp, q, ⟨hq, by rw [← near_same (places_in hx hp) (places_in hy hq)]; exact hn⟩, rfl⟩
end Go.Proofs.Ytkdplnbdhkckhaa
