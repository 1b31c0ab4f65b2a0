/-
  Sets of places are sets: plain.
-/
import Derived.Test.YtpgnjjagjlggkaaSetP
import Derived.Test.YtpgnjjagjlggkaaSetF
namespace Go.Proofs.Ytpgnjjagjlggkaa
open Go Go.RowKit

theorem placesB_of {l : List GPlace} (hr : Rising beforeB l) (hi : ∀ x ∈ l, inP x = true) : placesB l = true := by
  refine placesB_true fun k hk => ?_
  have hg : l.getD k (0, 0) = l[k] := by simp [List.getD_eq_getElem?_getD, hk]
  unfold okAt
  rw [hg, hi _ (List.getElem_mem hk), Bool.true_and]
  cases k with
  | zero => rfl
  | succ k =>
    have hg' : prevAt l (k + 1) = l[k]'(by omega) := by
      show l.getD k (0, 0) = _
      simp [List.getD_eq_getElem?_getD, show k < l.length by omega]
    rw [hg', (List.pairwise_iff_getElem.1 hr) k (k + 1) (by omega) hk (by omega)]
    simp
theorem placesB_in {l : List GPlace} (h : placesB l = true) : ∀ x ∈ l, inP x = true := by
  intro x hx
  obtain ⟨k, hk, rfl⟩ := List.mem_iff_getElem.1 hx
  have := placesB_at h k hk
  unfold okAt at this
  rw [Bool.and_eq_true] at this
  have hg : l.getD k (0, 0) = l[k] := by simp [List.getD_eq_getElem?_getD, hk]
  rw [hg] at this
  exact this.1
theorem set_right {a b : List GPlace} (ha : placesB a = true) (hb : placesB b = true) : placesB (setOf beforeB (a ++ b)) = true :=
  placesB_of (setOf_rising parts_place _) fun x hx => by
    rw [setOf_mem, List.mem_append] at hx
    rcases hx with hx | hx
    · exact placesB_in ha x hx
    · exact placesB_in hb x hx
theorem filter_right {a : List GPlace} (ha : placesB a = true) (f : GPlace → Bool) : placesB (a.filter f) = true :=
  placesB_of ((places_rising ha).sublist List.filter_sublist) fun x hx => placesB_in ha x (List.mem_filter.1 hx).1
theorem set_eq {l m : List GPlace} (h : ∀ x, x ∈ l ↔ x ∈ m) : setOf beforeB l = setOf beforeB m :=
  setOf_eq parts_place (setOf_rising parts_place l) fun x => (setOf_mem beforeB l x).trans (h x)
theorem set_self {l m : List GPlace} (hl : placesB l = true) (h : ∀ x, x ∈ m ↔ x ∈ l) : setOf beforeB m = l :=
  (setOf_eq parts_place (places_rising hl) fun x => (h x).symm).symm
theorem set_comm (a b : List GPlace) : setOf beforeB (a ++ b) = setOf beforeB (b ++ a) := set_eq fun x => by simp [or_comm]
theorem set_more {a b : List GPlace} (ha : placesB a = true) (hb : placesB b = true) : setOf beforeB (setOf beforeB (a ++ b) ++ a) = setOf beforeB (a ++ b) :=
  set_self (set_right ha hb) fun x => by
    rw [List.mem_append, setOf_mem, List.mem_append]
    constructor
    · rintro (h | h)
      · exact h
      · exact .inl h
    · exact .inl
theorem set_nil {a : List GPlace} (ha : placesB a = true) : setOf beforeB (a ++ []) = a := set_self ha fun x => by simp
theorem set_filter {a b : List GPlace} (ha : placesB a = true) (hb : placesB b = true) (f : GPlace → Bool) : (setOf beforeB (a ++ b)).filter f = setOf beforeB (a.filter f ++ b.filter f) := by
  refine (set_self (filter_right (set_right ha hb) f) fun x => ?_).symm
  rw [List.mem_append, List.mem_filter, List.mem_filter, List.mem_filter, setOf_mem, List.mem_append]
  constructor
  · rintro (⟨h1, h2⟩ | ⟨h1, h2⟩)
    · exact ⟨.inl h1, h2⟩
    · exact ⟨.inr h1, h2⟩
  · rintro ⟨h1 | h1, h2⟩
    · exact .inl ⟨h1, h2⟩
    · exact .inr ⟨h1, h2⟩
theorem set_follow (b : List GPlace) (f : GPlace → Bool) : setOf beforeB (b ++ b.filter f) = setOf beforeB (b ++ []) := set_eq fun x => by
  simp only [List.mem_append, List.mem_filter, List.not_mem_nil, or_false]
  constructor
  · rintro (h | h)
    · exact h
    · exact h.1
  · exact .inl
theorem rising_len : ∀ m l : List Int, Rising lessI l → Rising lessI m → (∀ x ∈ l, x ∈ m) → l.length ≤ m.length
  | [], [], _, _, _ => Nat.le_refl _
  | [], a :: l, _, _, h => absurd (h a List.mem_cons_self) (by simp)
  | b :: t, [], _, _, _ => by simp
  | b :: t, a :: l, hl, hm, h => by
    obtain ⟨hl1, hl2⟩ := List.pairwise_cons.1 hl
    obtain ⟨hm1, hm2⟩ := List.pairwise_cons.1 hm
    by_cases e : a = b
    · subst e
      have := rising_len t l hl2 hm2 fun x hx => by
        rcases List.mem_cons.1 (h x (List.mem_cons_of_mem _ hx)) with e | h1
        · have h3 := hl1 x hx
          rw [e, parts_int.irrefl a] at h3
          cases h3
        · exact h1
      simp only [List.length_cons]
      omega
    · have ha : a ∈ t := by
        rcases List.mem_cons.1 (h a List.mem_cons_self) with e1 | h1
        · exact absurd e1 e
        · exact h1
      have := rising_len t (a :: l) hl hm2 fun x hx => by
        rcases List.mem_cons.1 (h x hx) with e1 | h1
        · have hba := hm1 a ha
          rcases List.mem_cons.1 hx with e2 | h2
          · exact absurd (e2.symm.trans e1) e
          · have h3 := hl1 x h2
            rw [e1] at h3
            have := parts_int.trans _ _ _ hba h3
            rw [parts_int.irrefl b] at this
            cases this
        · exact h1
      simp only [List.length_cons] at *
      omega
theorem near_more (a b : List GPlace) : (setOf lessI (nearRows 0 a b)).length ≤ (setOf lessI (nearRows 5 a b)).length :=
  rising_len _ _ (setOf_rising parts_int _) (setOf_rising parts_int _) fun x hx => by
    rw [setOf_mem] at hx ⊢
    unfold nearRows at *
    rw [List.mem_map] at hx ⊢
    obtain ⟨p, hp, e⟩ := hx
    refine ⟨p, ?_, e⟩
    rw [List.mem_filter] at hp ⊢
    refine ⟨hp.1, ?_⟩
    have h2 := hp.2
    rw [List.any_eq_true] at h2 ⊢
    obtain ⟨q, hq, hn⟩ := h2
    refine ⟨q, hq, ?_⟩
    unfold nearW at *
    simp only [Bool.and_eq_true, decide_eq_true_eq] at *
    exact ⟨hn.1, by omega⟩
theorem near_self (b : List GPlace) (f : GPlace → Bool) : nearRows 0 (b.filter f) b = (b.filter f).map (·.1) := by
  unfold nearRows
  congr 1
  rw [List.filter_eq_self]
  intro p hp
  rw [List.any_eq_true]
  refine ⟨p, (List.mem_filter.1 hp).1, ?_⟩
  unfold nearW
  rw [Int.sub_self, IntKind.wrap_i64]
  simp
end Go.Proofs.Ytpgnjjagjlggkaa
