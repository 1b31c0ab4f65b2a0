/-
  What is written is read: plain.
-/
import Derived.Test.YtpgnjjagjlggkaaPostP
import Derived.Test.YtpgnjjagjlggkaaPostVX
namespace Go.Proofs.Ytpgnjjagjlggkaa
open Go Go.RowKit

theorem getF_seven : ∀ (k n : Nat) (r : List UInt8), n < 128 ^ k → 0 < k → getF k (sevenB n ++ r) = some (n, r)
  | 0, _, _, _, h => absurd h (Nat.lt_irrefl 0)
  | k + 1, n, r, hn, _ => by
    by_cases h : n < 128
    · rw [sevenB_small n h]
      have hc : n.toUInt8.toNat = n := by simp; omega
      simp [getF, hc, h]
    · rw [sevenB_big n h]
      have hc : (128 + n % 128).toUInt8.toNat = 128 + n % 128 := by simp; omega
      have hk : 0 < k := by
        rcases Nat.eq_zero_or_pos k with rfl | hk
        · simp at hn
          omega
        · exact hk
      have ih := getF_seven k (n / 128) r (by rw [Nat.div_lt_iff_lt_mul (by omega)]; rw [Nat.pow_succ] at hn; exact hn) hk
      rw [List.cons_append]
      unfold getF
      rw [hc, if_neg (by omega), ih]
      simp
      omega
theorem sevenB_pos (n : Nat) : 1 ≤ (sevenB n).length := by
  by_cases h : n < 128
  · rw [sevenB_small n h]
    simp
  · rw [sevenB_big n h]
    simp
def encAll (a : GPlace) : List GPlace → List UInt8
  | [] => []
  | p :: t => encP a p ++ encAll p t
theorem encP_pos (a p : GPlace) : 1 ≤ (encP a p).length := by
  unfold encP
  split
  · exact sevenB_pos _
  · rw [List.length_append]
    have := sevenB_pos (2 * (p.1 - a.1) + 1).toNat
    omega
theorem encAll_len : ∀ (xs : List GPlace) (a : GPlace), xs.length ≤ (encAll a xs).length
  | [], _ => Nat.le_refl _
  | p :: t, a => by
    have := encAll_len t p
    have := encP_pos a p
    unfold encAll
    rw [List.length_append, List.length_cons]
    omega
theorem enc_range : ∀ (xs : List GPlace) (a : GPlace), ((List.range xs.length).flatMap fun i => encP (match i with | 0 => a | k + 1 => xs.getD k (0, 0)) (xs.getD i (0, 0))) = encAll a xs
  | [], a => rfl
  | p :: t, a => by
    have ih := enc_range t p
    rw [List.length_cons, List.range_succ_eq_map, List.flatMap_cons, List.flatMap_map]
    unfold encAll
    rw [← ih]
    congr 1
    have : ∀ i, (match i + 1 with | 0 => a | k + 1 => (p :: t).getD k (0, 0)) = (match i with | 0 => p | k + 1 => t.getD k (0, 0)) := fun i => by
      cases i <;> simp
    refine congrArg (fun f => List.flatMap f (List.range t.length)) (funext fun i => ?_)
    cases i <;> simp
theorem writeP_all (xs : List GPlace) : writeP xs = encAll (0, 0) xs := by
  rw [← enc_range xs (0, 0)]
  unfold writeP wrP
  refine congrArg (fun f => List.flatMap f (List.range xs.length)) (funext fun i => ?_)
  cases i <;> rfl
def Chain (a : GPlace) : List GPlace → Prop
  | [] => True
  | p :: t => (0 ≤ a.1 ∧ 0 ≤ a.2 ∧ p.1 ≤ 1073741824 ∧ 0 ≤ p.2 ∧ p.2 ≤ 1073741823 ∧ a.1 ≤ p.1 ∧ (a.1 = p.1 → a.2 ≤ p.2)) ∧ Chain p t
theorem chain_of {xs : List GPlace} (h : placesB xs = true) : Chain (0, 0) xs := by
  have key : ∀ m k, k + m = xs.length → Chain (prevAt xs k) (xs.drop k) := by
    intro m
    induction m with
    | zero =>
      intro k hk
      rw [List.drop_of_length_le (by omega)]
      trivial
    | succ m ih =>
      intro k hk
      have hlt : k < xs.length := by omega
      have ih' := ih (k + 1) (by omega)
      have hg : xs.getD k (0, 0) = xs[k] := by simp [List.getD_eq_getElem?_getD, hlt]
      obtain ⟨b1, b2, b3, b4, b5, b6, b7⟩ := enc_bounds hlt (fun i hi => placesB_at h i (by omega))
      rw [List.drop_eq_getElem_cons hlt]
      rw [hg] at b1 b6 b7
      have hi := inP_iff.1 b1
      refine ⟨⟨b2, b4, hi.2.1, hi.2.2.1, hi.2.2.2, b6, b7⟩, ?_⟩
      have : prevAt xs (k + 1) = xs[k] := hg
      rw [← this]
      exact ih'
  have := key xs.length 0 (by omega)
  simpa [prevAt] using this
theorem rd_all : ∀ (xs : List GPlace) (a : GPlace), Chain a xs → rdL a (encAll a xs) = some xs
  | [], a, _ => rdL_nil a
  | p :: t, a, h => by
    obtain ⟨⟨h1, h2, h3, h4, h5, h6, h7⟩, ht⟩ := h
    have ih := rd_all t p ht
    obtain ⟨p1, p2⟩ := p
    obtain ⟨a1, a2⟩ := a
    simp only at h1 h2 h3 h4 h5 h6 h7
    unfold encAll encP
    simp only
    by_cases he : p1 = a1
    · subst he
      rw [if_pos rfl]
      have hd := h7 rfl
      have hg := getF_seven 5 (2 * (p2 - a2)).toNat (encAll (p1, p2) t) (by omega) (by omega)
      rw [rdL_even hg (by omega)]
      have e : (p1, a2 + (((2 * (p2 - a2)).toNat / 2 : Nat) : Int)) = (p1, p2) := by
        congr 1
        omega
      simp only
      rw [e, ih]
      rfl
    · rw [if_neg he, List.append_assoc]
      have hg := getF_seven 5 (2 * (p1 - a1) + 1).toNat (sevenB p2.toNat ++ encAll (p1, p2) t) (by omega) (by omega)
      have hg2 := getF_seven 5 p2.toNat (encAll (p1, p2) t) (by omega) (by omega)
      rw [rdL_odd hg (by omega) hg2]
      have e : (a1 + (((2 * (p1 - a1) + 1).toNat / 2 : Nat) : Int), ((p2.toNat : Nat) : Int)) = (p1, p2) := by
        congr 1 <;> omega
      simp only
      rw [e, ih]
      rfl
/-- What is written of places that may be is read as they were. -/
theorem read_write {xs : List GPlace} (h : placesB xs = true) : readP (writeP xs) = some xs := by
  unfold readP
  rw [writeP_all, rd_all xs (0, 0) (chain_of h)]
  simp [h, writeP_all]
theorem write_len (xs : List GPlace) : xs.length ≤ (writeP xs).length := by
  rw [writeP_all]
  exact encAll_len xs (0, 0)
end Go.Proofs.Ytpgnjjagjlggkaa
