/-
  A list of values as bytes: each is read as it was, and bytes have the order; no program in sight.
-/
import Derived.Test.YthenhglpljdhfaaDoorReadP
import Derived.Test.YthenhglpljdhfaaDoorValL
namespace Go.Proofs.YthenhglpljdhfaaDoor
open Go

/-- Eight bytes, the greatest first. -/
def be8 (m : Nat) : List UInt8 := [(m / 72057594037927936).toUInt8, (m / 281474976710656).toUInt8, (m / 1099511627776).toUInt8, (m / 4294967296).toUInt8, (m / 16777216).toUInt8, (m / 65536).toUInt8, (m / 256).toUInt8, (m / 1).toUInt8]
theorem be8_length (m : Nat) : (be8 m).length = 8 := rfl
/-- A value as bytes. -/
def keyV (v : GVal) : List UInt8 := if v.kind = 1 then 2 :: be8 (v.num + 9223372036854775808).toNat else if v.kind = 2 then 3 :: (v.text.data.toList ++ [0]) else [1]
def keyL (xs : List GVal) : List UInt8 := xs.flatMap keyV
/-- The first value that may not be. -/
def firstBad : List GVal → Option Nat
  | [] => none
  | v :: xs => if rightB v then (firstBad xs).map (· + 1) else some 0

theorem right_kinds (v : GVal) (h : rightB v = true) : v.kind = 0 ∨ v.kind = 1 ∨ v.kind = 2 := by
  unfold rightB at h
  simp only [Bool.or_eq_true, Bool.and_eq_true, beq_iff_eq] at h
  omega

/-- A value that may be, of a machine's numbers. -/
def FineV (v : GVal) : Prop := rightB v = true ∧ -9223372036854775808 ≤ v.num ∧ v.num ≤ 9223372036854775807
theorem text_nil {s : ByteArray} (h : s.data.toList = []) : s = ⟨#[]⟩ := by
  cases s; simp only [ByteArray.mk.injEq]; exact Array.ext' h
theorem fine_cases (v : GVal) (h : FineV v) : v = ⟨0, 0, ⟨#[]⟩⟩ ∨ (∃ n : Int, v = ⟨1, n, ⟨#[]⟩⟩ ∧ -9223372036854775808 ≤ n ∧ n ≤ 9223372036854775807) ∨ (∃ s : ByteArray, v = ⟨2, 0, s⟩ ∧ s.data.toList.all (· != 0) = true ∧ s.data.toList.length ≤ 40) := by
  obtain ⟨k, n, s⟩ := v
  obtain ⟨h, h1, h2⟩ := h
  unfold rightB at h
  simp only [Bool.or_eq_true, Bool.and_eq_true, beq_iff_eq, decide_eq_true_eq, List.isEmpty_iff] at h
  rcases h with (⟨⟨rfl, rfl⟩, h⟩ | ⟨rfl, h⟩) | ⟨⟨⟨rfl, rfl⟩, h⟩, h3⟩
  · left; rw [text_nil h]
  · right; left; exact ⟨n, by rw [text_nil h], h1, h2⟩
  · right; right; exact ⟨s, rfl, h3, h⟩

theorem beN_be8 (m : Nat) (h : m < 18446744073709551616) : beN (be8 m) = m := by
  unfold beN be8
  simp only [List.foldl_cons, List.foldl_nil, Nat.toUInt8, UInt8.toNat_ofNat']
  omega
theorem takeWhile_stop (x rest : List UInt8) (h : x.all (· != 0) = true) : (x ++ 0 :: rest).takeWhile (· != 0) = x := by
  induction x with
  | nil => rfl
  | cons c x ih =>
    simp only [List.all_cons, Bool.and_eq_true] at h
    rw [List.cons_append, List.takeWhile_cons, if_pos h.1, ih h.2]
theorem parse_key (v : GVal) (rest : List UInt8) (h : FineV v) : parse1 (keyV v ++ rest) = some (v, rest) := by
  rcases fine_cases v h with rfl | ⟨n, rfl, h1, h2⟩ | ⟨s, rfl, hz, hl⟩
  · rfl
  · have hk : keyV ⟨1, n, ⟨#[]⟩⟩ = 2 :: be8 (n + 9223372036854775808).toNat := rfl
    rw [hk, List.cons_append, parse1, if_neg (by decide), if_pos rfl, if_neg (by rw [List.length_append, be8_length]; omega),
      List.take_append_of_le_length (by rw [be8_length]; omega), List.take_of_length_le (by rw [be8_length]; omega), beN_be8 _ (by omega), List.drop_append_of_le_length (by rw [be8_length]; omega),
      List.drop_eq_nil_of_le (by rw [be8_length]; omega), List.nil_append]
    have e : (((n + 9223372036854775808).toNat : Nat) : Int) - 9223372036854775808 = n := by omega
    rw [e]
  · have hk : keyV ⟨2, 0, s⟩ = 3 :: (s.data.toList ++ [0]) := rfl
    have ha : ((s.data.toList ++ [0]) ++ rest).all (· != 0) = false := by simp
    have hw : ((s.data.toList ++ [0]) ++ rest).takeWhile (· != 0) = s.data.toList := by
      rw [List.append_assoc]; exact takeWhile_stop _ _ hz
    rw [hk, List.cons_append, parse1, if_neg (by decide), if_neg (by decide), if_pos rfl, if_neg (by rw [ha]; decide), hw, if_neg (by omega)]
    have hd : ((s.data.toList ++ [0]) ++ rest).drop (s.data.toList.length + 1) = rest := by
      rw [List.drop_append_of_le_length (by simp), List.drop_eq_nil_of_le (by simp), List.nil_append]
    rw [hd]
theorem keyV_cons (v : GVal) : ∃ c l, keyV v = c :: l := by
  unfold keyV
  split
  · exact ⟨_, _, rfl⟩
  · split
    · exact ⟨_, _, rfl⟩
    · exact ⟨_, _, rfl⟩
theorem read_key (xs : List GVal) (h : ∀ v ∈ xs, FineV v) : readL (keyL xs) = some xs := by
  induction xs with
  | nil => rfl
  | cons v xs ih =>
    have hv := h v List.mem_cons_self
    have hp := parse_key v (keyL xs) hv
    have e : keyL (v :: xs) = keyV v ++ keyL xs := rfl
    obtain ⟨c, l, hc⟩ := keyV_cons v
    rw [hc, List.cons_append] at hp
    rw [e, hc, List.cons_append, readL_some _ _ _ _ hp, ih (fun u hu => h u (List.mem_cons_of_mem _ hu))]
    rfl
theorem keyL_append (a b : List GVal) : keyL (a ++ b) = keyL a ++ keyL b := List.flatMap_append ..

theorem beN_cons (c : UInt8) (l : List UInt8) : beN (c :: l) = c.toNat * 256 ^ l.length + beN l := by
  have : ∀ (l : List UInt8) (n : Nat), l.foldl (fun n c => n * 256 + c.toNat) n = n * 256 ^ l.length + beN l := by
    intro l
    induction l with
    | nil => intro n; simp [beN]
    | cons d l ih =>
      intro n
      rw [List.foldl_cons, ih, List.length_cons, Nat.pow_succ', show beN (d :: l) = l.foldl (fun n c => n * 256 + c.toNat) (0 * 256 + d.toNat) from rfl, ih]
      simp only [Nat.zero_mul, Nat.zero_add]
      rw [Nat.add_mul, Nat.mul_assoc]
      omega
  have h := this l c.toNat
  show l.foldl (fun n c => n * 256 + c.toNat) (0 * 256 + c.toNat) = _
  rw [Nat.zero_mul, Nat.zero_add]
  exact h
theorem beN_bound (l : List UInt8) : beN l < 256 ^ l.length := by
  induction l with
  | nil => simp [beN]
  | cons c l ih =>
    rw [beN_cons, List.length_cons, Nat.pow_succ']
    have hc := UInt8.toNat_lt c
    have : (c.toNat + 1) * 256 ^ l.length ≤ 256 * 256 ^ l.length := Nat.mul_le_mul_right _ (by omega)
    rw [Nat.add_mul] at this
    omega
theorem cmp_fixed : ∀ (a b s t : List UInt8), a.length = b.length → Lib.compareBytes (a ++ s) (b ++ t) = if beN a < beN b then -1 else if beN b < beN a then 1 else Lib.compareBytes s t := by
  intro a
  induction a with
  | nil =>
    intro b s t h
    have : b = [] := List.eq_nil_of_length_eq_zero h.symm
    subst this
    simp [beN]
  | cons x a ih =>
    intro b s t h
    cases b with
    | nil => simp at h
    | cons y b =>
      have hl : a.length = b.length := by simpa using h
      simp only [List.cons_append, Lib.compareBytes]
      have h1 := beN_bound a
      have h2 := beN_bound b
      rw [beN_cons, beN_cons, ← hl]
      rw [← hl] at h2
      by_cases hxy : x < y
      · have hn : x.toNat + 1 ≤ y.toNat := UInt8.lt_iff_toNat_lt.1 hxy
        have := Nat.mul_le_mul_right (256 ^ a.length) hn
        rw [Nat.add_mul] at this
        rw [if_pos hxy, if_pos (by omega)]
      · rw [if_neg hxy]
        by_cases hyx : y < x
        · have hn : y.toNat + 1 ≤ x.toNat := UInt8.lt_iff_toNat_lt.1 hyx
          have := Nat.mul_le_mul_right (256 ^ a.length) hn
          rw [Nat.add_mul] at this
          rw [if_pos hyx, if_neg (by omega), if_pos (by omega)]
        · have e : x = y := UInt8.le_antisymm (UInt8.not_lt.1 hyx) (UInt8.not_lt.1 hxy)
          subst e
          rw [if_neg hyx, ih b s t hl]
          simp only [Nat.add_lt_add_iff_left]
theorem cmp_text : ∀ (x y s t : List UInt8), x.all (· != 0) = true → y.all (· != 0) = true → Lib.compareBytes (x ++ 0 :: s) (y ++ 0 :: t) = if Lib.compareBytes x y = 0 then Lib.compareBytes s t else Lib.compareBytes x y := by
  intro x
  induction x with
  | nil =>
    intro y s t _ hy
    cases y with
    | nil => simp [Lib.compareBytes]
    | cons c y =>
      simp only [List.all_cons, Bool.and_eq_true, bne_iff_ne] at hy
      have : (0 : UInt8) < c := by
        rw [UInt8.lt_iff_toNat_lt]
        have : c.toNat ≠ 0 := fun h => hy.1 (UInt8.toNat_inj.1 (by simpa using h))
        simp; omega
      simp [Lib.compareBytes, this]
  | cons d x ih =>
    intro y s t hx hy
    simp only [List.all_cons, Bool.and_eq_true, bne_iff_ne] at hx
    cases y with
    | nil =>
      have : (0 : UInt8) < d := by
        rw [UInt8.lt_iff_toNat_lt]
        have : d.toNat ≠ 0 := fun h => hx.1 (UInt8.toNat_inj.1 (by simpa using h))
        simp; omega
      have h2 : ¬ d < 0 := fun h => UInt8.lt_irrefl _ (UInt8.lt_trans h this)
      simp [Lib.compareBytes, this, h2]
    | cons c y =>
      simp only [List.all_cons, Bool.and_eq_true, bne_iff_ne] at hy
      simp only [List.cons_append, Lib.compareBytes]
      by_cases h1 : d < c
      · simp [h1]
      · by_cases h2 : c < d
        · simp [h1, h2]
        · simp only [h1, h2, if_false]
          exact ih y s t hx.2 hy.2
theorem key_cmp (v u : GVal) (s t : List UInt8) (hv : FineV v) (hu : FineV u) : Lib.compareBytes (keyV v ++ s) (keyV u ++ t) = if cmpV v u = 0 then Lib.compareBytes s t else cmpV v u := by
  have k1 : ∀ n, keyV ⟨1, n, ⟨#[]⟩⟩ = 2 :: be8 (n + 9223372036854775808).toNat := fun _ => rfl
  have k2 : ∀ s, keyV ⟨2, 0, s⟩ = 3 :: (s.data.toList ++ [0]) := fun _ => rfl
  have k0 : keyV ⟨0, 0, ⟨#[]⟩⟩ = [1] := rfl
  have l12 : Lib.compareBytes = Lib.compareBytes := rfl
  have step : ∀ (c : UInt8) (a b : List UInt8), Lib.compareBytes (c :: a) (c :: b) = Lib.compareBytes a b := fun c a b => by simp [Lib.compareBytes]
  have less : ∀ (c d : UInt8) (a b : List UInt8), c < d → Lib.compareBytes (c :: a) (d :: b) = -1 := fun c d a b h => by simp [Lib.compareBytes, h]
  have more : ∀ (c d : UInt8) (a b : List UInt8), d < c → Lib.compareBytes (c :: a) (d :: b) = 1 := fun c d a b h => by
    have : ¬ c < d := fun h2 => UInt8.lt_irrefl _ (UInt8.lt_trans h h2)
    simp [Lib.compareBytes, h, this]
  rcases fine_cases v hv with rfl | ⟨n, rfl, h1, h2⟩ | ⟨x, rfl, hx, _⟩ <;> rcases fine_cases u hu with rfl | ⟨m, rfl, g1, g2⟩ | ⟨y, rfl, hy, _⟩
  · rw [k0]; simp [step, cmpV, Lib.compareBytes]
  · rw [k0, k1, List.cons_append, List.cons_append, less _ _ _ _ (by decide)]; rfl
  · rw [k0, k2, List.cons_append, List.cons_append, less _ _ _ _ (by decide)]; rfl
  · rw [k0, k1, List.cons_append, List.cons_append, more _ _ _ _ (by decide)]; rfl
  · rw [k1, k1, List.cons_append, List.cons_append, step, cmp_fixed (be8 (n + 9223372036854775808).toNat) (be8 (m + 9223372036854775808).toNat) _ _ (by rw [be8_length, be8_length]), beN_be8 _ (by omega), beN_be8 _ (by omega)]
    have hc : cmpV ⟨1, n, ⟨#[]⟩⟩ ⟨1, m, ⟨#[]⟩⟩ = if n < m then -1 else if m < n then 1 else 0 := by
      unfold cmpV; simp [Lib.compareBytes]
    rw [hc]
    by_cases c1 : n < m
    · rw [if_pos (by omega), if_pos c1]; rfl
    · rw [if_neg (by omega), if_neg c1]
      by_cases c2 : m < n
      · rw [if_pos (by omega), if_pos c2]; rfl
      · rw [if_neg (by omega), if_neg c2]; rfl
  · rw [k1, k2, List.cons_append, List.cons_append, less _ _ _ _ (by decide)]; rfl
  · rw [k0, k2, List.cons_append, List.cons_append, more _ _ _ _ (by decide)]; rfl
  · rw [k1, k2, List.cons_append, List.cons_append, more _ _ _ _ (by decide)]; rfl
  · rw [k2, k2, List.cons_append, List.cons_append, step, List.append_assoc, List.append_assoc]
    have hc : cmpV ⟨2, 0, x⟩ ⟨2, 0, y⟩ = Lib.compareBytes x.data.toList y.data.toList := by
      unfold cmpV; simp
    rw [hc]
    exact cmp_text _ _ _ _ hx hy
theorem key_order : ∀ (a b : List GVal), (∀ v ∈ a, FineV v) → (∀ v ∈ b, FineV v) → Lib.compareBytes (keyL a) (keyL b) = orderV a b := by
  intro a
  induction a with
  | nil =>
    intro b _ _
    cases b with
    | nil => rfl
    | cons u b =>
      obtain ⟨c, l, hc⟩ := keyV_cons u
      rw [show keyL (u :: b) = keyV u ++ keyL b from rfl, hc]
      rfl
  | cons v a ih =>
    intro b ha hb
    cases b with
    | nil =>
      obtain ⟨c, l, hc⟩ := keyV_cons v
      rw [show keyL (v :: a) = keyV v ++ keyL a from rfl, hc]
      rfl
    | cons u b =>
      rw [show keyL (v :: a) = keyV v ++ keyL a from rfl, show keyL (u :: b) = keyV u ++ keyL b from rfl, key_cmp v u _ _ (ha v List.mem_cons_self) (hb u List.mem_cons_self),
        ih b (fun x hx => ha x (List.mem_cons_of_mem _ hx)) (fun x hx => hb x (List.mem_cons_of_mem _ hx))]
      rfl
end Go.Proofs.YthenhglpljdhfaaDoor
