/-
  The head of a pager as plain data: how it is written, and how it is read.
-/
import Derived.Test.YtcdoeninajpbmaaGreatDoorLib
namespace Go.Proofs.YtcdoeninajpbmaaGreatDoor
open Go Go.RowKit

/-- Which pages are in use, the roots and their notes. -/
structure Head where
  used : Nat → Bool
  roots : Nat → Int
  notes : Nat → Int
/-- Two heads are one: on all pages and roots that there are. -/
def Head.same (h g : Head) : Prop := (∀ i, i < 2000 → h.used i = g.used i) ∧ ∀ i, i < 8 → h.roots i = g.roots i ∧ h.notes i = g.notes i
theorem Head.same.refl (h : Head) : h.same h := ⟨fun _ _ => rfl, fun _ _ => ⟨rfl, rfl⟩⟩
theorem Head.same.symm {h g : Head} (s : h.same g) : g.same h := ⟨fun i hi => (s.1 i hi).symm, fun i hi => ⟨(s.2 i hi).1.symm, (s.2 i hi).2.symm⟩⟩
theorem Head.same.trans {h g f : Head} (s : h.same g) (t : g.same f) : h.same f := ⟨fun i hi => (s.1 i hi).trans (t.1 i hi), fun i hi => ⟨(s.2 i hi).1.trans (t.2 i hi).1, (s.2 i hi).2.trans (t.2 i hi).2⟩⟩
/-- The cells of a head. -/
def Head.cells (h : Head) : List Value := (List.range 2000).map (fun i => Value.bool (h.used i)) ++ ((List.range 8).map (fun i => Value.int .i64 (h.roots i)) ++ (List.range 8).map (fun i => Value.int .i64 (h.notes i)))
theorem Head.cells_len (h : Head) : h.cells.length = 2016 := by simp [Head.cells]
theorem Head.cells_same {h g : Head} (s : h.same g) : h.cells = g.cells := by
  have e1 : (List.range 2000).map (fun i => Value.bool (h.used i)) = (List.range 2000).map (fun i => Value.bool (g.used i)) := List.map_congr_left fun i hi => by rw [s.1 i (List.mem_range.1 hi)]
  have e2 : (List.range 8).map (fun i => Value.int .i64 (h.roots i)) = (List.range 8).map (fun i => Value.int .i64 (g.roots i)) := List.map_congr_left fun i hi => by rw [(s.2 i (List.mem_range.1 hi)).1]
  have e3 : (List.range 8).map (fun i => Value.int .i64 (h.notes i)) = (List.range 8).map (fun i => Value.int .i64 (g.notes i)) := List.map_congr_left fun i hi => by rw [(s.2 i (List.mem_range.1 hi)).2]
  unfold Head.cells
  rw [e1, e2, e3]
theorem Head.cells_used (h : Head) {i : Nat} (hi : i < 2000) : h.cells[i]? = some (.bool (h.used i)) := by
  unfold Head.cells
  rw [List.getElem?_append_left (by simpa using hi)]
  simp [hi]
theorem Head.cells_root (h : Head) {i : Nat} (hi : i < 8) : h.cells[2000 + i]? = some (.int .i64 (h.roots i)) := by
  unfold Head.cells
  rw [List.getElem?_append_right (by simp), List.getElem?_append_left (by simp; omega)]
  simp [hi]
theorem Head.cells_note (h : Head) {i : Nat} (hi : i < 8) : h.cells[2008 + i]? = some (.int .i64 (h.notes i)) := by
  unfold Head.cells
  rw [List.getElem?_append_right (by simp; omega), List.getElem?_append_right (by simp; omega)]
  simp
  rw [show 2008 + i - 2000 - 8 = i by omega]
  simp [hi]
theorem Head.cells_one (h : Head) : ∀ v ∈ h.cells, v.oneCell' = true := by
  intro v hv
  unfold Head.cells at hv
  simp only [List.mem_append, List.mem_map] at hv
  rcases hv with ⟨_, _, rfl⟩ | ⟨_, _, rfl⟩ | ⟨_, _, rfl⟩ <;> rfl
/-- A page is taken, or given back. -/
def Head.put (h : Head) (k : Nat) (b : Bool) : Head := { h with used := fun i => if i = k then b else h.used i }
/-- A root is set. -/
def Head.setRoot (h : Head) (i : Nat) (p n : Int) : Head := { h with roots := fun j => if j = i then p else h.roots j, notes := fun j => if j = i then n else h.notes j }
/-- A head that may be: the first page is in use; roots and notes are in range. -/
structure Head.fine (h : Head) : Prop where
  zero : h.used 0 = true
  root : ∀ i, i < 8 → 0 ≤ h.roots i ∧ h.roots i < 2000
  note : ∀ i, i < 8 → 0 ≤ h.notes i ∧ h.notes i < 65536

/-- Two bytes of a number. -/
def two8 (n : Int) : List UInt8 := [((n / 256) % 256).toNat.toUInt8, (n % 256).toNat.toUInt8]
/-- A byte of eight pages. -/
def bits8 (u : Nat → Bool) (i : Nat) : Nat → Nat
  | 0 => 0
  | k + 1 => bits8 u i k + if u (i + k) then 2 ^ k else 0
theorem bits8_lt (u : Nat → Bool) (i : Nat) : ∀ k, bits8 u i k < 2 ^ k
  | 0 => by simp [bits8]
  | k + 1 => by
    have := bits8_lt u i k
    unfold bits8
    rw [Nat.pow_succ]
    split <;> omega
theorem bits8_bit (u : Nat → Bool) (i : Nat) : ∀ k j, j < k → bits8 u i k / 2 ^ j % 2 = if u (i + j) then 1 else 0
  | 0, j, h => absurd h (Nat.not_lt_zero _)
  | k + 1, j, h => by
    unfold bits8
    rcases Nat.lt_or_ge j k with hj | hj
    · have ih := bits8_bit u i k j hj
      have hp : 2 ^ k = 2 ^ j * 2 * 2 ^ (k - j - 1) := by
        rw [← Nat.pow_succ, ← Nat.pow_add]
        congr 1
        omega
      split
      · rw [hp, Nat.mul_assoc, Nat.add_mul_div_left _ _ (Nat.two_pow_pos j), Nat.mul_comm 2, Nat.add_mul_mod_self_right]
        exact ih
      · rw [Nat.add_zero]
        exact ih
    · obtain rfl : j = k := by omega
      have hl := bits8_lt u i j
      split
      · rw [Nat.add_div_right _ (Nat.two_pow_pos j), Nat.div_eq_of_lt hl]
      · rw [Nat.add_zero, Nat.div_eq_of_lt hl]
def mapF (u : Nat → Bool) : List UInt8 := (List.range 250).map fun i => (bits8 u (8 * i) 8).toUInt8
theorem mapF_len (u : Nat → Bool) : (mapF u).length = 250 := by simp [mapF]
def rootsF (h : Head) (n : Nat) : List UInt8 := (List.range n).flatMap fun i => two8 (h.roots i) ++ two8 (h.notes i)
theorem rootsF_len (h : Head) (n : Nat) : (rootsF h n).length = 4 * n := by
  unfold rootsF
  induction n with
  | zero => rfl
  | succ n ih =>
    rw [List.range_succ, List.flatMap_append, List.length_append, ih]
    simp [two8]
    omega
/-- A text made a page. -/
def fillF (l : List UInt8) : List UInt8 := l ++ List.replicate (1024 - l.length) 0
theorem fillF_len {l : List UInt8} (h : l.length ≤ 1024) : (fillF l).length = 1024 := by
  unfold fillF
  rw [List.length_append, List.length_replicate]
  omega
/-- The page that a head is written as. -/
def textF (h : Head) : List UInt8 := fillF (mapF h.used ++ rootsF h 8)
theorem textF_len (h : Head) : (textF h).length = 1024 := fillF_len (by rw [List.length_append, mapF_len, rootsF_len]; omega)
def fromF (l : List UInt8) (i : Nat) : Int := 256 * ((l.getD i 0).toNat : Int) + ((l.getD (i + 1) 0).toNat : Int)
/-- The head that a page is read as. -/
def readsF (l : List UInt8) : Head where
  used i := i == 0 || (l.getD (i / 8) 0).toNat / 2 ^ (i % 8) % 2 == 1
  roots i := fromF l (250 + 4 * i)
  notes i := fromF l (252 + 4 * i)
theorem two8_from (n : Int) (h0 : 0 ≤ n) (h1 : n < 65536) (a b : List UInt8) : fromF (a ++ (two8 n ++ b)) a.length = n := by
  unfold fromF two8
  have e0 : (a ++ ([((n / 256) % 256).toNat.toUInt8, (n % 256).toNat.toUInt8] ++ b)).getD a.length 0 = ((n / 256) % 256).toNat.toUInt8 := by
    simp [List.getD_eq_getElem?_getD]
  have e1 : (a ++ ([((n / 256) % 256).toNat.toUInt8, (n % 256).toNat.toUInt8] ++ b)).getD (a.length + 1) 0 = (n % 256).toNat.toUInt8 := by
    simp [List.getD_eq_getElem?_getD]
  rw [e0, e1]
  simp
  omega
theorem rootsF_split (h : Head) {i : Nat} (hi : i < 8) : ∃ a b, rootsF h 8 = a ++ (two8 (h.roots i) ++ (two8 (h.notes i) ++ b)) ∧ a.length = 4 * i := by
  have key : ∀ m j, j + m = 8 → i < m → ∃ a b, ((List.range' j m).flatMap fun i => two8 (h.roots i) ++ two8 (h.notes i)) = a ++ (two8 (h.roots (j + i)) ++ (two8 (h.notes (j + i)) ++ b)) ∧ a.length = 4 * i := by
    induction i with
    | zero =>
      intro m j hj hm
      obtain ⟨m, rfl⟩ : ∃ m', m = m' + 1 := ⟨m - 1, by omega⟩
      refine ⟨[], (List.range' (j + 1) m).flatMap fun i => two8 (h.roots i) ++ two8 (h.notes i), ?_, rfl⟩
      rw [List.range'_succ, List.flatMap_cons]
      simp
    | succ i ih =>
      intro m j hj hm
      obtain ⟨m, rfl⟩ : ∃ m', m = m' + 1 := ⟨m - 1, by omega⟩
      obtain ⟨a, b, e, hl⟩ := ih (by omega) m (j + 1) (by omega) (by omega)
      refine ⟨two8 (h.roots j) ++ two8 (h.notes j) ++ a, b, ?_, by simp [two8, hl]; omega⟩
      rw [List.range'_succ, List.flatMap_cons, e, show j + 1 + i = j + (i + 1) by omega]
      simp
  obtain ⟨a, b, e, hl⟩ := key 8 0 rfl hi
  refine ⟨a, b, ?_, hl⟩
  unfold rootsF
  rw [List.range_eq_range', e, Nat.zero_add]
/-- A head is read as it was written. -/
theorem reads_text {h : Head} (hf : h.fine) : (readsF (textF h)).same h := by
  refine ⟨fun i hi => ?_, fun i hi => ?_⟩
  · show (i == 0 || ((textF h).getD (i / 8) 0).toNat / 2 ^ (i % 8) % 2 == 1) = h.used i
    have hq : i / 8 < 250 := by omega
    have e : (textF h).getD (i / 8) 0 = (bits8 h.used (8 * (i / 8)) 8).toUInt8 := by
      unfold textF fillF
      rw [List.getD_eq_getElem?_getD, List.getElem?_append_left (by rw [List.length_append, mapF_len]; omega), List.getElem?_append_left (by rw [mapF_len]; omega)]
      simp [mapF, hq]
    have hlt := bits8_lt h.used (8 * (i / 8)) 8
    have hn : (bits8 h.used (8 * (i / 8)) 8).toUInt8.toNat = bits8 h.used (8 * (i / 8)) 8 := by
      show _ % 256 = _
      exact Nat.mod_eq_of_lt hlt
    rw [e, hn, bits8_bit h.used (8 * (i / 8)) 8 (i % 8) (by omega), show 8 * (i / 8) + i % 8 = i by omega]
    by_cases h0 : i = 0
    · subst h0
      rw [hf.zero]
      rfl
    · have : (i == 0) = false := by simpa using h0
      rw [this]
      cases h.used i <;> rfl
  · obtain ⟨a, b, e, hl⟩ := rootsF_split h hi
    have e2 : textF h = (mapF h.used ++ a) ++ (two8 (h.roots i) ++ (two8 (h.notes i) ++ (b ++ List.replicate (1024 - (mapF h.used ++ rootsF h 8).length) 0))) := by
      unfold textF fillF
      rw [e]
      simp [List.append_assoc]
    have e3 : textF h = (mapF h.used ++ a ++ two8 (h.roots i)) ++ (two8 (h.notes i) ++ (b ++ List.replicate (1024 - (mapF h.used ++ rootsF h 8).length) 0)) := by
      rw [e2]
      simp [List.append_assoc]
    constructor
    · show fromF (textF h) (250 + 4 * i) = _
      have := two8_from (h.roots i) (hf.root i hi).1 (by have := (hf.root i hi).2; omega) (mapF h.used ++ a) (two8 (h.notes i) ++ (b ++ List.replicate (1024 - (mapF h.used ++ rootsF h 8).length) 0))
      rw [← e2, List.length_append, mapF_len, hl] at this
      exact this
    · show fromF (textF h) (252 + 4 * i) = _
      have := two8_from (h.notes i) (hf.note i hi).1 (by have := (hf.note i hi).2; omega) (mapF h.used ++ a ++ two8 (h.roots i)) (b ++ List.replicate (1024 - (mapF h.used ++ rootsF h 8).length) 0)
      rw [← e3, List.length_append, List.length_append, mapF_len, hl] at this
      rw [show 252 + 4 * i = 250 + 4 * i + (two8 (h.roots i)).length by simp [two8]; omega]
      exact this
/-- The sum of texts. -/
def sumStep (n : Nat) (c : UInt8) : Nat := ((n ^^^ c.toNat) * 1099511628211) % 18446744073709551616
def sumN (l : List (List UInt8)) : Nat := l.foldl (fun n s => s.foldl sumStep n) 14695981039346656037
def low8 (n : Nat) : Nat → List UInt8
  | 0 => []
  | k + 1 => low8 n k ++ [(n / 256 ^ k).toUInt8]
theorem low8_len (n : Nat) : ∀ k, (low8 n k).length = k
  | 0 => rfl
  | k + 1 => by rw [low8, List.length_append, low8_len n k]; rfl
def sumF (l : List (List UInt8)) : List UInt8 := low8 (sumN l) 8
/-- The head of a note: how many pages, and which. -/
def noteHead (ps : List Nat) : List UInt8 := two8 (ps.length : Int) ++ mapF fun i => ps.contains i
theorem noteHead_len (ps : List Nat) : (noteHead ps).length = 252 := by
  unfold noteHead
  rw [List.length_append, mapF_len]
  rfl
/-- The note of a log. -/
def noteF (ps : List Nat) (l : List (List UInt8)) : List UInt8 := fillF (noteHead ps ++ sumF (noteHead ps :: l))
theorem noteF_len (ps : List Nat) (l : List (List UInt8)) : (noteF ps l).length = 1024 := fillF_len (by rw [List.length_append, noteHead_len, sumF, low8_len]; omega)
end Go.Proofs.YtcdoeninajpbmaaGreatDoor
