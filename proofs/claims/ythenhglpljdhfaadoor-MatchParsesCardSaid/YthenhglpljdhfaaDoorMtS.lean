/-
  What any text looks for (8.1), in plain words: its pieces, and what they say.
-/
import Derived.Test.YthenhglpljdhfaaDoorWordW
import Derived.Lib.IndexAny
namespace Go.Proofs.YthenhglpljdhfaaDoor
open Go Go.RowKit

/-- A blank, ( ) " and *. -/
def signB (c : UInt8) : Bool := c == 32 || c == 40 || c == 41 || c == 34 || c == 42
def bsL (l : List UInt8) : ByteArray := ⟨l.toArray⟩
theorem bsL_data (l : List UInt8) : (bsL l).data.toList = l := by simp [bsL]
/-- The pieces of a text: none, where a quote does not end. -/
def cutN : Nat → List UInt8 → Option (List ByteArray)
  | _, [] => some []
  | 0, _ :: _ => none
  | n + 1, c :: r =>
    if c = 32 then cutN n r
    else if c = 34 then (if r.all (· != 34) then none else (cutN n (r.drop ((r.takeWhile (· != 34)).length + 1))).map (bsL (c :: r.takeWhile (· != 34)) :: ·))
    else if signB c then (cutN n r).map (bsL [c] :: ·)
    else (cutN n ((c :: r).dropWhile (fun x => !signB x))).map (bsL ((c :: r).takeWhile (fun x => !signB x)) :: ·)
/-- A sign other than the blank. -/
def markB (c : UInt8) : Bool := c == 40 || c == 41 || c == 34 || c == 42
/-- What a piece may be: it has a first byte; and has no sign, but that one. -/
def PieceOk (p : ByteArray) : Prop := ∃ c r, p.data.toList = c :: r ∧ (markB c = true ∨ (c :: r).all (fun x => !signB x) = true)
theorem dropWhile_len {α : Type} (p : α → Bool) (l : List α) : (l.dropWhile p).length ≤ l.length := by
  induction l with
  | nil => simp
  | cons a t ih => simp only [List.dropWhile_cons]; split <;> simp <;> omega
theorem all_takeWhile {α : Type} (p : α → Bool) (l : List α) : (l.takeWhile p).all p = true := by
  induction l with
  | nil => rfl
  | cons a t ih => simp only [List.takeWhile_cons]; split <;> simp_all
theorem takeWhile_len {α : Type} (p : α → Bool) (l : List α) : (l.takeWhile p).length ≤ l.length := by
  induction l with
  | nil => simp
  | cons a t ih => simp only [List.takeWhile_cons]; split <;> simp <;> omega
/-- Each piece may be. -/
theorem cut_ok : ∀ (n : Nat) (l : List UInt8) (ps : List ByteArray), cutN n l = some ps → ∀ p ∈ ps, PieceOk p := by
  intro n
  induction n with
  | zero =>
    intro l ps h
    cases l with
    | nil => simp only [cutN, Option.some.injEq] at h; subst h; simp
    | cons c r => simp [cutN] at h
  | succ n ih =>
    intro l ps h
    cases l with
    | nil => simp only [cutN, Option.some.injEq] at h; subst h; simp
    | cons c r =>
      simp only [cutN] at h
      split at h
      · exact ih _ _ h
      · rename_i h32
        split at h
        · rename_i h34
          split at h
          · simp at h
          · simp only [Option.map_eq_some_iff] at h
            obtain ⟨qs, hq, rfl⟩ := h
            intro p hp
            rcases List.mem_cons.1 hp with rfl | hp
            · exact ⟨c, _, bsL_data _, .inl (by subst h34; decide)⟩
            · exact ih _ _ hq p hp
        · rename_i h34
          split at h
          · rename_i hs
            simp only [Option.map_eq_some_iff] at h
            obtain ⟨qs, hq, rfl⟩ := h
            intro p hp
            rcases List.mem_cons.1 hp with rfl | hp
            · refine ⟨c, _, bsL_data _, .inl ?_⟩
              unfold signB at hs
              unfold markB
              simp only [Bool.or_eq_true, beq_iff_eq] at hs ⊢
              rcases hs with (((h | h) | h) | h) | h
              · exact absurd h h32
              · exact .inl (.inl (.inl h))
              · exact .inl (.inl (.inr h))
              · exact .inl (.inr h)
              · exact .inr h
            · exact ih _ _ hq p hp
          · rename_i hs
            simp only [Option.map_eq_some_iff] at h
            obtain ⟨qs, hq, rfl⟩ := h
            intro p hp
            rcases List.mem_cons.1 hp with rfl | hp
            · have e : (c :: r).takeWhile (fun x => !signB x) = c :: r.takeWhile (fun x => !signB x) := by simp [hs]
              refine ⟨c, r.takeWhile (fun x => !signB x), by rw [bsL_data, e], .inr ?_⟩
              rw [← e]
              exact all_takeWhile _ _
            · exact ih _ _ hq p hp

theorem take_tw {α : Type} (p : α → Bool) (l : List α) : l.take (l.takeWhile p).length = l.takeWhile p := by
  induction l with
  | nil => rfl
  | cons a t ih => simp only [List.takeWhile_cons]; split <;> simp [ih]
theorem drop_tw {α : Type} (p : α → Bool) (l : List α) : l.drop (l.takeWhile p).length = l.dropWhile p := by
  induction l with
  | nil => rfl
  | cons a t ih => simp only [List.takeWhile_cons, List.dropWhile_cons]; split <;> simp [ih]
theorem all_iff_tw {α : Type} (p : α → Bool) (l : List α) : l.all p = true ↔ l.takeWhile p = l := by
  induction l with
  | nil => simp
  | cons a t ih => cases h : p a <;> simp [h, ← ih]
theorem tw_lt {α : Type} (p : α → Bool) (l : List α) (h : l.all p = false) : ∃ hk : (l.takeWhile p).length < l.length, p (l[(l.takeWhile p).length]'hk) = false := by
  induction l with
  | nil => simp at h
  | cons a t ih =>
    cases hp : p a
    · exact ⟨by simp [hp], by simp [hp]⟩
    · have h2 : t.all p = false := by simpa [hp] using h
      obtain ⟨hk, hv⟩ := ih h2
      exact ⟨by simp [hp]; exact hk, by simp [hp, hv]⟩
/-- Where the first sign stands; -1: there is none. -/
def idxSign (l : List UInt8) : Int := if l.all (fun x => !signB x) = true then -1 else ((l.takeWhile (fun x => !signB x)).length : Int)
def signsL : List UInt8 := [32, 40, 41, 34, 42]
theorem signB_iff (c : UInt8) : signsL.contains c = signB c := by
  unfold signsL signB
  simp only [List.contains_cons, List.contains_nil, Bool.or_false, Bool.or_assoc]
theorem noAny_tw (l : List UInt8) : Lib.NoAny l signsL (l.takeWhile (fun x => !signB x)).length := by
  intro j b hj hb
  rw [signB_iff]
  have h1 : (l.takeWhile (fun x => !signB x))[j]? = some b := by
    rw [← take_tw, List.getElem?_take, if_pos hj]
    exact hb
  have h2 := List.mem_of_getElem? h1
  have h3 := List.all_eq_true.1 (all_takeWhile (fun x => !signB x) l) b h2
  simpa using h3
theorem idxSign_eq (l : List UInt8) : Lib.indexAny l signsL = idxSign l := by
  unfold idxSign
  split
  · rename_i h
    have h1 := noAny_tw l
    rw [(all_iff_tw _ l).1 h] at h1
    exact Lib.indexAny_none h1
  · rename_i h
    obtain ⟨hk, hv⟩ := tw_lt (fun x => !signB x) l (by simpa using h)
    exact Lib.indexAny_hit (noAny_tw l) (List.getElem?_eq_getElem hk) (by rw [signB_iff]; simpa using hv)
theorem cut_all {c : UInt8} {r : List UInt8} (n : Nat) (h : (c :: r).all (fun x => !signB x) = true) : cutN (n + 1) (c :: r) = some [bsL (c :: r)] := by
  have hc : signB c = false := by simpa using List.all_eq_true.1 h c List.mem_cons_self
  have h32 : ¬ c = 32 := fun e => by subst e; revert hc; decide
  have h34 : ¬ c = 34 := fun e => by subst e; revert hc; decide
  have ht := (all_iff_tw _ _).1 h
  have hd : (c :: r).dropWhile (fun x => !signB x) = [] := by
    have := List.takeWhile_append_dropWhile (p := fun x => !signB x) (l := c :: r)
    rw [ht] at this
    simpa using this
  simp only [cutN, if_neg h32, if_neg h34, hc, Bool.false_eq_true, if_false, ht, hd]
  cases n <;> rfl
theorem cut_word {c : UInt8} {r : List UInt8} (n : Nat) (hc : signB c = false) : cutN (n + 1) (c :: r) = (cutN n ((c :: r).dropWhile (fun x => !signB x))).map (bsL ((c :: r).takeWhile (fun x => !signB x)) :: ·) := by
  have h32 : ¬ c = 32 := fun e => by subst e; revert hc; decide
  have h34 : ¬ c = 34 := fun e => by subst e; revert hc; decide
  simp only [cutN, if_neg h32, if_neg h34, hc, Bool.false_eq_true, if_false]
theorem cut_blank (n : Nat) (r : List UInt8) : cutN (n + 1) (32 :: r) = cutN n r := by simp [cutN]
theorem cut_mark {c : UInt8} (n : Nat) (r : List UInt8) (h : signB c = true) (h32 : ¬ c = 32) (h34 : ¬ c = 34) : cutN (n + 1) (c :: r) = (cutN n r).map (bsL [c] :: ·) := by
  simp only [cutN, if_neg h32, if_neg h34, h, if_true]
theorem cut_open (n : Nat) (r : List UInt8) (h : r.all (· != 34) = true) : cutN (n + 1) (34 :: r) = none := by
  have h32 : ¬ (34 : UInt8) = 32 := by decide
  simp only [cutN, if_neg h32, if_true, h]
theorem cut_quote (n : Nat) (r : List UInt8) (h : r.all (· != 34) = false) : cutN (n + 1) (34 :: r) = (cutN n (r.drop ((r.takeWhile (· != 34)).length + 1))).map (bsL (34 :: r.takeWhile (· != 34)) :: ·) := by
  have h32 : ¬ (34 : UInt8) = 32 := by decide
  simp only [cutN, if_neg h32, if_true, h, Bool.false_eq_true, if_false]
theorem indexByte_tw (l : List UInt8) (c : UInt8) : Lib.indexByte l c = if l.all (· != c) = true then -1 else ((l.takeWhile (· != c)).length : Int) := by
  induction l with
  | nil => rfl
  | cons a t ih =>
    unfold Lib.indexByte
    cases hac : (a == c)
    · have hne : (a != c) = true := by simp [bne, hac]
      rw [ih]
      cases hall : t.all (· != c)
      · have h2 : (((t.takeWhile (· != c)).length : Int) == -1) = false := by
          rw [Bool.eq_false_iff]; intro h; have := beq_iff_eq.1 h; omega
        simp [hall, hne, h2]
      · simp [hall, hne]
    · have hne : (a != c) = false := by simp [bne, hac]
      simp [hne]
/-- A query, as a tree. -/
inductive Qy
  | leaf (kind : Int) (ws : List ByteArray) (far : Int)
  | node (kind : Int) (l r : Qy)
/-- What reading comes to: a query and what is left, or a number of what is wrong. -/
inductive Rd
  | ok (q : Qy) (l : List ByteArray)
  | bad (n : Int)
def pkB (l : List ByteArray) : ByteArray := l.headD ⟨#[]⟩
def sOpen : ByteArray := ⟨#[40]⟩
def sShut : ByteArray := ⟨#[41]⟩
def sStar : ByteArray := ⟨#[42]⟩
def sAnd : ByteArray := ⟨#[65, 78, 68]⟩
def sOr : ByteArray := ⟨#[79, 82]⟩
def sNot : ByteArray := ⟨#[78, 79, 84]⟩
def sNear : ByteArray := ⟨#[78, 69, 65, 82]⟩
def sNone : ByteArray := ⟨#[]⟩
/-- Letters that a beginning may have. -/
def beginB (c : UInt8) : Bool := (97 ≤ c && c ≤ 122) || (48 ≤ c && c ≤ 57)
def headB (s : ByteArray) : UInt8 := s.data.toList.headD 0
def oneF (anyR : List ByteArray → Rd) (l : List ByteArray) : Rd :=
  let s := pkB l
  if s = sNone ∨ s = sShut ∨ s = sStar ∨ s = sAnd ∨ s = sOr ∨ s = sNot ∨ s = sNear then .bad 3
  else if s = sOpen then
    match anyR l.tail with
    | .bad n => .bad n
    | .ok q r => if pkB r = sShut then .ok q r.tail else .bad 3
  else if headB s = 34 then (if splitS (bsL s.data.toList.tail) = [] then .bad 3 else .ok (.leaf 1 (splitS (bsL s.data.toList.tail)) 0) l.tail)
  else if pkB l.tail = sStar then
    (if (smallS s).data.toList.all beginB = true ∧ s.size ≤ 12 then .ok (.leaf 2 [smallS s] 0) l.tail.tail else .bad 3)
  else
    match splitS s with
    | [a] =>
      if pkB l.tail = sNear then
        (if pkB l.tail.tail = sNone ∨ markB (headB (pkB l.tail.tail)) = true then .bad 3
         else match splitS (pkB l.tail.tail) with
          | [b] => .ok (.leaf 3 [a, b] 3) l.tail.tail.tail
          | _ => .bad 3)
      else .ok (.leaf 1 [a] 0) l.tail
    | _ => .bad 3
/-- Whether what must be together ends ahead of a piece. -/
def stopB (s : ByteArray) : Prop := s = sNone ∨ s = sShut ∨ s = sOr
instance (s : ByteArray) : Decidable (stopB s) := by unfold stopB; infer_instance
def allL (oneR : List ByteArray → Rd) : Nat → Qy → List ByteArray → Rd
  | n, q, l =>
    if stopB (pkB l) then .ok q l
    else match n with
      | 0 => .bad 0
      | n + 1 =>
        match oneR (if pkB l = sNot ∨ pkB l = sAnd then l.tail else l) with
        | .bad m => .bad m
        | .ok q' r => allL oneR n (.node (if pkB l = sNot then 6 else 4) q q') r
def allF (oneR : List ByteArray → Rd) (l : List ByteArray) : Rd :=
  match oneR l with
  | .bad m => .bad m
  | .ok q r => allL oneR r.length q r
def anyL (allR : List ByteArray → Rd) : Nat → Qy → List ByteArray → Rd
  | n, q, l =>
    if pkB l = sOr then
      match n with
      | 0 => .bad 0
      | n + 1 =>
        match allR l.tail with
        | .bad m => .bad m
        | .ok q' r => anyL allR n (.node 5 q q') r
    else .ok q l
def anyF (allR : List ByteArray → Rd) (l : List ByteArray) : Rd :=
  match allR l with
  | .bad m => .bad m
  | .ok q r => anyL allR r.length q r
def oneK : Nat → List ByteArray → Rd
  | 0, _ => .bad 4
  | k + 1, l => oneF (fun l => anyF (allF (oneK k)) l) l
def allK (k : Nat) (l : List ByteArray) : Rd := allF (oneK k) l
def anyK (k : Nat) (l : List ByteArray) : Rd := anyF (allK k) l
/-- What a text looks for. -/
def askS (s : ByteArray) : Option Qy × Int :=
  match cutN s.size s.data.toList with
  | none => (none, 3)
  | some l =>
    match anyK 13 l with
    | .bad n => (none, n)
    | .ok q r => if r = [] then (some q, 0) else (none, 3)
/-- What is left is a part of what there was, and shorter. -/
def Less (r l : List ByteArray) : Prop := r <:+ l ∧ r.length < l.length
theorem pk_cons {l : List ByteArray} (h : pkB l ≠ sNone) : ∃ a t, l = a :: t ∧ pkB l = a := by
  cases l with
  | nil => exact absurd rfl h
  | cons a t => exact ⟨a, t, rfl, rfl⟩
theorem less_tail {l : List ByteArray} (h : pkB l ≠ sNone) : Less l.tail l := by
  obtain ⟨a, t, rfl, _⟩ := pk_cons h
  exact ⟨List.suffix_cons a t, by simp⟩
theorem Less.trans {a b c : List ByteArray} (h : Less a b) (k : Less b c) : Less a c := ⟨h.1.trans k.1, by have := h.2; have := k.2; omega⟩
theorem Less.tail {r l : List ByteArray} (h : Less r l) : Less r.tail l := ⟨(List.tail_suffix r).trans h.1, by have := h.2; have : r.tail.length ≤ r.length := (by simp); omega⟩
theorem one_less (anyR : List ByteArray → Rd) (ha : ∀ l q r, anyR l = .ok q r → Less r l) (l : List ByteArray) (q : Qy) (r : List ByteArray) (h : oneF anyR l = .ok q r) : Less r l := by
  unfold oneF at h
  dsimp only at h
  split at h
  · cases h
  · rename_i h0
    have hn : pkB l ≠ sNone := fun e => h0 (.inl e)
    have ht := less_tail hn
    split at h
    · split at h
      · cases h
      · rename_i q1 r1 hq
        split at h
        · cases h
          exact ((ha _ _ _ hq).trans ht).tail
        · cases h
    · split at h
      · split at h
        · cases h
        · cases h
          exact ht
      · split at h
        · split at h
          · cases h
            exact ht.tail
          · cases h
        · split at h
          · split at h
            · split at h
              · cases h
              · split at h
                · cases h
                  exact ht.tail.tail
                · cases h
            · cases h
              exact ht
          · cases h
theorem allL_less (oneR : List ByteArray → Rd) (ho : ∀ l q r, oneR l = .ok q r → Less r l) : ∀ (n : Nat) (q : Qy) (l : List ByteArray) (q' : Qy) (r : List ByteArray), allL oneR n q l = .ok q' r → r = l ∨ Less r l := by
  intro n
  induction n with
  | zero =>
    intro q l q' r h
    unfold allL at h
    split at h
    · cases h; exact .inl rfl
    · cases h
  | succ n ih =>
    intro q l q' r h
    unfold allL at h
    split at h
    · cases h; exact .inl rfl
    · dsimp only at h
      split at h
      · cases h
      · rename_i q1 r1 h1
        have h2 := ho _ _ _ h1
        have h3 : Less r1 l := by
          split at h2
          · exact ⟨h2.1.trans (List.tail_suffix l), by have := h2.2; have : l.tail.length ≤ l.length := (by simp); omega⟩
          · exact h2
        rcases ih _ _ _ _ h with rfl | h4
        · exact .inr h3
        · exact .inr (h4.trans h3)
theorem all_less (oneR : List ByteArray → Rd) (ho : ∀ l q r, oneR l = .ok q r → Less r l) (l : List ByteArray) (q : Qy) (r : List ByteArray) (h : allF oneR l = .ok q r) : Less r l := by
  unfold allF at h
  split at h
  · cases h
  · rename_i q1 r1 h1
    rcases allL_less oneR ho _ _ _ _ _ h with rfl | h4
    · exact ho _ _ _ h1
    · exact h4.trans (ho _ _ _ h1)
theorem anyL_less (allR : List ByteArray → Rd) (ho : ∀ l q r, allR l = .ok q r → Less r l) : ∀ (n : Nat) (q : Qy) (l : List ByteArray) (q' : Qy) (r : List ByteArray), anyL allR n q l = .ok q' r → r = l ∨ Less r l := by
  intro n
  induction n with
  | zero =>
    intro q l q' r h
    unfold anyL at h
    split at h
    · cases h
    · cases h; exact .inl rfl
  | succ n ih =>
    intro q l q' r h
    unfold anyL at h
    split at h
    · dsimp only at h
      split at h
      · cases h
      · rename_i q1 r1 h1
        have h2 := ho _ _ _ h1
        have h3 : Less r1 l := ⟨h2.1.trans (List.tail_suffix l), by have := h2.2; have : l.tail.length ≤ l.length := (by simp); omega⟩
        rcases ih _ _ _ _ h with rfl | h4
        · exact .inr h3
        · exact .inr (h4.trans h3)
    · cases h; exact .inl rfl
theorem any_less (allR : List ByteArray → Rd) (ho : ∀ l q r, allR l = .ok q r → Less r l) (l : List ByteArray) (q : Qy) (r : List ByteArray) (h : anyF allR l = .ok q r) : Less r l := by
  unfold anyF at h
  split at h
  · cases h
  · rename_i q1 r1 h1
    rcases anyL_less allR ho _ _ _ _ _ h with rfl | h4
    · exact ho _ _ _ h1
    · exact h4.trans (ho _ _ _ h1)
theorem oneK_less : ∀ (k : Nat) (l : List ByteArray) (q : Qy) (r : List ByteArray), oneK k l = .ok q r → Less r l := by
  intro k
  induction k with
  | zero => intro l q r h; cases h
  | succ k ih => exact fun l q r h => one_less _ (fun l q r h => any_less _ (all_less _ ih) l q r h) l q r h
theorem allK_less (k : Nat) : ∀ (l : List ByteArray) (q : Qy) (r : List ByteArray), allK k l = .ok q r → Less r l := all_less _ (oneK_less k)
theorem anyK_less (k : Nat) : ∀ (l : List ByteArray) (q : Qy) (r : List ByteArray), anyK k l = .ok q r → Less r l := any_less _ (allK_less k)
end Go.Proofs.YthenhglpljdhfaaDoor
