/-
  Plain laws on the words of a text: of two texts with a gap between; of a text in small letters; and of one word.
-/
import Derived.Test.YthenhglpljdhfaaDoorWordL
namespace Go.Proofs.YthenhglpljdhfaaDoor
open Go

theorem runs_gap1 (p : UInt8 → Bool) (c : UInt8) (hc : p c = false) (r : List UInt8) : ∀ (a cur : List UInt8), runsA p cur (a ++ c :: r) = runsA p cur a ++ runsA p [] r
  | [], cur => by
    have e : runsA p cur (c :: r) = if p c then runsA p (cur ++ [c]) r else if cur.isEmpty then runsA p [] r else cur :: runsA p [] r := rfl
    have e2 : runsA p cur [] = if cur.isEmpty then [] else [cur] := rfl
    rw [List.nil_append, e, e2, hc]
    cases cur <;> simp
  | d :: a, cur => by
    have e : ∀ l, runsA p cur (d :: l) = if p d then runsA p (cur ++ [d]) l else if cur.isEmpty then runsA p [] l else cur :: runsA p [] l := fun _ => rfl
    rw [List.cons_append, e, e]
    split
    · exact runs_gap1 p c hc r a _
    · split
      · exact runs_gap1 p c hc r a _
      · rw [runs_gap1 p c hc r a _]; rfl
theorem runs_gaps (p : UInt8 → Bool) (g r : List UInt8) (h : g.all (fun c => !p c) = true) : runsA p [] (g ++ r) = runsA p [] r := by
  induction g with
  | nil => rfl
  | cons c g ih =>
    simp only [List.all_cons, Bool.and_eq_true, Bool.not_eq_true'] at h
    rw [List.cons_append, runs_skip p _ c h.1, ih h.2]
theorem runs_gap (p : UInt8 → Bool) (a g r : List UInt8) (h : g.all (fun c => !p c) = true) (hg : g ≠ []) : runsA p [] (a ++ g ++ r) = runsA p [] a ++ runsA p [] r := by
  cases g with
  | nil => exact absurd rfl hg
  | cons c g =>
    simp only [List.all_cons, Bool.and_eq_true, Bool.not_eq_true'] at h
    rw [List.append_assoc, List.cons_append, runs_gap1 p c h.1, runs_gaps p g r h.2]

/-- The words of two texts with a gap between are both's. -/
theorem splitS_gap (a g b : ByteArray) (h : g.data.toList.all (fun c => !letterB c) = true) (hg : g.data.toList ≠ []) : splitS (a ++ g ++ b) = splitS a ++ splitS b := by
  rw [splitS_eq, splitS_eq, splitS_eq, data_app, data_app, runs_gap letterB _ _ _ h hg, List.map_append]

theorem smallC_twice (c : UInt8) : smallC (smallC c) = smallC c := by
  have h : ∀ n : Fin 256, smallC (smallC (UInt8.ofNat n.val)) = smallC (UInt8.ofNat n.val) := by decide +kernel
  have := h ⟨c.toNat, c.toNat_lt⟩
  simpa using this
theorem smallS_twice (s : ByteArray) : smallS (smallS s) = smallS s := by
  unfold smallS
  simp [Function.comp_def, smallC_twice]
/-- Size makes no difference. -/
theorem splitS_small (s : ByteArray) : splitS (smallS s) = splitS s := by unfold splitS; rw [smallS_twice]

/-- A byte of a word, in small letters. -/
def fineC (c : UInt8) : Bool := letterB c && (smallC c == c)
def FineW (l : List UInt8) : Prop := l ≠ [] ∧ l.length ≤ 12 ∧ l.all fineC = true

theorem runs_all (p : UInt8 → Bool) : ∀ (l cur : List UInt8), cur.all p = true → ∀ x ∈ runsA p cur l, x ≠ [] ∧ x.all p = true
  | [], cur, h, x, hx => by
    rw [runsA] at hx
    split at hx
    · simp at hx
    · simp only [List.mem_singleton] at hx; subst hx
      exact ⟨by rename_i h; simpa using h, h⟩
  | c :: l, cur, h, x, hx => by
    rw [runsA] at hx
    split at hx
    · rename_i hc
      exact runs_all p l _ (by simp [List.all_append, h, hc]) x hx
    · split at hx
      · exact runs_all p l [] rfl x hx
      · rename_i hn
        rcases List.mem_cons.1 hx with rfl | hx
        · exact ⟨by simpa using hn, h⟩
        · exact runs_all p l [] rfl x hx
theorem fine_small (c : UInt8) (h : letterB c = true) : fineC (smallC c) = true := by
  unfold fineC; rw [letter_small, h, smallC_twice]; simp
theorem ends_fine : endsT.all (fun e => e.2.all fineC && decide (e.2.length ≤ e.1.length)) = true := by decide +kernel
theorem stemL_fine : ∀ (E : List (List UInt8 × List UInt8)) (l : List UInt8), E.all (fun e => e.2.all fineC && decide (e.2.length ≤ e.1.length)) = true → FineW l → FineW (stemL E l)
  | [], l, _, h => h
  | (e, r) :: E, l, hE, h => by
    simp only [List.all_cons, Bool.and_eq_true, decide_eq_true_eq] at hE
    unfold stemL
    split
    · rename_i hs
      split
      · exact h
      · rename_i hl
        refine ⟨?_, ?_, ?_⟩
        · intro hn
          have := congrArg List.length hn
          simp only [List.length_append, List.length_take, List.length_nil] at this
          omega
        · have h1 := (List.isSuffixOf_iff_suffix.1 hs).length_le
          have h2 := h.2.1
          have h3 := hE.1.2
          simp only [List.length_append, List.length_take]
          omega
        · rw [List.all_append, hE.1.1]
          simp only [Bool.and_true, List.all_eq_true]
          intro c hc
          exact List.all_eq_true.1 h.2.2 c (List.mem_of_mem_take hc)
    · exact stemL_fine E l (by simpa using hE.2) h
/-- A word is some letters, twelve at most, in small letters. -/
theorem splitS_fine (s : ByteArray) : ∀ w ∈ splitS s, FineW w.data.toList := by
  intro w hw
  rw [splitS_eq] at hw
  obtain ⟨x, hx, rfl⟩ := List.mem_map.1 hw
  obtain ⟨h1, h2⟩ := runs_all letterB _ [] rfl x hx
  have e : (wordY (x.map smallC)).data.toList = stemL endsT ((x.map smallC).take 12) := by unfold wordY stemS; simp
  rw [e]
  refine stemL_fine _ _ ends_fine ⟨?_, ?_, ?_⟩
  · cases x with
    | nil => exact absurd rfl h1
    | cons c x => simp
  · simp only [List.length_take]; omega
  · rw [List.all_eq_true]
    intro c hc
    obtain ⟨d, hd, rfl⟩ := List.mem_map.1 (List.mem_of_mem_take hc)
    exact fine_small d (List.all_eq_true.1 h2 d hd)
theorem fine_smallS (w : ByteArray) (h : FineW w.data.toList) : smallS w = w := by
  apply bytes_ext
  unfold smallS
  have : ∀ l : List UInt8, l.all fineC = true → l.map smallC = l := by
    intro l
    induction l with
    | nil => intro _; rfl
    | cons c l ih =>
      intro h
      simp only [List.all_cons, Bool.and_eq_true] at h
      have h1 := h.1
      unfold fineC at h1
      simp only [Bool.and_eq_true, beq_iff_eq] at h1
      rw [List.map_cons, h1.2, ih h.2]
  simpa using this _ h.2.2
theorem fine_split (w : ByteArray) (h : FineW w.data.toList) : (splitS w).length = 1 := by
  rw [splitS_eq, List.length_map, runs_last letterB _ _ h.1]
  · rfl
  · rw [List.all_eq_true]
    intro c hc
    have := List.all_eq_true.1 h.2.2 c hc
    unfold fineC at this
    simp only [Bool.and_eq_true] at this
    exact this.1
end Go.Proofs.YthenhglpljdhfaaDoor
