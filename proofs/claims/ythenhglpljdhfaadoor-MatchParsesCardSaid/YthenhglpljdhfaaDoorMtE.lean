/-
  concordanceref.asker: its steps.
-/
import Derived.Test.YthenhglpljdhfaaDoorMtQ2
import Derived.WalkLawsBesides
namespace Go.Proofs.YthenhglpljdhfaaDoor
open Go Go.RowKit

/-- The asker's block: what is left to read, and what was wrong first. -/
def AAt (N : Nat) (w : World) (l : List ByteArray) (bad : Int) : Prop := PAt N w l ∧ w.cell? ⟨N, 1, none⟩ = some (.int .i64 bad) ∧ w.frozen? ⟨N, 1, none⟩ = false
theorem AAt.gr {N : Nat} {w w' : World} {l : List ByteArray} {bad : Int} (h : AAt N w l bad) (g : Gr w w') : AAt N w' l bad := ⟨h.1.gr g, g.keeps h.2.1, (g.frozen 1 (lt_of_cell h.2.1)).trans h.2.2⟩
set_option maxRecDepth 100000 in
theorem peek_t (N : Nat) (l : List ByteArray) (hl : l.length ≤ 1000) (w : World) (h : AAt N w l 0) : Calls Tryd.prog 113 #[.pointer (some ⟨N, 0, none⟩)] w fun e w' => e = .returned (.string (pkB l)) ∧ w' = w := by
  obtain ⟨⟨ao, c, b, off, h1, h2, h3, h4, h5, h6⟩, hb, hz⟩ := h
  cases l with
  | nil =>
    clear h3 h4 h5
    go_enter Tryd.func113, Tryd.ntmps113
    go_wp2_with fail
    go_ret
    exact ⟨rfl, rfl⟩
  | cons a t =>
    obtain rfl := h3 (by simp)
    have h7 := h5 0 (by simp)
    simp only [List.getElem_cons_zero, Nat.add_zero] at h7
    have h8 : ((((a :: t).length : Nat) : Int) == 0) = false := by rw [Bool.eq_false_iff]; intro h; have := beq_iff_eq.1 h; simp at this; omega
    have h9 : 0 < (a :: t).length := by simp
    show Calls _ _ _ _ fun e w' => e = .returned (.string a) ∧ w' = w
    generalize (a :: t).length = m at *
    clear h3 h4 h5
    go_enter Tryd.func113, Tryd.ntmps113
    go_wp2_with fail
    go_ret
    exact ⟨rfl, rfl⟩
set_option maxRecDepth 100000 in
theorem peek_bad (N : Nat) (l : List ByteArray) (bad : Int) (w : World) (h : AAt N w l bad) (hbad : bad ≠ 0) : Calls Tryd.prog 113 #[.pointer (some ⟨N, 0, none⟩)] w fun e w' => e = .returned (.string ⟨#[]⟩) ∧ w' = w := by
  obtain ⟨⟨ao, c, b, off, h1, h2, h3, h4, h5, h6⟩, hb, hz⟩ := h
  have hne : (bad != 0) = true := by simpa using hbad
  clear h3 h4 h5
  by_cases h0 : l.length = 0
  · have h8 : ((l.length : Int) == 0) = true := by simp [h0]
    go_enter Tryd.func113, Tryd.ntmps113
    go_wp2_with fail
    go_ret
    exact ⟨rfl, rfl⟩
  · have h8 : ((l.length : Int) == 0) = false := by rw [Bool.eq_false_iff]; intro h; have := beq_iff_eq.1 h; omega
    go_enter Tryd.func113, Tryd.ntmps113
    go_wp2_with fail
    go_ret
    exact ⟨rfl, rfl⟩
set_option maxRecDepth 100000 in
theorem atake_yes (N : Nat) (a : ByteArray) (t : List ByteArray) (hl : (a :: t).length ≤ 1000) (w : World) (h : AAt N w (a :: t) 0) : Calls Tryd.prog 95 #[.pointer (some ⟨N, 0, none⟩), .string a] w fun e w' => e = .returned (.bool true) ∧ AAt N w' t 0 ∧ GrN N w w' := by
  have hn := peek_t N (a :: t) hl w h
  rw [show pkB (a :: t) = a from rfl] at hn
  obtain ⟨hp, hb, hz⟩ := h
  obtain ⟨ao, c, ao', c', p1, p2, p3, p4⟩ := hp.rest
  have P4 := Lib.hid p4
  have hb' := (World.cell?_setCell_other w ⟨N, 0, none⟩ ⟨N, 1, none⟩ (.slice ao' t.length c') (by simp)).trans hb
  have hz' : (w.setCell ⟨N, 0, none⟩ (.slice ao' t.length c')).frozen? ⟨N, 1, none⟩ = false := by rw [World.frozen?_setCell]; exact hz
  clear hp p4
  go_enter Tryd.func95, Tryd.ntmps95
  go_wp2_with (go_at_call 113; refine hn.mono ?_; rintro e w1 ⟨rfl, rfl⟩)
  go_ret
  exact ⟨rfl, ⟨P4.out, hb', hz'⟩, GrX.setCell _ _ rfl⟩
set_option maxRecDepth 100000 in
theorem atake_no (N : Nat) (l : List ByteArray) (s : ByteArray) (hl : l.length ≤ 1000) (w : World) (h : AAt N w l 0) (hs : pkB l ≠ s) : Calls Tryd.prog 95 #[.pointer (some ⟨N, 0, none⟩), .string s] w fun e w' => e = .returned (.bool false) ∧ w' = w := by
  have hn := peek_t N l hl w h
  generalize pkB l = a at *
  have hne : (a.toList == s.toList) = false := by
    rw [Bool.eq_false_iff]
    intro h
    exact hs (bytes_ext (by rw [beq_iff_eq, ByteArray.toList_eq, ByteArray.toList_eq] at h; exact h))
  clear h hs
  go_enter Tryd.func95, Tryd.ntmps95
  go_wp2_with (go_at_call 113; refine hn.mono ?_; rintro e w1 ⟨rfl, rfl⟩)
  go_ret
  exact ⟨rfl, rfl⟩
set_option maxRecDepth 100000 in
theorem atake_bad (N : Nat) (l : List ByteArray) (bad : Int) (s : ByteArray) (w : World) (h : AAt N w l bad) (hbad : bad ≠ 0) (hs : s ≠ sNone) : Calls Tryd.prog 95 #[.pointer (some ⟨N, 0, none⟩), .string s] w fun e w' => e = .returned (.bool false) ∧ w' = w := by
  have hn := peek_bad N l bad w h hbad
  have hne : s.toList.isEmpty = false := by rw [tl_none]; simpa using hs
  have hne2 : (([] : List UInt8) == s.toList) = false := by
    rw [Bool.eq_false_iff]
    intro h
    rw [← beq_iff_eq.1 h] at hne
    cases hne
  clear h hs
  go_enter Tryd.func95, Tryd.ntmps95
  go_wp2_with (go_at_call 113; refine hn.mono ?_; rintro e w1 ⟨rfl, rfl⟩)
  go_ret
  exact ⟨rfl, rfl⟩
/-- What is wrong is noted, the first time. -/
def notedB (bad e : Int) : Int := if bad = 0 then e else bad
theorem AAt.note {N : Nat} {w : World} {l : List ByteArray} {bad e : Int} (h : AAt N w l bad) : AAt N (w.setCell ⟨N, 1, none⟩ (.int .i64 e)) l e := by
  obtain ⟨⟨ao, c, b, off, h1, h2, h3, h4, h5, h6⟩, hb, hz⟩ := h
  refine ⟨⟨ao, c, b, off, (World.cell?_setCell_other _ _ _ _ (by simp)).trans h1, h2, h3, h4, fun i hi => (World.cell?_setCell_other _ _ _ _ (by simp)).trans (h5 i hi), by rw [World.frozen?_setCell]; exact h6⟩, World.cell?_setCell_same _ _ _ hb, by rw [World.frozen?_setCell]; exact hz⟩
set_option maxRecDepth 100000 in
theorem fails_t (N : Nat) (l : List ByteArray) (bad e : Int) (w : World) (h : AAt N w l bad) : Calls Tryd.prog 73 #[.pointer (some ⟨N, 0, none⟩), .int .i64 e] w fun x w' => x = .returned (.tuple #[]) ∧ AAt N w' l (notedB bad e) ∧ GrN N w w' := by
  have H := Lib.hid h
  have h1 := h.2.1
  have h2 := h.2.2
  unfold notedB
  clear h
  by_cases hb : bad = 0
  · subst hb
    go_enter Tryd.func73, Tryd.ntmps73
    go_wp2_with fail
    go_end0
    exact ⟨rfl, H.out.note, GrX.setCell _ _ rfl⟩
  · have hbb : (bad == 0) = false := by simpa using hb
    rw [if_neg hb]
    go_enter Tryd.func73, Tryd.ntmps73
    go_wp2_with fail
    go_end0
    exact ⟨rfl, H.out, GrX.refl _ _⟩
def APlain (N : Nat) (w : World) (l : List ByteArray) (ws : List ByteArray) (e : Ending) (w' : World) : Prop :=
  match ws with
  | [a] => e = .returned (.string a) ∧ Gr w w'
  | _ => ∃ x, e = .returned (.string x) ∧ AAt N w' l 3 ∧ GrN N w w'
set_option maxRecDepth 100000 in
theorem aplain_one (N : Nat) (s a : ByteArray) (hs : s.size ≤ 1000) (h : splitS s = [a]) (w : World) : Calls Tryd.prog 123 #[.pointer (some ⟨N, 0, none⟩), .string s] w (Ret w (.string a)) := by
  have hsp := words_ref s (by omega) w
  rw [h] at hsp
  clear h
  go_enter Tryd.func123, Tryd.ntmps123
  go_wp2_with fail
  refine hsp.mono ?_
  rintro e w1 ⟨v, rfl, hown, hg⟩
  obtain ⟨ao, c, b, rfl, ha, hst⟩ := own_open hown
  obtain rfl := ha (by simp)
  have hc := hst 0 (by simp)
  simp only [List.getElem_cons_zero, Nat.add_zero] at hc
  clear ha hst hown
  go_wp2_with fail
  go_ret
  exact Ret.mk rfl hg
set_option maxRecDepth 100000 in
theorem aplain_bad (N : Nat) (l : List ByteArray) (s : ByteArray) (hs : s.size ≤ 1000) (h : ∀ a, splitS s ≠ [a]) (w : World) (hA : AAt N w l 0) : Calls Tryd.prog 123 #[.pointer (some ⟨N, 0, none⟩), .string s] w fun e w' => e = .returned (.string ⟨#[]⟩) ∧ AAt N w' l 3 ∧ GrN N w w' := by
  have hsp := words_ref s (by omega) w
  have HA := Lib.hid hA
  generalize splitS s = ws at *
  have hb : (((ws.length : Nat) : Int) != 1) = true := by
    rw [bne_iff_ne]
    intro e
    match ws, h with
    | [a], h2 => exact h2 a rfl
    | [], _ => simp at e
    | _ :: _ :: _, _ => simp at e; omega
  clear h hA
  go_enter Tryd.func123, Tryd.ntmps123
  go_wp2_with fail
  refine hsp.mono ?_
  rintro e w1 ⟨v, rfl, hown, hg⟩
  obtain ⟨ao, c, b, rfl, ha, hst⟩ := own_open hown
  clear ha hst hown
  go_wp2_with (go_at_call 73; refine (fails_t N l 0 3 _ (HA.out.gr hg)).mono ?_; rintro e w2 ⟨rfl, hA2, hg2⟩)
  go_ret
  exact ⟨rfl, hA2, (GrX.of_gr hg).trans hg2⟩
end Go.Proofs.YthenhglpljdhfaaDoor
