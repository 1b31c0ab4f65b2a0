/-
  What a disk has on which the power went off, when it is opened again, and again: plain.
-/
import Derived.Test.YtcdoeninajpbmaaDoorPagJ
namespace Go.Proofs.YtcdoeninajpbmaaDoor
open Go Go.RowKit

theorem fine_same {h g : Head} (f : h.fine) (s : g.same h) : g.fine :=
  ⟨by rw [s.1 0 (by omega)]; exact f.zero, fun i hi => by rw [(s.2 i hi).1]; exact f.root i hi, fun i hi => by rw [(s.2 i hi).2]; exact f.note i hi⟩
/-- One of the three. -/
def Three (c : Ch) (pg0 pg : Nat → ByteArray) : Prop := ClsA pg0 pg ∨ ClsB (pagesF c.F) (textsF c.h c.F) pg0 pg ∨ ClsC (pagesF c.F) (textsF c.h c.F) pg0 pg
/-- One of the two that need nothing more. -/
def TwoC (c : Ch) (pg0 pg : Nat → ByteArray) : Prop := ClsA pg0 pg ∨ ClsC (pagesF c.F) (textsF c.h c.F) pg0 pg
theorem TwoC.three {c : Ch} {pg0 pg : Nat → ByteArray} (h : TwoC c pg0 pg) : Three c pg0 pg := h.elim .inl fun h => .inr (.inr h)
theorem TwoC.none {c : Ch} {pg0 pg : Nat → ByteArray} (h : TwoC c pg0 pg) : openE pg = [] := by
  have e : loggedP pg = [] := h.elim (fun h => h.1) fun h => h.1
  unfold openE
  rw [if_pos e]
set_option maxRecDepth 100000 in
theorem three_open {c : Ch} (hc : c.fine) {pg0 : Nat → ByteArray} {d : Dk} (hw : d.whole) (h : Three c pg0 d.pg) :
    (wrsD d (openE d.pg)).2.whole ∧ ((wrsD d (openE d.pg)).1 = true → TwoC c pg0 (wrsD d (openE d.pg)).2.pg) ∧ ((wrsD d (openE d.pg)).1 = false → Three c pg0 (wrsD d (openE d.pg)).2.pg) := by
  have hwh := wrsD_whole _ hw (openE_ok hw)
  refine ⟨hwh, ?_⟩
  by_cases h2 : TwoC c pg0 d.pg
  · rw [h2.none, wrsD_nil]
    exact ⟨fun _ => h2, fun e => by cases e⟩
  · have hb : ClsB (pagesF c.F) (textsF c.h c.F) pg0 d.pg := by
      rcases h with h | h | h
      · exact absurd (.inl h) h2
      · exact h
      · exact absurd (.inr h) h2
    have cm := commit_cm hc.dirty
    obtain ⟨e1, e2⟩ := logged_whole cm.rise cm.len hb.1 hb.2.1
    have hne : loggedP d.pg ≠ [] := by rw [e1]; unfold pagesF; simp
    have eo : openE d.pg = settleE (pagesF c.F) (textsF c.h c.F) := by
      unfold openE
      rw [if_neg hne, e1, e2]
    obtain ⟨s1, s2⟩ := settle_crash cm hb
    rw [eo]
    exact ⟨fun e => .inr (s1 e).1, fun e => (s2 e).elim (fun h => .inr (.inl h)) fun h => .inr (.inr h)⟩
/-- What is read then. -/
theorem two_all {c : Ch} (hc : c.fine) {sv : Head} (hs : sv.fine) {pg0 pg : Nat → ByteArray} (h0 : pgGet pg0 0 = textB sv) (h : TwoC c pg0 pg) :
    (headD pg).fine ∧ (allT (.new (headD pg)) pg = allT (.new sv) pg0 ∨ allT (.new (headD pg)) pg = allT c pg0) := by
  rcases h with h | h
  · exact ⟨fine_same hs (head_same hs ((h.2 0 (by omega)).trans h0)), .inl (allT_old hs h0 h.2)⟩
  · have hn := (commit_new hc.dirty pg0).1
    exact ⟨fine_same hc.head (head_same hc.head ((h.2 0 (by omega)).trans hn)), .inr (allT_settled hc h.2)⟩
set_option maxRecDepth 100000 in
/-- A commit, the power being on: whatever the log had. -/
theorem commit_on {c : Ch} (hc : c.fine) {d : Dk} (hw : d.whole) (hon : (wrsD d (commitE c.h c.F)).1 = true) : allT (.new c.h) (wrsD d (commitE c.h c.F)).2.pg = allT c d.pg ∧ (wrsD d (commitE c.h c.F)).2.whole := by
  refine ⟨allT_commit hc fun k hk => ?_, wrsD_whole _ hw (commitE_ok hc.dirty c.h)⟩
  rw [wrsD_pg _ hon]
  unfold commitE
  rw [putsP_append]
  unfold settleE
  rw [putsP_append]
  have cm := commit_cm hc.dirty
  have e1 : ∀ k, k < 2000 → pgGet (putsP d.pg (logsE (pagesF c.F) (textsF c.h c.F))) k = pgGet d.pg k := fun k hk => by
    refine puts_out _ _ _ fun x hx => ?_
    unfold logsE at hx
    rcases List.mem_append.1 hx with hx | hx
    · obtain ⟨i, _, rfl⟩ := List.mem_map.1 hx
      show 2001 + i ≠ k
      omega
    · rw [List.mem_singleton.1 hx]
      show 2000 ≠ k
      omega
  have e2 : ∀ pg, pgGet (putsP pg [(2000, zerosB)]) k = pgGet pg k := fun pg => puts_out _ _ _ fun x hx => by
    rw [List.mem_singleton.1 hx]
    show 2000 ≠ k
    omega
  rw [e2]
  exact cm.newP_eq fun _ => e1 k hk
set_option maxRecDepth 100000 in
/-- A commit of which the power may go off. -/
theorem commit_three {c : Ch} (hc : c.fine) {d : Dk} (hw : d.whole) (h0 : pgGet d.pg 2000 = zerosB) (hoff : (wrsD d (commitE c.h c.F)).1 = false) : Three c d.pg (wrsD d (commitE c.h c.F)).2.pg ∧ (wrsD d (commitE c.h c.F)).2.whole :=
  ⟨(commit_crash (commit_cm hc.dirty) h0).2 hoff, wrsD_whole _ hw (commitE_ok hc.dirty c.h)⟩
end Go.Proofs.YtcdoeninajpbmaaDoor
