/-
  A disk on which nothing is left to do: what a commit makes of it, and an opening.
-/
import Derived.Test.YtcdoeninajpbmaaGreatDoorPagC
namespace Go.Proofs.YtcdoeninajpbmaaGreatDoor
open Go Go.RowKit

/-- A new disk. -/
def dk0 : Dk := ⟨fun _ => ⟨#[]⟩, false, 0, 0⟩
/-- What a new disk's pager has. -/
def headZ : Head := ⟨fun i => i == 0, fun _ => 0, fun _ => 0⟩
theorem headZ_fine : headZ.fine := ⟨rfl, fun _ _ => ⟨by show (0 : Int) ≤ 0; omega, by show (0 : Int) < 2000; omega⟩, fun _ _ => ⟨by show (0 : Int) ≤ 0; omega, by show (0 : Int) < 65536; omega⟩⟩
theorem pgGet_empty (k : Nat) : pgGet dk0.pg k = zerosB := by
  unfold pgGet
  rw [if_pos]
  rw [ByteArray.toList_eq]
  rfl
theorem headD_zero : headD dk0.pg = headZ := by
  unfold headD
  rw [pgGet_empty]
  unfold readsF headZ fromF
  congr 1
  · funext i
    rw [zeros_getD]
    simp
  · funext i
    rw [zeros_getD, zeros_getD]
    rfl
  · funext i
    rw [zeros_getD, zeros_getD]
    rfl
/-- Nothing is left to do: the log is empty, and the head stands in its place. -/
structure Clean (d : Dk) (sv : Head) : Prop where
  whole : d.whole
  log : pgGet d.pg 2000 = zerosB
  head : (headD d.pg).same sv
  fine : sv.fine
theorem clean0 : Clean dk0 headZ := ⟨fun k _ => by rw [pgGet_empty]; exact zerosB_sz, pgGet_empty _, by rw [headD_zero]; exact Head.same.refl _, headZ_fine⟩
theorem Clean.openE {d : Dk} {sv : Head} (h : Clean d sv) : openE d.pg = [] := by
  unfold Go.Proofs.YtcdoeninajpbmaaGreatDoor.openE
  rw [if_pos (logged_zeros h.log)]
set_option maxRecDepth 100000 in
theorem Clean.commit {d : Dk} {sv : Head} (h : Clean d sv) {c : Ch} (hc : c.fine) (ok : (wrsD d (commitE c.h c.F)).1 = true) :
    Clean (wrsD d (commitE c.h c.F)).2 c.h ∧ ∀ k : Nat, 1 ≤ k → k < 2000 → pgGet (wrsD d (commitE c.h c.F)).2.pg k = pageNow d.pg c.F k := by
  obtain ⟨h1, h2⟩ := (commit_crash (commit_cm hc.dirty) h.log).1 ok
  have hn := commit_new hc.dirty d.pg
  have e0 : pgGet (wrsD d (commitE c.h c.F)).2.pg 0 = textB c.h := (h1.2 0 (by omega)).trans hn.1
  exact ⟨⟨wrsD_whole _ h.whole (commitE_ok hc.dirty c.h), h2, head_same hc.head e0, hc.head⟩, fun k k1 k2 => (h1.2 k k2).trans (hn.2 k k1 k2)⟩
set_option maxRecDepth 100000 in
theorem Clean.commit0 {d : Dk} {sv : Head} (h : Clean d sv) {c : Ch} (hc : c.fine) (ok : (wrsD d (commitE c.h c.F)).1 = true) : pgGet (wrsD d (commitE c.h c.F)).2.pg 0 = textB c.h := by
  obtain ⟨h1, h2⟩ := (commit_crash (commit_cm hc.dirty) h.log).1 ok
  exact (h1.2 0 (by omega)).trans (commit_new hc.dirty d.pg).1
set_option maxRecDepth 100000 in
theorem wrsD_power {d : Dk} (h : d.cut = false) (l : List (Nat × ByteArray)) : (wrsD d l).1 = true ∧ (wrsD d l).2.cut = false ∧ (wrsD d l).2.left = d.left - l.length := by
  rw [wrsD_on l h]
  exact ⟨rfl, h, rfl⟩
set_option maxRecDepth 100000 in
theorem usedN_put (h : Head) (k : Nat) (hk : h.used k = false) : ∀ n, usedN (h.put k true) n = usedN h n + if k < n then 1 else 0
  | 0 => rfl
  | n + 1 => by
    have e0 : (h.put k true).used n = if n = k then true else h.used n := rfl
    unfold usedN
    rw [usedN_put h k hk n, e0]
    by_cases e : n = k
    · subst e
      simp [hk]
    · by_cases e2 : k < n
      · have e3 : k < n + 1 := by omega
        simp only [if_pos e2, if_pos e3, if_neg e]
        omega
      · have e3 : ¬ k < n + 1 := by omega
        simp only [if_neg e2, if_neg e3, if_neg e]
        omega
theorem usedN_zero : ∀ n, usedN headZ (n + 1) = 1
  | 0 => rfl
  | n + 1 => by
    have e0 : headZ.used (n + 1) = false := rfl
    have ih := usedN_zero n
    rw [usedN, ih, e0]
    rfl
theorem inUse_nat (h : Head) {k : Nat} (h1 : 1 ≤ k) (h2 : k < 2000) : inUse h (k : Int) = h.used k := by
  unfold inUse
  rw [decide_eq_true (by omega), decide_eq_true (by omega)]
  simp
end Go.Proofs.YtcdoeninajpbmaaGreatDoor
