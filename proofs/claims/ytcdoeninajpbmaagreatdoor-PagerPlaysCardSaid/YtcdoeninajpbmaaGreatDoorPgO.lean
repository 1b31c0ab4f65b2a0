/-
  A new disk, and an opening where nothing is left to do.
-/
import Derived.Test.YtcdoeninajpbmaaGreatDoorPagI
import Derived.Test.YtcdoeninajpbmaaGreatDoorPagJ
namespace Go.Proofs.YtcdoeninajpbmaaGreatDoor
open Go Go.RowKit

theorem PgF.gr {PB DB M M' : Nat} {w0 w w' : World} (h : PgF PB DB M M' w w') (g0 : Gr w0 w) (h1 : w0.heap.size ≤ PB) (h2 : w0.heap.size ≤ DB) (h3 : w0.heap.size ≤ M) : Gr w0 w' ∧ w0.heap.size ≤ M' := by
  refine ⟨h.2.gr g0 fun k e => ?_, ?_⟩
  · rcases e with rfl | rfl | rfl <;> assumption
  · have := g0.size
    rcases h.1 with e | e <;> omega
theorem zero_disk : Tryz.zeroCells26 = Array.replicate 4001 (.string ⟨#[]⟩) ++ #[.bool false, .int .i64 0, .int .i64 0] := by kernel_rfl
/-- A disk that has just been made. -/
theorem disk_made (w : World) : DkAt (w.alloc (.cells Tryz.zeroCells26 26)) w.heap.size dk0 := by
  rw [zero_disk]
  refine ⟨fun k hk => ?_, ?_, ?_, ?_, fun o => by simp⟩
  · rw [World.cell?_alloc_new, Array.getElem?_append_left (by simpa using hk)]
    simp [hk, dk0]
  all_goals
    rw [World.cell?_alloc_new, Array.getElem?_append_right (by simp)]
    simp [dk0]
set_option maxRecDepth 100000 in
/-- An opening, where nothing is left to do. -/
theorem open_s (DB : Nat) (d : Dk) (sv : Head) (w : World) (hd : DkAt w DB d) (hc : Clean d sv) (hl : -890000 ≤ d.left ∧ d.left ≤ 1000000) :
    Calls Tryz.prog 4 #[.pointer (some ⟨DB, 0, none⟩)] w fun e w' => ∃ PB M, e = .returned (.tuple #[.pointer (some ⟨PB, 0, none⟩), .nilIface]) ∧ PgS w' PB DB M 0 (.new (headD d.pg)) (headD d.pg) 0 d ∧ w.heap.size ≤ PB ∧ w.heap.size ≤ M ∧ GrX (fun b => b = DB) w w' := by
  have hlt := hd.lt
  refine (open_g DB d w hd hc.whole hl).mono ?_
  rintro e w' ⟨h1, h2, h3⟩
  rw [hc.openE] at h1 h3
  rw [wrsD_nil] at h1 h3
  rw [if_pos rfl] at h3
  obtain ⟨PB, M, rfl, h4, h5, h6⟩ := h3
  exact ⟨PB, M, rfl, ⟨⟨0, Nat.le_refl _, h4⟩, h1, by omega, by omega⟩, h5, h6, h2⟩
end Go.Proofs.YtcdoeninajpbmaaGreatDoor
