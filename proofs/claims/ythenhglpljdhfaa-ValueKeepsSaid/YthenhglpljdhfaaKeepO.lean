/-
  The contract of 'ordered', of the law ValueKeeps: it returns true.
-/
import Derived.Test.YthenhglpljdhfaaKeep
namespace Go.Proofs.Ythenhglpljdhfaa
open Go Go.RowKit
def okeys : List GVal := [⟨0, 0, ⟨#[]⟩⟩, ⟨1, 1, ⟨#[]⟩⟩, ⟨2, 0, ⟨#[97]⟩⟩]
theorem okeys_fine : firstBad okeys = none := by decide +kernel
theorem okeys_key : keyL okeys = [1, 2, 128, 0, 0, 0, 0, 0, 0, 1, 3, 97, 0] := by decide +kernel
theorem okeys_small (i : Nat) (h : i < okeys.length) : (-9223372036854775808 ≤ okeys[i].num ∧ okeys[i].num ≤ 9223372036854775807) ∧ okeys[i].text.size ≤ 1000000 := by
  have h3 : i < 3 := h
  rcases (show i = 0 ∨ i = 1 ∨ i = 2 by omega) with rfl | rfl | rfl <;> exact ⟨by decide +revert, by decide +revert⟩
theorem okeys_at (w : World) : ValsAt (w.alloc (Obj.cells #[Value.int IntKind.i64 0, Value.int IntKind.i64 0, Value.string { data := #[] }, Value.int IntKind.i64 1,
          Value.int IntKind.i64 1, Value.string { data := #[] }, Value.int IntKind.i64 2, Value.int IntKind.i64 0, Value.string { data := #[97] }] 26)) w.heap.size 0 okeys := by
  intro i h
  have h3 : i < 3 := h
  rcases (show i = 0 ∨ i = 1 ∨ i = 2 by omega) with rfl | rfl | rfl <;> exact ⟨by rw [World.cell?_alloc_new]; rfl, by rw [World.cell?_alloc_new]; rfl, by rw [World.cell?_alloc_new]; rfl⟩
theorem ordered_cmp : cmpV ⟨1, 5, ⟨#[]⟩⟩ ⟨2, 0, ⟨#[]⟩⟩ = -1 := by decide
theorem key_o (w : World) : Calls Try.prog 16 #[.slice (some ⟨w.heap.size, 0, none⟩) 3 3] (w.alloc (Obj.cells #[Value.int IntKind.i64 0, Value.int IntKind.i64 0, Value.string { data := #[] }, Value.int IntKind.i64 1,
          Value.int IntKind.i64 1, Value.string { data := #[] }, Value.int IntKind.i64 2, Value.int IntKind.i64 0, Value.string { data := #[97] }] 26))
    (Ret w (.tuple #[.string ⟨#[1, 2, 128, 0, 0, 0, 0, 0, 0, 1, 3, 97, 0]⟩, .nilIface])) := by
  refine (key_t okeys w.heap.size 0 3 _ (fun _ => rfl) (by decide) okeys_small _ (okeys_at w)).mono ?_
  intro e w' h
  unfold KeyPost at h
  rw [okeys_fine, okeys_key] at h
  exact ⟨h.1, ((Gr.refl w).alloc _).trans h.2⟩
set_option maxHeartbeats 800000 in
theorem ordered_t (w : World) : Calls Try.prog 15 #[] w (Ret w (.bool true)) := by
  go_enter Try.func15, Try.ntmps15
  go_wp2_with fail
  refine (number_t 1 _).mono ?_
  rintro e w1 ⟨rfl, hg1⟩
  go_wp2_with fail
  refine (text_t _ _).mono ?_
  rintro e w2 ⟨rfl, hg2⟩
  have hg := hg1.trans hg2
  clear hg1 hg2
  go_wp2_with fail
  refine (key_o _).mono ?_
  rintro e w3 ⟨rfl, hg3⟩
  have hg' := hg.trans hg3
  clear hg hg3
  go_wp2_with fail
  refine (number_t 5 _).mono ?_
  rintro e w4 ⟨rfl, hg4⟩
  have hg := hg'.trans hg4
  clear hg' hg4
  go_wp2_with fail
  refine (text_t _ _).mono ?_
  rintro e w5 ⟨rfl, hg5⟩
  have hg' := hg.trans hg5
  clear hg hg5
  go_wp2_with fail
  refine (compare_t ⟨1, 5, ⟨#[]⟩⟩ ⟨2, 0, ⟨#[]⟩⟩ _).mono ?_
  rintro e w6 ⟨rfl, hg6⟩
  rw [ordered_cmp]
  have hg := hg'.trans hg6
  clear hg' hg6
  go_wp2_with fail
  go_ret
  exact Ret.mk rfl hg
end Go.Proofs.Ythenhglpljdhfaa
