/-
  The law's fact on three places.
-/
import Derived.Test.YtpgnjjagjlggkaaBackS
import Derived.Test.YtpgnjjagjlggkaaPostVX
namespace Go.Proofs.Ytpgnjjagjlggkaa
open Go Go.RowKit Go.Shelf Go.Lib Go.Sort

def threeP : List GPlace := [(1, 0), (1, 2), (3, 1)]
theorem three_right : placesB threeP = true := by decide
theorem three_text : wS threeP = [3, 0, 4, 5, 1] := by
  have h : writeP threeP = encP (0, 0) (1, 0) ++ encP (1, 0) (1, 2) ++ encP (1, 2) (3, 1) := by
    simp [writeP, wrP, threeP, List.range, List.range.loop, prevAt]
  unfold wS
  rw [three_right, if_pos rfl, h]
  simp [encP, sevenB_small]
set_option maxRecDepth 100000 in
set_option maxHeartbeats 1600000 in
theorem posted_k (w : World) : Calls Try.prog 14 #[] w (Ret w (.bool true)) := by
  have hpl : PlacesAt (w.alloc (.cells #[.int .i64 1, .int .i64 0, .int .i64 1, .int .i64 2, .int .i64 3, .int .i64 1] 60)) w.heap.size 0 threeP := by
    intro i hi
    have hi3 : i < 3 := hi
    have e : ∀ o, (w.alloc (.cells #[.int .i64 1, .int .i64 0, .int .i64 1, .int .i64 2, .int .i64 3, .int .i64 1] 60)).cell? ⟨w.heap.size, o, none⟩ = (#[.int .i64 1, .int .i64 0, .int .i64 1, .int .i64 2, .int .i64 3, .int .i64 1] : Array Value)[o]? := fun o => by
      rw [World.cell?_alloc_new]
    match i, hi3 with
    | 0, _ => exact ⟨(e _).trans rfl, (e _).trans rfl⟩
    | 1, _ => exact ⟨(e _).trans rfl, (e _).trans rfl⟩
    | 2, _ => exact ⟨(e _).trans rfl, (e _).trans rfl⟩
  have hwr := write_p threeP w.heap.size 0 3 (some ⟨w.heap.size, 0, none⟩) (fun _ => rfl) (by decide) _ hpl
  have he : wErr threeP = .nilIface := by
    unfold wErr
    rw [three_right]
    rfl
  rw [three_text, he] at hwr
  clear hpl he
  go_enter Try.func14, Try.ntmps14
  go_wp2_with fail
  refine hwr.mono ?_
  rintro e w1 ⟨rfl, hg⟩
  go_wp2_with fail
  go_ret
  exact Ret.mk rfl (((Gr.refl w).alloc _).trans hg)
end Go.Proofs.Ytpgnjjagjlggkaa
