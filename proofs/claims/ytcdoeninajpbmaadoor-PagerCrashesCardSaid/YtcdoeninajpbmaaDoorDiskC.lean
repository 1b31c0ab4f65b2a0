/-
  The contract of the disk's Cut.
-/
import Derived.Test.YtcdoeninajpbmaaDoorDisk
namespace Go.Proofs.YtcdoeninajpbmaaDoor
open Go Go.RowKit

theorem cut_d (B : Nat) (pg : Nat → ByteArray) (cut : Bool) (left torn : Int) (n t : Int) (w : World) (h : DiskAt w B pg cut left torn) :
    Calls Tryd.prog 9 #[.pointer (some ⟨B, 0, none⟩), .int .i64 n, .int .i64 t] w fun e w' => e = .returned (.tuple #[]) ∧ DiskAt w' B pg (decide (0 ≤ n)) (max n 0) t ∧ w.grownBy w' (some B) := by
  have h1 := h.2.1
  have h2 := h.2.2.1
  have h3 := h.2.2.2.1
  have z1 := h.2.2.2.2 4001
  have z2 := h.2.2.2.2 4002
  have z3 := h.2.2.2.2 4003
  have H := Lib.hid h
  clear h
  go_enter Tryd.func9, Tryd.ntmps9
  go_wp2
  refine bodyPost_end (v := .tuple #[]) (by simp [results, Tryd.results9, go_sem]) rfl ?_
  refine ⟨rfl, ?_, ?_⟩
  · exact ((H.out.putCut _).putLeft _).putTorn _
  · exact ((grownBy_setCell _ _ _ _).trans (grownBy_setCell _ _ _ _)).trans (grownBy_setCell _ _ _ _)
end Go.Proofs.YtcdoeninajpbmaaDoor
