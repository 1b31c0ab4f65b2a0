/-
  What a call does that writes to some blocks: a disk and a map in other blocks stay.
-/
import Derived.Test.YtcdoeninajpbmaaGreatDoorGrXX
import Derived.Test.YtcdoeninajpbmaaGreatDoorDisk
import Derived.Test.YtcdoeninajpbmaaGreatDoorMapS
namespace Go.Proofs.YtcdoeninajpbmaaGreatDoor
open Go Go.RowKit

theorem DiskAt.keepX {S : Nat → Prop} {w w' : World} {B : Nat} {pg : Nat → ByteArray} {cut : Bool} {left torn : Int} (h : DiskAt w B pg cut left torn) (g : GrX S w w') (hs : ¬ S B) : DiskAt w' B pg cut left torn :=
  ⟨fun k hk => g.keeps hs (h.1 k hk), g.keeps hs h.2.1, g.keeps hs h.2.2.1, g.keeps hs h.2.2.2.1, fun o => (g.frozen o (lt_of_cell h.2.1) hs).trans (h.2.2.2.2 o)⟩
theorem MapAt.block {w w' : World} {M n : Nat} {F : Int → Option ByteArray} (h : MapAt w M n F) (hb : w'.heap[M]? = w.heap[M]?) : MapAt w' M n F := by
  obtain ⟨D, ⟨es, clock, h1, h2⟩, h3⟩ := h
  exact ⟨D, ⟨es, clock, hb.trans h1, h2⟩, h3⟩
theorem MapAt.lt {w : World} {M n : Nat} {F : Int → Option ByteArray} (h : MapAt w M n F) : M < w.heap.size := by
  obtain ⟨D, ⟨es, clock, h1, h2⟩, h3⟩ := h
  exact (Array.getElem?_eq_some_iff.1 h1).1
theorem MapAt.keepX {S : Nat → Prop} {w w' : World} {M n : Nat} {F : Int → Option ByteArray} (h : MapAt w M n F) (g : GrX S w w') (hs : ¬ S M) : MapAt w' M n F := h.block (g.block h.lt hs)
end Go.Proofs.YtcdoeninajpbmaaGreatDoor
