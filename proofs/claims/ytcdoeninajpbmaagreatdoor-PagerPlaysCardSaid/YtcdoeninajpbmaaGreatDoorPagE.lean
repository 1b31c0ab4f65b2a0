/-
  Structs of many cells, built of their parts.
-/
import Derived.Test.YtcdoeninajpbmaaGreatDoorPagH
import Derived.Laws.Tables
namespace Go.Proofs.YtcdoeninajpbmaaGreatDoor
open Go Go.RowKit

theorem fold_set_size (off : Nat) : ∀ (vs : List Value) (s : Nat) (cs : Array Value), ((vs.zipIdx s).foldl (fun cs (x : Value × Nat) => cs.setIfInBounds (off + x.2) x.1) cs).size = cs.size
  | [], _, _ => rfl
  | v :: vs, s, cs => by
    rw [List.zipIdx_cons, List.foldl_cons, fold_set_size off vs (s + 1)]
    simp
theorem fold_set_get (off : Nat) : ∀ (vs : List Value) (s : Nat) (cs : Array Value) (k : Nat), off + s + vs.length ≤ cs.size →
    ((vs.zipIdx s).foldl (fun cs (x : Value × Nat) => cs.setIfInBounds (off + x.2) x.1) cs)[k]? = if off + s ≤ k ∧ k < off + s + vs.length then vs[k - (off + s)]? else cs[k]?
  | [], s, cs, k, _ => by
    rw [if_neg (by simp only [List.length_nil]; omega)]
    rfl
  | v :: vs, s, cs, k, h => by
    rw [List.length_cons] at h
    rw [List.zipIdx_cons, List.foldl_cons, fold_set_get off vs (s + 1) _ k (by simp; omega), List.length_cons]
    by_cases h1 : off + s = k
    · subst h1
      rw [if_neg (by omega), if_pos (by omega), Nat.sub_self, List.getElem?_cons_zero, Array.getElem?_setIfInBounds_self_of_lt (by omega)]
    · by_cases h2 : off + (s + 1) ≤ k ∧ k < off + (s + 1) + vs.length
      · rw [if_pos h2, if_pos (by omega), show k - (off + s) = (k - (off + (s + 1))) + 1 by omega, List.getElem?_cons_succ]
      · rw [if_neg h2, if_neg (by omega), Array.getElem?_setIfInBounds_ne h1]
theorem fill_one (place : Nat → Option (Nat × Nat)) (cells : Array Value) (i : Nat) (v : Value) (rest : List (Nat × Value)) (off size : Nat) (hp : place i = some (off, size)) (hs : v.cells.size = size) (hb : off + size ≤ cells.size) :
    Instr.fill place cells ((i, v) :: rest) = Instr.fill place ((v.cells.toList.zipIdx 0).foldl (fun cs (x : Value × Nat) => cs.setIfInBounds (off + x.2) x.1) cells) rest := by
  rw [Instr.fill, hp]
  simp only
  rw [if_neg (by simp; omega)]
  congr 1
  rw [← Array.foldl_toList, Array.toList_zipIdx]
end Go.Proofs.YtcdoeninajpbmaaGreatDoor
