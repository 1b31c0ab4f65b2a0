/-
  Structs of many cells, built of their parts.
-/
import Derived.Test.YtcdoeninajpbmaaPagH
import Derived.Laws.Tables
namespace Go.Proofs.Ytcdoeninajpbmaa
open Go Go.RowKit

theorem fold_set_size (off : Nat) : ∀ (vs : List Value) (s : Nat) (cs : Array Value), ((vs.zipIdx s).foldl (fun cs (x : Value × Nat) => cs.setIfInBounds (off + x.2) x.1) cs).size = cs.size
  | [], _, _ => rfl
  | v :: vs, s, cs => by
    rw [List.zipIdx_cons, List.foldl_cons, fold_set_size off vs (s + 1)]
    simp
theorem fold_set_get (off : Nat) : ∀ (vs : List Value) (s : Nat) (cs : Array Value) (k : Nat), off + s + vs.length ≤ cs.size →
    ((vs.zipIdx s).foldl (fun cs (x : Value × Nat) => cs.setIfInBounds (off + x.2) x.1) cs)[k]? = if off + s ≤ k ∧ k < off + s + vs.length then vs[k - (off + s)]? else cs[k]?
  | [], s, cs, k, _ => by
    rw [if_neg (by simp only [List.length_nil]; omega)]
    rfl
  | v :: vs, s, cs, k, h => by
    rw [List.length_cons] at h
    rw [List.zipIdx_cons, List.foldl_cons, fold_set_get off vs (s + 1) _ k (by simp; omega), List.length_cons]
    by_cases h1 : off + s = k
    · subst h1
      rw [if_neg (by omega), if_pos (by omega), Nat.sub_self, List.getElem?_cons_zero, Array.getElem?_setIfInBounds_self_of_lt (by omega)]
    · by_cases h2 : off + (s + 1) ≤ k ∧ k < off + (s + 1) + vs.length
      · rw [if_pos h2, if_pos (by omega), show k - (off + s) = (k - (off + (s + 1))) + 1 by omega, List.getElem?_cons_succ]
      · rw [if_neg h2, if_neg (by omega), Array.getElem?_setIfInBounds_ne h1]
theorem fill_one (place : Nat → Option (Nat × Nat)) (cells : Array Value) (i : Nat) (v : Value) (rest : List (Nat × Value)) (off size : Nat) (hp : place i = some (off, size)) (hs : v.cells.size = size) (hb : off + size ≤ cells.size) :
    Instr.fill place cells ((i, v) :: rest) = Instr.fill place ((v.cells.toList.zipIdx 0).foldl (fun cs (x : Value × Nat) => cs.setIfInBounds (off + x.2) x.1) cells) rest := by
  rw [Instr.fill, hp]
  simp only
  rw [if_neg (by simp; omega)]
  congr 1
  rw [← Array.foldl_toList, Array.toList_zipIdx]
/-- A noted state's cells. -/
def markCells (h : Head) (m : Option Nat) (times : Int) : List Value := h.cells ++ [.map m, .int .i64 times]
theorem markCells_len (h : Head) (m : Option Nat) (times : Int) : (markCells h m times).length = 2018 := by
  rw [markCells, List.length_append, Head.cells_len]
  rfl
theorem markCells_one (h : Head) (m : Option Nat) (times : Int) : ∀ v ∈ markCells h m times, v.oneCell' = true := by
  intro v hv
  rcases List.mem_append.1 hv with hv | hv
  · exact Head.cells_one h v hv
  · simp only [List.mem_cons, List.not_mem_nil, or_false] at hv
    rcases hv with rfl | rfl <;> rfl
set_option maxRecDepth 100000 in
theorem fill_mark_places (L : List (Nat × Value)) : Try.prog.built 42 L = Instr.fill (fun i => (#[(0, 2016), (2016, 1), (2017, 1)] : Array (Nat × Nat))[i]?) Try.zeroCells42 L := by kernel_rfl
set_option maxRecDepth 100000 in
theorem zero_mark_size : Try.zeroCells42.size = 2018 := by kernel_rfl
set_option maxRecDepth 100000 in
theorem info_mark : (Try.prog.info? 42).map (·.size) = some 2018 := by kernel_rfl
set_option maxRecDepth 100000 in
theorem built_mark (h : Head) (m : Option Nat) (times : Int) : Try.prog.built 42 [(0, .agg h.cells.toArray), (1, .map m), (2, .int .i64 times)] = some (markCells h m times).toArray := by
  have hz := zero_mark_size
  rw [fill_mark_places]
  generalize Try.zeroCells42 = Z at *
  have hl : (Value.agg h.cells.toArray).cells.size = 2016 := h.arr_len
  have hl2 : (Value.map m).cells.size = 1 := rfl
  have hl3 : (Value.int .i64 times).cells.size = 1 := rfl
  rw [fill_one _ _ 0 _ _ 0 2016 rfl hl (by omega), fill_one _ _ 1 _ _ 2016 1 rfl hl2 (by rw [fold_set_size]; omega), fill_one _ _ 2 _ _ 2017 1 rfl hl3 (by rw [fold_set_size, fold_set_size]; omega), Instr.fill]
  refine congrArg some ?_
  have h1 : (Value.agg h.cells.toArray).cells.toList = h.cells := rfl
  have h2 : (Value.map m).cells.toList = [.map m] := rfl
  have h3 : (Value.int .i64 times).cells.toList = [.int .i64 times] := rfl
  rw [h1, h2, h3]
  have hcl := h.cells_len
  apply Array.ext_getElem?
  intro k
  rw [fold_set_get 2017 _ 0 _ k (by rw [fold_set_size, fold_set_size, hz]; simp), fold_set_get 2016 _ 0 _ k (by rw [fold_set_size, hz]; simp), fold_set_get 0 _ 0 _ k (by rw [hcl]; omega), hcl]
  have hR : (markCells h m times).toArray[k]? = (h.cells ++ [Value.map m, Value.int .i64 times])[k]? := List.getElem?_toArray
  rw [hR]
  by_cases e1 : k < 2016
  · rw [if_neg (by omega), if_neg (by omega), if_pos (by omega), List.getElem?_append_left (by omega)]
    rfl
  · rw [List.getElem?_append_right (by omega), hcl]
    by_cases e2 : k = 2016
    · subst e2
      rw [if_neg (by omega), if_pos (by simp)]
      rfl
    · by_cases e3 : k = 2017
      · subst e3
        rw [if_pos (by simp)]
        rfl
      · rw [if_neg (by simp; omega), if_neg (by simp; omega), if_neg (by omega), Array.getElem?_eq_none (by omega), List.getElem?_eq_none (by simp; omega)]
set_option maxRecDepth 100000 in
theorem built_pager (p : Option Addr) (m : Option Nat) : Try.prog.built 58 [(0, .pointer p), (2, .map m)] = some ((Try.zeroCells58.setIfInBounds 0 (.pointer p)).setIfInBounds 2017 (.map m)) := by kernel_rfl
end Go.Proofs.Ytcdoeninajpbmaa
