/-
  A noted state's cells.
-/
import Derived.Test.YtcdoeninajpbmaaGreatDoorPagE
namespace Go.Proofs.YtcdoeninajpbmaaGreatDoor
open Go Go.RowKit

/-- A noted state's cells. -/
def markCells (h : Head) (m : Option Nat) (times : Int) : List Value := h.cells ++ [.map m, .int .i64 times]
theorem markCells_len (h : Head) (m : Option Nat) (times : Int) : (markCells h m times).length = 2018 := by
  rw [markCells, List.length_append, Head.cells_len]
  rfl
theorem markCells_one (h : Head) (m : Option Nat) (times : Int) : ∀ v ∈ markCells h m times, v.oneCell' = true := by
  intro v hv
  rcases List.mem_append.1 hv with hv | hv
  · exact Head.cells_one h v hv
  · simp only [List.mem_cons, List.not_mem_nil, or_false] at hv
    rcases hv with rfl | rfl <;> rfl
set_option maxRecDepth 100000 in
theorem fill_mark_places (L : List (Nat × Value)) : Tryz.prog.built 45 L = Instr.fill (fun i => (#[(0, 2016), (2016, 1), (2017, 1)] : Array (Nat × Nat))[i]?) Tryz.zeroCells45 L := by kernel_rfl
set_option maxRecDepth 100000 in
theorem zero_mark_size : Tryz.zeroCells45.size = 2018 := by kernel_rfl
set_option maxRecDepth 100000 in
theorem info_mark : (Tryz.prog.info? 45).map (·.size) = some 2018 := by kernel_rfl
set_option maxRecDepth 100000 in
theorem built_mark (h : Head) (m : Option Nat) (times : Int) : Tryz.prog.built 45 [(0, .agg h.cells.toArray), (1, .map m), (2, .int .i64 times)] = some (markCells h m times).toArray := by
  have hz := zero_mark_size
  rw [fill_mark_places]
  generalize Tryz.zeroCells45 = Z at *
  have hl : (Value.agg h.cells.toArray).cells.size = 2016 := h.arr_len
  have hl2 : (Value.map m).cells.size = 1 := rfl
  have hl3 : (Value.int .i64 times).cells.size = 1 := rfl
  rw [fill_one _ _ 0 _ _ 0 2016 rfl hl (by omega), fill_one _ _ 1 _ _ 2016 1 rfl hl2 (by rw [fold_set_size]; omega), fill_one _ _ 2 _ _ 2017 1 rfl hl3 (by rw [fold_set_size, fold_set_size]; omega), Instr.fill]
  refine congrArg some ?_
  have h1 : (Value.agg h.cells.toArray).cells.toList = h.cells := rfl
  have h2 : (Value.map m).cells.toList = [.map m] := rfl
  have h3 : (Value.int .i64 times).cells.toList = [.int .i64 times] := rfl
  rw [h1, h2, h3]
  have hcl := h.cells_len
  apply Array.ext_getElem?
  intro k
  rw [fold_set_get 2017 _ 0 _ k (by rw [fold_set_size, fold_set_size, hz]; simp), fold_set_get 2016 _ 0 _ k (by rw [fold_set_size, hz]; simp), fold_set_get 0 _ 0 _ k (by rw [hcl]; omega), hcl]
  have hR : (markCells h m times).toArray[k]? = (h.cells ++ [Value.map m, Value.int .i64 times])[k]? := List.getElem?_toArray
  rw [hR]
  by_cases e1 : k < 2016
  · rw [if_neg (by omega), if_neg (by omega), if_pos (by omega), List.getElem?_append_left (by omega)]
    rfl
  · rw [List.getElem?_append_right (by omega), hcl]
    by_cases e2 : k = 2016
    · subst e2
      rw [if_neg (by omega), if_pos (by simp)]
      rfl
    · by_cases e3 : k = 2017
      · subst e3
        rw [if_pos (by simp)]
        rfl
      · rw [if_neg (by simp; omega), if_neg (by simp; omega), if_neg (by omega), Array.getElem?_eq_none (by omega), List.getElem?_eq_none (by simp; omega)]
end Go.Proofs.YtcdoeninajpbmaaGreatDoor
