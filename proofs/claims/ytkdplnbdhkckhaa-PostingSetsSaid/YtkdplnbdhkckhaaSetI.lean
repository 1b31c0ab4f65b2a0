/-
  Slices of numbers of the call's own: sorting, squeezing.
-/
import Derived.Test.YtkdplnbdhkckhaaSetM
namespace Go.Proofs.Ytkdplnbdhkckhaa
open Go Go.RowKit Go.Shelf Go.Lib Go.Sort

theorem compact_squeeze (zs : List Int) : Lib.compact zs = squeeze zs := by
  have key : ∀ m, m ≤ zs.length → Lib.compactUpTo zs.toArray m = squeeze (zs.take m) := by
    intro m
    induction m with
    | zero => intro _; rfl
    | succ m ih =>
      intro hm
      rw [Lib.compactUpTo_succ, ih (by omega)]
      have hg : ∀ j, j < zs.length → zs.toArray[j]! = zs.getD j 0 := fun j hj => by simp [List.getD_eq_getElem?_getD, hj]
      rcases Nat.eq_zero_or_pos m with rfl | hp
      · have : Lib.keeps zs.toArray 0 = true := by simp [Lib.keeps]
        rw [this, if_pos rfl]
        match zs, hm with
        | a :: t, _ => simp [squeeze]
      · rw [squeeze_next zs m hp (by omega)]
        have h1 : zs.toArray[m]! = zs[m] := by simp [show m < zs.length by omega]
        have h2 : zs.toArray[m - 1]! = zs[m - 1]'(by omega) := by simp [show m - 1 < zs.length by omega]
        by_cases he : zs[m] = zs[m - 1]'(by omega)
        · rw [if_pos he, Lib.keeps_neg hp (by rw [h1, h2]; exact he)]
          simp
        · rw [if_neg he, Lib.keeps_pos (by rw [h1, h2]; exact he), if_pos rfl, h1]
  unfold Lib.compact
  rw [key _ (Nat.le_refl _), List.take_length]
/-- A slice of numbers in a block that was made behind a0. -/
def OwnI (a0 w : World) (v : Value) (zs : List Int) : Prop := (v = .slice none 0 0 ∧ zs = []) ∨ ∃ B cap, v = .slice (some ⟨B, 0, none⟩) zs.length cap ∧ zs.length ≤ cap ∧ a0.heap.size ≤ B ∧ B < w.heap.size ∧ Holds (Value.int .i64) w B 0 zs.toArray
theorem holds_gr {w w' : World} {B : Nat} {zs : List Int} (h : Holds (Value.int .i64) w B 0 zs.toArray) (g : Gr w w') (hB : B < w.heap.size) : Holds (Value.int .i64) w' B 0 zs.toArray :=
  fun j hj => ⟨g.keeps (h j hj).1, (g.frozen _ hB).trans (h j hj).2⟩
theorem OwnI.gr {a0 w w' : World} {v : Value} {zs : List Int} (h : OwnI a0 w v zs) (g : Gr w w') : OwnI a0 w' v zs := by
  rcases h with h | ⟨B, cap, h1, h2, h3, h4, h5⟩
  · exact .inl h
  · exact .inr ⟨B, cap, h1, h2, h3, Nat.lt_of_lt_of_le h4 g.size, holds_gr h5 g h4⟩
theorem OwnI.back {a0 a1 w : World} {v : Value} {zs : List Int} (h : OwnI a1 w v zs) (g : Gr a0 a1) : OwnI a0 w v zs := by
  rcases h with h | ⟨B, cap, h1, h2, h3, h4, h5⟩
  · exact .inl h
  · exact .inr ⟨B, cap, h1, h2, Nat.le_trans g.size h3, h4, h5⟩
theorem OwnI.form {a0 w : World} {v : Value} {zs : List Int} (h : OwnI a0 w v zs) : ∃ ao c, v = .slice ao zs.length c := by
  rcases h with ⟨rfl, rfl⟩ | ⟨B, cap, rfl, _⟩
  · exact ⟨none, 0, rfl⟩
  · exact ⟨_, cap, rfl⟩
/-- What 'append' keeps of numbers. -/
def OwnN (a0 w : World) (v : Value) (zs : List Int) : Prop := w.ownsRow a0.heap.size 3 1 v zs.length (zs.map (Value.int .i64))
theorem OwnN.own {a0 w : World} {v : Value} {zs : List Int} (h : OwnN a0 w v zs) : OwnI a0 w v zs := by
  have hc := fun g hg => World.ownsRow.cells (g := g) h hg
  rcases h.2 with ⟨rfl, h0⟩ | ⟨g, cap, cur, rfl, hb, hh, hle, _⟩
  · exact .inl ⟨rfl, List.eq_nil_of_length_eq_zero h0⟩
  · refine .inr ⟨g, cap, rfl, hle, hb, (Array.getElem?_eq_some_iff.1 hh).1, fun j hj => ?_⟩
    have hj' : j < zs.length := by simpa using hj
    have c1 := hc g rfl j (.int .i64 zs[j]) (by simp [hj'])
    have e : (⟨g, 0, none⟩ : Addr).add j = ⟨g, 0 + j, none⟩ := by
      unfold Addr.add; split <;> simp_all
    rw [e] at c1
    refine ⟨?_, Lib.frozen_of_heap hh _⟩
    rw [c1]
    simp [hj']
theorem sorted_weak (zs : List Int) : Weakly lessI (zs.mergeSort fun x y => decide (x ≤ y)) := by
  have h := List.pairwise_mergeSort (le := fun x y : Int => decide (x ≤ y)) (by
    intro a b c h1 h2
    simp only [decide_eq_true_eq] at *
    omega) (by
    intro a b
    simp only [Bool.or_eq_true, decide_eq_true_eq]
    omega) zs
  exact h.imp fun {x y} hxy => by
    simp only [decide_eq_true_eq] at hxy
    simp only [lessI, decide_eq_false_iff_not]
    omega
theorem heap_putRow_other (w : World) (blk off : Nat) (d : Array Int) (k : Nat) (h : k ≠ blk) : (putRow (Value.int .i64) w blk off d).heap[k]? = w.heap[k]? := by
  unfold putRow mapBlock
  simp [Array.getElem?_modify, Ne.symm h]
theorem size_putRow (w : World) (blk off : Nat) (d : Array Int) : (putRow (Value.int .i64) w blk off d).heap.size = w.heap.size := by
  unfold putRow mapBlock
  simp
/-- A row was laid anew, and blocks were made. -/
theorem row_laid (w : World) (B n : Nat) (zs ys : List Int) (os : Array Obj) (h : Holds (Value.int .i64) w B 0 zs.toArray) (hB : B < w.heap.size) (hl : ys.length = zs.length) :
    Holds (Value.int .i64) (Sort.grow (putRow (Value.int .i64) (Sort.ahead w n) B 0 ys.toArray) os) B 0 ys.toArray ∧ GrX (fun i => i = B) w (Sort.grow (putRow (Value.int .i64) (Sort.ahead w n) B 0 ys.toArray) os) := by
  have hs : (putRow (Value.int .i64) (Sort.ahead w n) B 0 ys.toArray).heap.size = w.heap.size := by
    rw [size_putRow]
    rfl
  refine ⟨?_, rfl, rfl, rfl, ?_, fun k hk hkB => ?_⟩
  · have h2 := holds_putRow (Value.int .i64) (Sort.ahead w n) B 0 zs.toArray ys.toArray (holds_ahead _ _ n _ _ _ h) (by simp [hl])
    exact holds_grow _ _ os B 0 _ (by rw [hs]; exact hB) h2
  · simp only [Sort.grow, Array.size_append]
    omega
  · rw [heap_grow_old _ os (by rw [hs]; exact hk), heap_putRow_other _ _ _ _ _ hkB]
    rfl
theorem sortS_own (a0 w : World) (v : Value) (zs : List Int) (h : OwnI a0 w v zs) (hg : Gr a0 w) (hl : zs.length ≤ 1000000) :
    Calls Try.prog 35 #[v] w fun e w' => e = .returned (.tuple #[]) ∧ ∃ ys : List Int, ys.Perm zs ∧ Weakly lessI ys ∧ OwnI a0 w' v ys ∧ Gr a0 w' := by
  rcases h with ⟨rfl, rfl⟩ | ⟨B, cap, rfl, h2, h3, h4, h5⟩
  · refine (Try.slices_Sort_int_none none 0 w).mono ?_
    rintro e w' ⟨rfl, rfl⟩
    exact ⟨rfl, [], List.Perm.refl _, List.Pairwise.nil, .inl ⟨rfl, rfl⟩, hg⟩
  · refine (Try.slices_Sort_int B 0 cap zs w h5 h4 (by omega)).mono ?_
    rintro e w' ⟨rfl, n, os, rfl⟩
    have hp := List.mergeSort_perm zs (fun x y => decide (x ≤ y))
    obtain ⟨r1, r2⟩ := row_laid w B n zs _ os h5 h4 hp.length_eq
    exact ⟨rfl, _, hp, sorted_weak zs, .inr ⟨B, cap, by rw [hp.length_eq], by rw [hp.length_eq]; exact h2, h3, Nat.lt_of_lt_of_le h4 r2.2.2.2.1, r1⟩, r2.gr hg (fun k hk => by rw [hk]; exact h3)⟩
theorem sortI_own (a0 w : World) (v : Value) (zs : List Int) (h : OwnI a0 w v zs) (hg : Gr a0 w) (hl : zs.length ≤ 1000000) :
    Calls Try.prog 51 #[v] w fun e w' => e = .returned (.tuple #[]) ∧ ∃ ys : List Int, ys.Perm zs ∧ Weakly lessI ys ∧ OwnI a0 w' v ys ∧ Gr a0 w' := by
  rcases h with ⟨rfl, rfl⟩ | ⟨B, cap, rfl, h2, h3, h4, h5⟩
  · refine (Try.sort_Ints_none none 0 w).mono ?_
    rintro e w' ⟨rfl, rfl⟩
    exact ⟨rfl, [], List.Perm.refl _, List.Pairwise.nil, .inl ⟨rfl, rfl⟩, hg⟩
  · refine (Try.sort_Ints B 0 cap zs w h5 h4 (by omega)).mono ?_
    rintro e w' ⟨rfl, n, os, rfl⟩
    have hp := List.mergeSort_perm zs (fun x y => decide (x ≤ y))
    obtain ⟨r1, r2⟩ := row_laid w B n zs _ os h5 h4 hp.length_eq
    exact ⟨rfl, _, hp, sorted_weak zs, .inr ⟨B, cap, by rw [hp.length_eq], by rw [hp.length_eq]; exact h2, h3, Nat.lt_of_lt_of_le h4 r2.2.2.2.1, r1⟩, r2.gr hg (fun k hk => by rw [hk]; exact h3)⟩
theorem compactI_own (a0 w : World) (v : Value) (zs : List Int) (h : OwnI a0 w v zs) (hg : Gr a0 w) (hl : zs.length ≤ 1000000) :
    Calls Try.prog 36 #[v] w fun e w' => ∃ v', e = .returned v' ∧ OwnI a0 w' v' (squeeze zs) ∧ Gr a0 w' := by
  rcases h with ⟨rfl, rfl⟩ | ⟨B, cap, rfl, h2, h3, h4, h5⟩
  · refine (Try.slices_Compact_int_empty none 0 w).mono ?_
    rintro e w' ⟨rfl, rfl⟩
    exact ⟨_, rfl, .inl ⟨rfl, rfl⟩, hg⟩
  · refine (Try.slices_Compact_int B 0 cap zs w h5 (by omega) h2).mono ?_
    rintro e w' ⟨rfl, n, rfl⟩
    rw [compact_squeeze]
    have hle := squeeze_len zs
    obtain ⟨r1, r2⟩ := row_laid w B n zs (squeeze zs ++ List.replicate (zs.length - (squeeze zs).length) 0) #[] h5 h4 (by simp; omega)
    rw [grow_empty] at r1 r2
    refine ⟨_, rfl, .inr ⟨B, cap, rfl, Nat.le_trans hle h2, h3, Nat.lt_of_lt_of_le h4 r2.2.2.2.1, fun j hj => ?_⟩, r2.gr hg (fun k hk => by rw [hk]; exact h3)⟩
    have hj' : j < (squeeze zs).length := by simpa using hj
    have := r1 j (by simp; omega)
    refine ⟨this.1.trans ?_, this.2⟩
    simp [hj', show j < (squeeze zs).length + (zs.length - (squeeze zs).length) by omega, List.getElem_append_left hj']
end Go.Proofs.Ytkdplnbdhkckhaa
