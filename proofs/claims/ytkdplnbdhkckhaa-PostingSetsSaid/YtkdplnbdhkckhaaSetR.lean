/-
  Rows of places in memory; slices.SortFunc over them.
-/
import Derived.Test.YtkdplnbdhkckhaaSetC
import Derived.Test.YtkdplnbdhkckhaaPostRX
import Derived.Test.YtkdplnbdhkckhaaGrXX
import Derived.Shelf.SlSortCmp.NoneTotal
namespace Go.Proofs.Ytkdplnbdhkckhaa
open Go Go.RowKit Go.Shelf Go.Lib Go.Sort

/-- Block B holds the places, two cells a place; none of them is frozen. -/
def RowP (w : World) (B : Nat) (xs : List GPlace) : Prop :=
  ∀ i (h : i < xs.length), (w.cell? ⟨B, i * 2, none⟩ = some (.int .i64 xs[i].1) ∧ w.frozen? ⟨B, i * 2, none⟩ = false) ∧ (w.cell? ⟨B, i * 2 + 1, none⟩ = some (.int .i64 xs[i].2) ∧ w.frozen? ⟨B, i * 2 + 1, none⟩ = false)
theorem row_holds {w : World} {B : Nat} {xs : List GPlace} (h : RowP w B xs) : HoldsK encP2 2 w B 0 xs.toArray := by
  intro j hj
  rw [size_flatK] at hj
  rw [get_flatK _ _ _ _ hj]
  have hi : j / 2 < xs.length := by simp at hj; omega
  obtain ⟨h1, h2⟩ := h (j / 2) hi
  have hg : xs.toArray[j / 2]! = xs[j / 2] := by simp [hi]
  rw [hg, Nat.zero_add]
  rcases Nat.mod_two_eq_zero_or_one j with e | e
  · rw [e]
    have ej : j / 2 * 2 = j := by omega
    rw [ej] at h1
    exact h1
  · rw [e]
    have ej : j / 2 * 2 + 1 = j := by omega
    rw [ej] at h2
    exact h2
theorem holds_row {w : World} {B : Nat} {d : Array GPlace} (h : HoldsK encP2 2 w B 0 d) : RowP w B d.toList := by
  intro i hi
  have hi' : i < d.size := by simpa using hi
  have h0 := HoldsK.cell h (i := i) (c := 0) hi' (by omega)
  have h1 := HoldsK.cell h (i := i) (c := 1) hi' (by omega)
  have hg : d[i]! = d[i] := by simp [hi']
  rw [hg, Nat.zero_add, Nat.add_zero] at h0
  rw [hg, Nat.zero_add] at h1
  exact ⟨h0, h1⟩
theorem heap_putRowK_other (w : World) (blk off : Nat) (d : Array GPlace) (k : Nat) (h : k ≠ blk) : (putRowK encP2 2 w blk off d).heap[k]? = w.heap[k]? := by
  unfold putRowK putRow mapBlock
  simp [Array.getElem?_modify, Ne.symm h]
theorem lt_cmp (a b : GPlace) : ltOf cmpP a b = beforeB a b := by
  unfold ltOf
  have h := cmpP_before a b
  cases hb : beforeB a b
  · rw [hb] at h
    simp only [Bool.not_false, decide_eq_true_eq] at h
    simp
    omega
  · rw [hb] at h
    simp only [Bool.not_true, decide_eq_false_iff_not] at h
    simp
    omega
theorem swo_place : SWO (ltOf cmpP) where
  irrefl x := by rw [lt_cmp]; exact parts_place.irrefl x
  trans x y z h1 h2 := by rw [lt_cmp] at *; exact parts_place.trans x y z h1 h2
  ntrans x y z h1 h2 := by
    rw [lt_cmp] at *
    simp only [beforeB, Bool.or_eq_false_iff, Bool.and_eq_false_iff, decide_eq_false_iff_not, beq_eq_false_iff_ne] at *
    omega
/-- slices.SortFunc of places. -/
theorem sort_places (xs : List GPlace) (B cap : Nat) (w : World) (h : RowP w B xs) (hB : B < w.heap.size) (hl : xs.length ≤ 1000000) :
    Calls Try.prog 26 #[.slice (some ⟨B, 0, none⟩) xs.length cap, .func (.func 22) #[] #[]] w fun e w' =>
      e = .returned (.tuple #[]) ∧ ∃ ys : List GPlace, ys.Perm xs ∧ Weakly beforeB ys ∧ RowP w' B ys ∧ GrX (fun i => i = B) w w' := by
  have eg : ∀ args w, (callFunc 22 args).run Try.prog w = .ok (.enter 22 args) w := enters_of Try.func22 (by kernel_rfl) rfl
  have hH := row_holds h
  have hsz : xs.toArray.size = xs.length := by simp
  have hcon := AnyQ.slices_SortFunc Try.sortPlaces 2 Try.isAgg39 Try.sizeOf39 encP2 (fun _ => rfl) (fun x v hv => by simp [encP2] at hv; rcases hv with rfl | rfl <;> rfl) cmpP swo_place 22 #[] B 0 cap xs.toArray w eg (cmpLays B 0 xs.toArray.size w) hH hB (by rw [hsz]; omega)
  rw [hsz] at hcon
  change Calls Try.prog 26 _ _ _ at hcon
  refine hcon.mono ?_
  rintro e w' ⟨rfl, d', n, os, ⟨hp1, _, hp2⟩, hs, rfl⟩
  have hpr := holdsK_putRowK encP2 2 (Sort.ahead w n) B 0 xs.toArray d' (holdsK_ahead encP2 2 w n B 0 _ hH) hp1
  have hB2 : B < (putRowK encP2 2 (Sort.ahead w n) B 0 d').heap.size := by
    unfold putRowK putRow mapBlock
    simpa [Sort.ahead] using hB
  have hsz' : d'.toList.length = xs.length := by rw [Array.length_toList, hp1, hsz]
  refine ⟨rfl, d'.toList, ?_, ?_, holds_row (holdsK_grow encP2 2 _ os B 0 d' hB2 hpr), ?_⟩
  · have e1 : (d'.extract 0 xs.length) = d' := by
      apply Array.ext'
      simp only [Array.toList_extract, List.drop_zero, Nat.sub_zero]
      exact List.take_of_length_le (Nat.le_of_eq hsz')
    have e2 : (xs.toArray.extract 0 xs.length) = xs.toArray := by
      apply Array.ext'
      simp
    rw [e1, e2] at hp2
    simpa using hp2
  · rw [Weakly, List.pairwise_iff_getElem]
    intro i j hi hj hij
    have hh := hs i j (Nat.zero_le _) hij (by omega)
    have hi' : i < d'.size := by rw [← Array.length_toList]; exact hi
    have hj' : j < d'.size := by rw [← Array.length_toList]; exact hj
    rw [lt_cmp] at hh
    simpa [hi', hj'] using hh
  · refine ⟨rfl, rfl, rfl, ?_, fun k hk hkB => ?_⟩
    · unfold sortWorldK
      simp only [Sort.grow, Array.size_append]
      have : (putRowK encP2 2 (Sort.ahead w n) B 0 d').heap.size = w.heap.size := by
        unfold putRowK putRow mapBlock
        simp [Sort.ahead]
      omega
    · unfold sortWorldK
      have hks : k < (putRowK encP2 2 (Sort.ahead w n) B 0 d').heap.size := by
        unfold putRowK putRow mapBlock
        simpa [Sort.ahead] using hk
      rw [heap_grow_old _ os hks, heap_putRowK_other _ _ _ _ _ hkB]
      rfl
end Go.Proofs.Ytkdplnbdhkckhaa
