/-
  sort.Slice at a slice of places, by Before: the row holds the same places, sorted.
-/
import Derived.Test.YtkdplnbdhkckhaaSorK
import Derived.Test.YtkdplnbdhkckhaaPostX
import Derived.Shelf.GgSortFunc.SmallK
import Derived.Lib.QuietBelow
import Derived.Test.YtkdplnbdhkckhaaSortG
import Derived.Shelf.GgSortFunc.RowK
import Derived.Shelf.SlSortFuncK.RowK2
namespace Go.Proofs.Ytkdplnbdhkckhaa
open Go Go.RowKit Go.Sort Go.Lib Go.Shelf

def encS (x : GPlace) : List Value := [.int .i64 x.1, .int .i64 x.2]
/-- The row in block B holds d; the variable in block LB holds the slice. -/
structure PlR (B LB n c : Nat) (w : World) (d : Array GPlace) : Prop where
  sz : d.size = n
  holds : HoldsK encS 2 w B 0 d
  box : w.cell? ⟨LB, 0, none⟩ = some (.slice (some ⟨B, 0, none⟩) n c)
  ne : LB ≠ B
  lt : B < w.heap.size
theorem set_cells (B : Nat) : ∀ (vs : List Value) (o : Nat) (w : World), GrX (fun k => k = B) w (w.setCells B o vs)
  | [], _, w => GrX.refl _ w
  | v :: vs, o, w => (GrX.setCell (S := fun k => k = B) (p := ⟨B, o, none⟩) w v rfl).trans (set_cells B vs (o + 1) _)
theorem holds_block {w w' : World} {B : Nat} {d : Array GPlace} (h : HoldsK encS 2 w B 0 d) (hb : w'.heap[B]? = w.heap[B]?) : HoldsK encS 2 w' B 0 d := fun j hj =>
  ⟨(World.cell?_of_block hb).trans (h j hj).1, (World.frozen?_of_block hb).trans (h j hj).2⟩
theorem PlR.keepX {B LB n c : Nat} {w w' : World} {d : Array GPlace} {S : Nat → Prop} (h : PlR B LB n c w d) (g : GrX S w w') (h1 : ¬ S B) (h2 : ¬ S LB) : PlR B LB n c w' d :=
  ⟨h.sz, holds_block h.holds (g.block h.lt h1), g.keeps h2 h.box, h.ne, Nat.lt_of_lt_of_le h.lt g.2.2.2.1⟩
theorem PlR.cells {B LB n c : Nat} {w : World} {d : Array GPlace} (h : PlR B LB n c w d) {i : Nat} (hi : i < n) : w.cell? ⟨B, i * 2, none⟩ = some (.int .i64 d[i]!.1) ∧ w.cell? ⟨B, i * 2 + 1, none⟩ = some (.int .i64 d[i]!.2) := by
  have h0 := (h.holds.cell (show i < d.size by rw [h.sz]; exact hi) (show 0 < 2 by omega)).1
  have h1 := (h.holds.cell (show i < d.size by rw [h.sz]; exact hi) (show 1 < 2 by omega)).1
  simp only [Nat.zero_add, Nat.add_zero] at h0 h1
  exact ⟨by simpa [encS] using h0, by simpa [encS] using h1⟩
set_option maxHeartbeats 1600000 in
theorem less_pl (B LB n c : Nat) (w : World) (d : Array GPlace) (h : PlR B LB n c w d) (i j : Nat) (hi : i < n) (hj : j < n) :
    Calls Try.prog 50 (#[.int .i64 i, .int .i64 j] ++ #[.pointer (some ⟨LB, 0, none⟩)]) w fun e w' => e = .returned (.bool (beforeB d[i]! d[j]!)) ∧ Gr w w' := by
  have hb := h.box
  obtain ⟨a0, a1⟩ := h.cells hi
  obtain ⟨b0, b1⟩ := h.cells hj
  generalize d[i]! = p at *
  generalize d[j]! = q at *
  obtain ⟨p1, p2⟩ := p
  obtain ⟨q1, q2⟩ := q
  simp only at a0 a1 b0 b1
  have hbf := fun w => before_t (p1, p2) (q1, q2) w
  have HBF := Lib.hid hbf
  clear h hbf
  show Calls Try.prog 50 #[.int .i64 i, .int .i64 j, .pointer (some ⟨LB, 0, none⟩)] w _
  go_enter Try.func50, Try.ntmps50
  go_wp2_with fail
  have f0 := fun d os => cell_regrown hb d os
  have f1 := fun d os => cell_regrown a0 d os
  have f2 := fun d os => cell_regrown a1 d os
  have f3 := fun d os => cell_regrown b0 d os
  have f4 := fun d os => cell_regrown b1 d os
  clear hb a0 a1 b0 b1
  refine wp_region_quiet_below (by kernel_rfl) (by kernel_rfl) ?_
  repeat (go_big_quiet_step (first | (go_at_call 38; exact Ret.regrown (HBF.out _))))
  refine wpQuiet_nil ?_
  intro w7 hw7
  have hg7 := gr_regrown hw7
  clear hw7 f0 f1 f2 f3 f4
  go_wp2_with fail
  go_ret
  exact ⟨rfl, hg7⟩
noncomputable def plT : TypeInfo := (Try.prog.info? 22).get (by kernel_rfl)
noncomputable def plE : TypeInfo := (Try.prog.info? 39).get (by kernel_rfl)
theorem plK (n : Nat) (h2 : 2 ≤ n) : Lib.swapperK n plE 25 = 9 := by
  have a : plE.hasPointers = false := by kernel_rfl
  have b : plE.bytes = 16 := by kernel_rfl
  unfold Lib.swapperK
  simp [a, b, show n ≠ 0 by omega, show n ≠ 1 by omega]
theorem pl_sortBy (B LB n c : Nat) (hn : n < 4611686018427387904) : SortBy Try.prog beforeB (PlR B LB n c) B n 50 #[.pointer (some ⟨LB, 0, none⟩)] 92 #[.slice (some ⟨B, 0, none⟩) n c, typeHandle Try.prog 39] where
  enter := enters_of Try.func50 (by kernel_rfl) rfl
  gr := fun h g => h.keepX (S := fun _ => False) (GrX.of_gr g) id id
  blt := fun h => h.lt
  sz := fun h => h.sz
  less := fun h i j hi hj => less_pl B LB n c _ _ h i j hi hj
  swap := fun {w d} h i j hi hj => by
    have hs := swapSwapsK_of_literal (P := Try.prog) false 92 (fun args W => run_callFunc_extern Try.func92 (by kernel_rfl) (by kernel_rfl) (by kernel_rfl) (e := Extern.ReflectliteSwapper.swap false) (by kernel_rfl) args W)
      39 plE (by kernel_rfl) encS 2 (fun _ => rfl) (by kernel_rfl) (fun _ => by kernel_rfl) (fun x v hv => by simp [encS] at hv; rcases hv with rfl | rfl <;> rfl) B 0 n c w d h.holds h.sz i j hi hj
    refine ⟨_, hs, ?_, ?_⟩
    · have e := putRowK_swp (enc := encS) (k := 2) (fun _ => rfl) w B 0 d i j (by rw [h.sz]; exact hi) (by rw [h.sz]; exact hj)
      rw [putRowK_self (enc := encS) (k := 2) w B 0 d h.holds] at e
      have hg : GrX (fun b => b = B) w ((w.setCells B (0 + i * 2) (encS d[j]!)).setCells B (0 + j * 2) (encS d[i]!)) := (set_cells B _ _ w).trans (set_cells B _ _ _)
      refine ⟨by rw [size_swp]; exact h.sz, ?_, hg.keeps h.ne h.box, h.ne, Nat.lt_of_lt_of_le h.lt hg.2.2.2.1⟩
      rw [e]
      exact holdsK_putRowK encS 2 w B 0 d (swp d i j) h.holds (size_swp d i j)
    · exact (set_cells B _ _ w).trans (set_cells B _ _ _)
  lim := hn
  far := ⟨max B LB + 1, fun h => by have h1 := h.lt; have h2 := lt_of_cell h.box; omega, fun h g => h.keepX g (fun e => by have e2 : max B LB + 1 ≤ B := e; omega) (fun e => by have e2 : max B LB + 1 ≤ LB := e; omega)⟩
theorem swo_before : SWO beforeB where
  irrefl := fun x => by simp [beforeB]
  trans := fun x y z h1 h2 => by
    obtain ⟨x1, x2⟩ := x
    obtain ⟨y1, y2⟩ := y
    obtain ⟨z1, z2⟩ := z
    simp only [beforeB, Bool.or_eq_true, Bool.and_eq_true, decide_eq_true_eq, beq_iff_eq] at *
    omega
  ntrans := fun x y z h1 h2 => by
    obtain ⟨x1, x2⟩ := x
    obtain ⟨y1, y2⟩ := y
    obtain ⟨z1, z2⟩ := z
    rw [Bool.eq_false_iff] at *
    simp only [beforeB, ne_eq, Bool.or_eq_true, Bool.and_eq_true, decide_eq_true_eq, beq_iff_eq] at *
    omega
theorem slice_pl (B LB n c : Nat) (d : Array GPlace) (w : World) (h2 : 2 ≤ n) (hn : n < 4611686018427387904) (h : PlR B LB n c w d) :
    Calls Try.prog 49 #[.iface 22 (.slice (some ⟨B, 0, none⟩) n c), .func (.func 50) #[] #[.pointer (some ⟨LB, 0, none⟩)]] w fun e w' =>
      e = .returned (.tuple #[]) ∧ ∃ d', PlR B LB n c w' d' ∧ GrX (fun b => b = B) w w' ∧ PermIn 0 n d d' ∧ SortedIn beforeB 0 n d' := by
  have hB : sliceBound Try.prog 39 plE 25 (some ⟨B, 0, none⟩) n c = #[.slice (some ⟨B, 0, none⟩) n c, typeHandle Try.prog 39] := by
    unfold sliceBound; rw [if_neg (swapperK_gt _ _ _ h2)]
  have hg : Gr w (sliceWorld Try.prog Try.sliceS_ren 22 (some ⟨B, 0, none⟩) n c w) := ((Gr.refl w).alloc _).alloc _
  refine Any.sort_Slice_of_pdq Try.sliceS 22 39 plT plE (by kernel_rfl) (by kernel_rfl) (by kernel_rfl) (by kernel_rfl) 25 (fun _ => by kernel_rfl) (some ⟨B, 0, none⟩) n c hn 92 (by rw [plK n h2]; kernel_rfl) (.func 50) #[] #[.pointer (some ⟨LB, 0, none⟩)] w _ ?_
  rw [hB]
  have hlim : Lib.bitLen n < 4611686018427387904 := Nat.lt_of_le_of_lt (Lib.bitLen_le n 62 (by omega) (by omega)) (by omega)
  have h' : PlR B LB n c (sliceWorld Try.prog Try.sliceS_ren 22 (some ⟨B, 0, none⟩) n c w) d := h.keepX (S := fun _ => False) (GrX.of_gr hg) id id
  refine (pdqsort_w (pl_sortBy B LB n c hn) swo_before (n + 1) 0 n (Lib.bitLen n) d _ (by omega) h' (Nat.zero_le _) (Nat.le_refl _) hlim (Or.inl rfl)).mono ?_
  rintro e w' ⟨he, hso⟩
  have hp := pdq_sorts beforeB swo_before d 0 n (Lib.bitLen n) true true (Nat.zero_le _) (by rw [h.sz]; exact Nat.le_refl _) (Or.inl rfl)
  exact ⟨he, _, hso.1, (GrX.of_gr hg).trans hso.2, hp.1, hp.2⟩
end Go.Proofs.Ytkdplnbdhkckhaa
