/-
  The order of places and the closures of posting, in the words of the library's contracts.
-/
import Derived.Test.YtkdplnbdhkckhaaPostX
import Derived.Test.YtkdplnbdhkckhaaSetP
import Derived.Test.YtkdplnbdhkckhaaGen
namespace Go.Proofs.Ytkdplnbdhkckhaa
open Go Go.RowKit Go.Shelf

theorem grow3 (w : World) (a b c : Obj) : ((Sort.grow w #[a, b]).alloc c).drew = Sort.grow (w.drewN 1) #[a, b, c] := by
  rw [Sort.alloc_eq_grow, Sort.grow_grow]
  rfl
theorem or_x (b : Nat) (x y : Int) (w : World) (h0 : w.cell? ⟨b, 0, none⟩ = some (.int .i64 x)) (h1 : w.cell? ⟨b, 1, none⟩ = some (.int .i64 y)) :
    Calls Try.prog 41 #[.slice (some ⟨b, 0, none⟩) 2 2] w fun e w' => e = .returned (.int .i64 (orI x y)) ∧ w' = w := by
  go_enter Try.func41, Try.ntmps41
  go_wp2
  go_loop [8] (fun i => i = .int .i64 0 ∨ (i = .int .i64 1 ∧ x = 0) ∨ (i = .int .i64 2 ∧ x = 0 ∧ y = 0)) (fun i => 2 - (intOf i).toNat)
  case atStart => exact .inl rfl
  case round =>
    rcases hrel with rfl | ⟨rfl, rfl⟩ | ⟨rfl, rfl, rfl⟩
    · by_cases hx : x = 0
      · go_wp2
        exact ⟨.inr (.inl ⟨rfl, hx⟩), by simp [intOf]⟩
      · go_wp2
        go_ret
        exact ⟨by unfold orI; rw [if_neg hx]; rfl, rfl⟩
    · by_cases hy : y = 0
      · go_wp2
        exact ⟨.inr (.inr ⟨rfl, trivial, hy⟩), by simp [intOf]⟩
      · go_wp2
        go_ret
        exact ⟨rfl, rfl⟩
    · go_wp2
      go_ret
      exact ⟨rfl, rfl⟩
set_option maxHeartbeats 800000 in
theorem compare_x (a b : GPlace) (w : World) : Calls Try.prog 22 #[a.val, b.val] w fun e w' => e = .returned (.int .i64 (cmpP a b)) ∧ ∃ q os', w' = Sort.grow (w.drewN q) os' := by
  obtain ⟨a1, a2⟩ := a
  obtain ⟨b1, b2⟩ := b
  unfold GPlace.val
  go_enter Try.func22, Try.ntmps22
  go_wp2_with fail
  have hg := ((Gr.refl w).alloc (.cells #[.int .i64 a1, .int .i64 a2] 39)).alloc (.cells #[.int .i64 b1, .int .i64 b2] 39)
  have c0 : ((w.alloc (.cells #[.int .i64 a1, .int .i64 a2] 39)).alloc (.cells #[.int .i64 b1, .int .i64 b2] 39)).cell? ⟨w.heap.size, 0, none⟩ = some (.int .i64 a1) := ((Gr.refl _).alloc _).keeps (by rw [World.cell?_alloc_new]; rfl)
  have c1 : ((w.alloc (.cells #[.int .i64 a1, .int .i64 a2] 39)).alloc (.cells #[.int .i64 b1, .int .i64 b2] 39)).cell? ⟨w.heap.size, 1, none⟩ = some (.int .i64 a2) := ((Gr.refl _).alloc _).keeps (by rw [World.cell?_alloc_new]; rfl)
  have c2 : ((w.alloc (.cells #[.int .i64 a1, .int .i64 a2] 39)).alloc (.cells #[.int .i64 b1, .int .i64 b2] 39)).cell? ⟨w.heap.size + 1, 0, none⟩ = some (.int .i64 b1) := by rw [← World.size_alloc w (.cells #[.int .i64 a1, .int .i64 a2] 39), World.cell?_alloc_new]; rfl
  have c3 : ((w.alloc (.cells #[.int .i64 a1, .int .i64 a2] 39)).alloc (.cells #[.int .i64 b1, .int .i64 b2] 39)).cell? ⟨w.heap.size + 1, 1, none⟩ = some (.int .i64 b2) := by rw [← World.size_alloc w (.cells #[.int .i64 a1, .int .i64 a2] 39), World.cell?_alloc_new]; rfl
  have hWW : ((w.alloc (.cells #[.int .i64 a1, .int .i64 a2] 39)).alloc (.cells #[.int .i64 b1, .int .i64 b2] 39)) = Sort.grow w #[.cells #[.int .i64 a1, .int .i64 a2] 39, .cells #[.int .i64 b1, .int .i64 b2] 39] := by rw [Sort.alloc_eq_grow, Sort.alloc_eq_grow, Sort.grow_grow]; rfl
  generalize ((w.alloc (.cells #[.int .i64 a1, .int .i64 a2] 39)).alloc (.cells #[.int .i64 b1, .int .i64 b2] 39)) = W at *
  have HWW := Lib.hid hWW
  clear hWW
  go_region_held3 (fun w' => w'.cell? ⟨w.heap.size, 0, none⟩ = some (.int .i64 a1) ∧ w'.cell? ⟨w.heap.size, 1, none⟩ = some (.int .i64 a2) ∧ w'.cell? ⟨w.heap.size + 1, 0, none⟩ = some (.int .i64 b1) ∧ w'.cell? ⟨w.heap.size + 1, 1, none⟩ = some (.int .i64 b2) ∧ Gr w w') (first | exact ⟨c0, c1, c2, c3, hg⟩ | exact ⟨c0, c1, c2, c3, hg.drew⟩ | exact ⟨(((Gr.refl _).alloc _).drew).keeps c0, (((Gr.refl _).alloc _).drew).keeps c1, (((Gr.refl _).alloc _).drew).keeps c2, (((Gr.refl _).alloc _).drew).keeps c3, (hg.alloc _).drew⟩ ) (first | (go_at_call 42; refine (Try.cmp_Compare_int _ _ _).mono ?_; rintro e w21 ⟨rfl, rfl⟩) | (go_at_call 41; refine (or_x _ _ _ _ (by rw [World.cell?_drew, World.cell?_alloc_new]; rfl) (by rw [World.cell?_drew, World.cell?_alloc_new]; rfl)).mono ?_; rintro e w22 ⟨rfl, rfl⟩))
  go_wp2
  go_ret
  refine ⟨rfl, 1, #[.cells #[.int .i64 a1, .int .i64 a2] 39, .cells #[.int .i64 b1, .int .i64 b2] 39, .cells #[.int .i64 (Lib.compareInt a1 b1), .int .i64 (Lib.compareInt a2 b2)] 3], ?_⟩
  rw [HWW.out]
  exact grow3 w _ _ _
def encP2 (x : GPlace) : List Value := [.int .i64 x.1, .int .i64 x.2]
theorem cmpLays (blk off size : Nat) (w : World) : CmpLays Try.prog 22 #[] encP2 2 cmpP blk off size w :=
  fun _ _ _ _ x y => compare_x x y _
end Go.Proofs.Ytkdplnbdhkckhaa
