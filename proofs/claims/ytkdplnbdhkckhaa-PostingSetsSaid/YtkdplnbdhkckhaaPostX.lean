/-
  Contracts of the small functions on places: Before, in, Compare, sign.
-/
import Derived.Test.YtkdplnbdhkckhaaLib
import Derived.Test.YtkdplnbdhkckhaaShelf
import Derived.Test.YtkdplnbdhkckhaaPostP
import Derived.BigGuardPart
import Derived.Deep.RegionHeld3
namespace Go.Proofs.Ytkdplnbdhkckhaa
open Go Go.RowKit

theorem before_t (a b : GPlace) (w : World) : Calls Try.prog 38 #[a.val, b.val] w (Ret w (.bool (beforeB a b))) := by
  obtain ⟨a1, a2⟩ := a
  obtain ⟨b1, b2⟩ := b
  unfold GPlace.val
  go_enter Try.func38, Try.ntmps38
  go_wp2
  all_goals
    go_ret
    refine Ret.mk ?_ (by repeat (first | exact Gr.refl _ | refine Gr.alloc ?_ _ | refine Gr.drew ?_))
    unfold beforeB
    simp_all
def inB (n lo hi : Int) : Bool := decide (lo ≤ n) && decide (n ≤ hi)
theorem in_t (n lo hi : Int) (w : World) : Calls Try.prog 37 #[.int .i64 n, .int .i64 lo, .int .i64 hi] w (Ret w (.bool (inB n lo hi))) := by
  go_enter Try.func37, Try.ntmps37
  go_wp2
  all_goals
    go_ret
    refine Ret.mk ?_ (Gr.refl _)
    unfold inB
    simp_all
    try omega
def signI (n : Int) : Int := if n < 0 then -1 else if 0 < n then 1 else 0
def orI (x y : Int) : Int := if x = 0 then y else x
theorem or_t (b : Nat) (x y : Int) (w : World) (h0 : w.cell? ⟨b, 0, none⟩ = some (.int .i64 x)) (h1 : w.cell? ⟨b, 1, none⟩ = some (.int .i64 y)) :
    Calls Try.prog 41 #[.slice (some ⟨b, 0, none⟩) 2 2] w (Ret w (.int .i64 (orI x y))) := by
  go_enter Try.func41, Try.ntmps41
  go_wp2
  go_loop [8] (fun i => i = .int .i64 0 ∨ (i = .int .i64 1 ∧ x = 0) ∨ (i = .int .i64 2 ∧ x = 0 ∧ y = 0)) (fun i => 2 - (intOf i).toNat)
  case atStart => exact .inl rfl
  case round =>
    rcases hrel with rfl | ⟨rfl, rfl⟩ | ⟨rfl, rfl, rfl⟩
    · by_cases hx : x = 0
      · go_wp2
        exact ⟨.inr (.inl ⟨rfl, hx⟩), by simp [intOf]⟩
      · go_wp2
        go_ret
        exact Ret.mk (by unfold orI; rw [if_neg hx]; rfl) (Gr.refl _)
    · by_cases hy : y = 0
      · go_wp2
        exact ⟨.inr (.inr ⟨rfl, trivial, hy⟩), by simp [intOf]⟩
      · go_wp2
        go_ret
        exact Ret.mk rfl (Gr.refl _)
    · go_wp2
      go_ret
      exact Ret.mk rfl (Gr.refl _)
/-- The order of places, as the program has it. -/
def cmpP (a b : GPlace) : Int := orI (Lib.compareInt a.1 b.1) (Lib.compareInt a.2 b.2)
set_option maxHeartbeats 800000 in
theorem compare_p (a b : GPlace) (w : World) : Calls Try.prog 22 #[a.val, b.val] w (Ret w (.int .i64 (cmpP a b))) := by
  obtain ⟨a1, a2⟩ := a
  obtain ⟨b1, b2⟩ := b
  unfold GPlace.val
  go_enter Try.func22, Try.ntmps22
  go_wp2_with fail
  have hg := ((Gr.refl w).alloc (.cells #[.int .i64 a1, .int .i64 a2] 39)).alloc (.cells #[.int .i64 b1, .int .i64 b2] 39)
  have c0 : ((w.alloc (.cells #[.int .i64 a1, .int .i64 a2] 39)).alloc (.cells #[.int .i64 b1, .int .i64 b2] 39)).cell? ⟨w.heap.size, 0, none⟩ = some (.int .i64 a1) := ((Gr.refl _).alloc _).keeps (by rw [World.cell?_alloc_new]; rfl)
  have c1 : ((w.alloc (.cells #[.int .i64 a1, .int .i64 a2] 39)).alloc (.cells #[.int .i64 b1, .int .i64 b2] 39)).cell? ⟨w.heap.size, 1, none⟩ = some (.int .i64 a2) := ((Gr.refl _).alloc _).keeps (by rw [World.cell?_alloc_new]; rfl)
  have c2 : ((w.alloc (.cells #[.int .i64 a1, .int .i64 a2] 39)).alloc (.cells #[.int .i64 b1, .int .i64 b2] 39)).cell? ⟨w.heap.size + 1, 0, none⟩ = some (.int .i64 b1) := by rw [← World.size_alloc w (.cells #[.int .i64 a1, .int .i64 a2] 39), World.cell?_alloc_new]; rfl
  have c3 : ((w.alloc (.cells #[.int .i64 a1, .int .i64 a2] 39)).alloc (.cells #[.int .i64 b1, .int .i64 b2] 39)).cell? ⟨w.heap.size + 1, 1, none⟩ = some (.int .i64 b2) := by rw [← World.size_alloc w (.cells #[.int .i64 a1, .int .i64 a2] 39), World.cell?_alloc_new]; rfl
  generalize ((w.alloc (.cells #[.int .i64 a1, .int .i64 a2] 39)).alloc (.cells #[.int .i64 b1, .int .i64 b2] 39)) = W at *
  go_region_held3 (fun w' => w'.cell? ⟨w.heap.size, 0, none⟩ = some (.int .i64 a1) ∧ w'.cell? ⟨w.heap.size, 1, none⟩ = some (.int .i64 a2) ∧ w'.cell? ⟨w.heap.size + 1, 0, none⟩ = some (.int .i64 b1) ∧ w'.cell? ⟨w.heap.size + 1, 1, none⟩ = some (.int .i64 b2) ∧ Gr w w') (first | exact ⟨c0, c1, c2, c3, hg⟩ | exact ⟨c0, c1, c2, c3, hg.drew⟩ | exact ⟨(((Gr.refl _).alloc _).drew).keeps c0, (((Gr.refl _).alloc _).drew).keeps c1, (((Gr.refl _).alloc _).drew).keeps c2, (((Gr.refl _).alloc _).drew).keeps c3, (hg.alloc _).drew⟩ | exact ⟨(((Gr.refl W).alloc _).drew.trans (by assumption)).keeps c0, (((Gr.refl W).alloc _).drew.trans (by assumption)).keeps c1, (((Gr.refl W).alloc _).drew.trans (by assumption)).keeps c2, (((Gr.refl W).alloc _).drew.trans (by assumption)).keeps c3, (hg.alloc _).drew.trans (by assumption)⟩) (first | (go_at_call 42; refine (Try.cmp_Compare_int _ _ _).mono ?_; rintro e w21 ⟨rfl, rfl⟩) | (go_at_call 41; refine (or_t _ _ _ _ (by rw [World.cell?_drew, World.cell?_alloc_new]; rfl) (by rw [World.cell?_drew, World.cell?_alloc_new]; rfl)).mono ?_; rintro e w22 ⟨rfl, hg22⟩))
  go_wp2
  go_ret
  exact Ret.mk rfl ((hg.alloc _).drew.trans (by assumption))
/-- The list lies in memory: two cells a place. -/
def PlacesAt (w : World) (b off : Nat) (xs : List GPlace) : Prop :=
  ∀ i (h : i < xs.length), w.cell? ⟨b, off + i * 2, none⟩ = some (.int .i64 xs[i].1) ∧ w.cell? ⟨b, off + i * 2 + 1, none⟩ = some (.int .i64 xs[i].2)
theorem PlacesAt.gr {w w' : World} {b off : Nat} {xs : List GPlace} (h : PlacesAt w b off xs) (g : Gr w w') : PlacesAt w' b off xs :=
  fun i hi => ⟨g.keeps (h i hi).1, g.keeps (h i hi).2⟩
theorem okAt_zero (xs : List GPlace) (h : 0 < xs.length) : okAt xs 0 = inP xs[0] := by
  unfold okAt
  simp [List.getD_eq_getElem?_getD, h]
theorem okAt_succ (xs : List GPlace) (k : Nat) (h : k + 1 < xs.length) : okAt xs (k + 1) = (inP xs[k + 1] && beforeB xs[k] xs[k + 1]) := by
  have h' : k < xs.length := by omega
  unfold okAt prevAt
  simp [List.getD_eq_getElem?_getD, h, h']
set_option maxHeartbeats 1600000 in
theorem places_t (xs : List GPlace) (b off c : Nat) (ao : Option Addr) (hao : 0 < xs.length → ao = some ⟨b, off, none⟩) (hl : xs.length ≤ 9223372036854775807) (w : World) (hc : PlacesAt w b off xs) :
    Calls Try.prog 15 #[.slice ao xs.length c] w (Ret w (.bool (placesB xs))) := by
  have HC := Lib.hid hc
  have HA := Lib.hid hao
  clear hc hao
  go_enter Try.func15, Try.ntmps15
  go_wp2_with fail
  go_loopw [7] (fun i w' => ∃ j : Nat, j ≤ xs.length ∧ i = .int .i64 j ∧ Gr w w' ∧ ∀ k, k < j → okAt xs k = true) (fun i _ => xs.length - (intOf i).toNat)
  case atStart => exact ⟨0, Nat.zero_le _, rfl, Gr.refl _, fun k hk => by omega⟩
  case round =>
    obtain ⟨j, hj, rfl, hg, hok⟩ := hrel
    have HO := Lib.hid hok
    clear hok
    by_cases hlt : j < xs.length
    · obtain rfl := HA.out (by omega)
      obtain ⟨c0, c1⟩ := HC.out.gr hg j hlt
      cases j with
      | zero =>
        generalize hx : xs[0] = x at *
        obtain ⟨x1, x2⟩ := x
        simp only [Nat.zero_mul, Nat.add_zero] at c0 c1
        have hok := okAt_zero xs hlt
        rw [hx] at hok
        have hok' : okAt xs 0 = (inB x1 1 1073741824 && inB x2 0 1073741823) := by rw [hok]; unfold inP inB; simp only [Bool.and_assoc]
        have HOK := Lib.hid hok'
        clear hok hok'
        have p0 : (wr.alloc (.cells #[.int .i64 x1, .int .i64 x2] 39)).cell? ⟨wr.heap.size, 0, none⟩ = some (.int .i64 x1) := by rw [World.cell?_alloc_new]; rfl
        have p1 : (wr.alloc (.cells #[.int .i64 x1, .int .i64 x2] 39)).cell? ⟨wr.heap.size, 1, none⟩ = some (.int .i64 x2) := by rw [World.cell?_alloc_new]; rfl
        have f0 := fun d os => cell_regrown p0 d os
        have f1 := fun d os => cell_regrown p1 d os
        clear p0 p1
        cases hB1 : inB x1 1 1073741824
        · go_wp2_with fail
          refine wp_region_quiet_below (by kernel_rfl) (by kernel_rfl) ?_
          repeat (go_big_quiet_step ((go_at_call 37; exact Ret.regrown (in_t _ _ _ _))))
          refine wpQuiet_nil ?_
          intro w3 hw3
          have hg3 := (hg.alloc _).trans (gr_regrown hw3)
          clear hw3 hg f0 f1
          go_wp2_with fail
          go_ret
          exact Ret.mk (by rw [placesB_false hlt (by rw [HOK.out, hB1]; rfl)]; rfl) hg3
        · go_wp2_with fail
          cases hB2 : inB x2 0 1073741823
          · refine wp_region_quiet_below (by kernel_rfl) (by kernel_rfl) ?_
            repeat (go_big_quiet_step ((go_at_call 37; exact Ret.regrown (in_t _ _ _ _))))
            refine wpQuiet_nil ?_
            intro w3 hw3
            have hg3 := (hg.alloc _).trans (gr_regrown hw3)
            clear hw3 hg f0 f1
            go_wp2_with fail
            go_ret
            exact Ret.mk (by rw [placesB_false hlt (by rw [HOK.out, hB1, hB2]; rfl)]; rfl) hg3
          · refine wp_region_quiet_below (by kernel_rfl) (by kernel_rfl) ?_
            repeat (go_big_quiet_step ((go_at_call 37; exact Ret.regrown (in_t _ _ _ _))))
            refine wpQuiet_nil ?_
            intro w3 hw3
            have hg3 := (hg.alloc _).trans (gr_regrown hw3)
            clear hw3 hg f0 f1
            go_wp2_with fail
            refine ⟨⟨0 + 1, by omega, by go_num, hg3, fun m hm => ?_⟩, by simp [intOf]; omega⟩
            rcases Nat.lt_succ_iff_lt_or_eq.1 hm with h | rfl
            · exact HO.out m h
            · rw [HOK.out, hB1, hB2]; rfl
      | succ k =>
        obtain ⟨d0, d1⟩ := HC.out.gr hg k (by omega)
        have hok := okAt_succ xs k hlt
        generalize hx : xs[k + 1] = x at *
        generalize hy : xs[k] = y at *
        obtain ⟨x1, x2⟩ := x
        obtain ⟨y1, y2⟩ := y
        simp only at c0 c1 d0 d1
        have hok' : okAt xs (k + 1) = ((inB x1 1 1073741824 && inB x2 0 1073741823) && beforeB (y1, y2) (x1, x2)) := by rw [hok]; unfold inP inB; simp only [Bool.and_assoc]
        have HOK := Lib.hid hok'
        clear hok hok'
        have p0 : (wr.alloc (.cells #[.int .i64 x1, .int .i64 x2] 39)).cell? ⟨wr.heap.size, 0, none⟩ = some (.int .i64 x1) := by rw [World.cell?_alloc_new]; rfl
        have p1 : (wr.alloc (.cells #[.int .i64 x1, .int .i64 x2] 39)).cell? ⟨wr.heap.size, 1, none⟩ = some (.int .i64 x2) := by rw [World.cell?_alloc_new]; rfl
        have f0 := fun d os => cell_regrown p0 d os
        have f1 := fun d os => cell_regrown p1 d os
        have f2 := fun d os => cell_regrown (((Gr.refl wr).alloc (.cells #[.int .i64 x1, .int .i64 x2] 39)).keeps d0) d os
        have f3 := fun d os => cell_regrown (((Gr.refl wr).alloc (.cells #[.int .i64 x1, .int .i64 x2] 39)).keeps d1) d os
        clear p0 p1
        cases hB1 : inB x1 1 1073741824
        · go_wp2_with fail
          refine wp_region_quiet_below (by kernel_rfl) (by kernel_rfl) ?_
          repeat (go_big_quiet_step ((go_at_call 37; exact Ret.regrown (in_t _ _ _ _))))
          refine wpQuiet_nil ?_
          intro w3 hw3
          have hg3 := (hg.alloc _).trans (gr_regrown hw3)
          clear hw3 hg f0 f1
          go_wp2_with fail
          go_ret
          exact Ret.mk (by rw [placesB_false hlt (by rw [HOK.out, hB1]; rfl)]; rfl) hg3
        · go_wp2_with fail
          cases hB2 : inB x2 0 1073741823
          · refine wp_region_quiet_below (by kernel_rfl) (by kernel_rfl) ?_
            repeat (go_big_quiet_step ((go_at_call 37; exact Ret.regrown (in_t _ _ _ _))))
            refine wpQuiet_nil ?_
            intro w3 hw3
            have hg3 := (hg.alloc _).trans (gr_regrown hw3)
            clear hw3 hg f0 f1
            go_wp2_with fail
            go_ret
            exact Ret.mk (by rw [placesB_false hlt (by rw [HOK.out, hB1, hB2]; rfl)]; rfl) hg3
          · cases hB3 : beforeB (y1, y2) (x1, x2)
            · refine wp_region_quiet_below (by kernel_rfl) (by kernel_rfl) ?_
              repeat (go_big_quiet_step (first | (go_at_call 37; exact Ret.regrown (in_t _ _ _ _)) | (go_at_call 38; exact Ret.regrown (before_t (y1, y2) (x1, x2) _))))
              refine wpQuiet_nil ?_
              intro w3 hw3
              have hg3 := (hg.alloc _).trans (gr_regrown hw3)
              clear hw3 hg f0 f1
              go_wp2_with fail
              go_ret
              exact Ret.mk (by rw [placesB_false hlt (by rw [HOK.out, hB1, hB2, hB3]; rfl)]; rfl) hg3
            · refine wp_region_quiet_below (by kernel_rfl) (by kernel_rfl) ?_
              repeat (go_big_quiet_step (first | (go_at_call 37; exact Ret.regrown (in_t _ _ _ _)) | (go_at_call 38; exact Ret.regrown (before_t (y1, y2) (x1, x2) _))))
              refine wpQuiet_nil ?_
              intro w3 hw3
              have hg3 := (hg.alloc _).trans (gr_regrown hw3)
              clear hw3 hg f0 f1
              go_wp2_with fail
              refine ⟨⟨k + 1 + 1, by omega, by go_num, hg3, fun m hm => ?_⟩, by simp [intOf]; omega⟩
              rcases Nat.lt_succ_iff_lt_or_eq.1 hm with h | rfl
              · exact HO.out m h
              · rw [HOK.out, hB1, hB2, hB3]; rfl
    · go_wp2_with fail
      go_ret
      exact Ret.mk (by rw [placesB_true (fun k hk => HO.out k (by omega))]; rfl) hg
end Go.Proofs.Ytkdplnbdhkckhaa
