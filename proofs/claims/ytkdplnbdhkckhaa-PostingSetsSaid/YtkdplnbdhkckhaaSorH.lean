/-
  sort.order2_func, median_func, medianAdjacent_func, choosePivot_func, the functions given being any that do as SortBy says.
-/
import Derived.Test.YtkdplnbdhkckhaaSorD
import Derived.Shelf.GgSortFunc.LotD
namespace Go.Proofs.Ytkdplnbdhkckhaa
open Go Go.RowKit Go.Sort
section
variable {α : Type} [Inhabited α] {lt : α → α → Bool} {R : World → Array α → Prop} {B size g : Nat} {lb : Array Value} {sf : Nat} {sb : Array Value}
/-- The row holds d; the counter in block cb, which is none of the row's, holds s. -/
structure CtAt (R : World → Array α → Prop) (N cb : Nat) (d : Array α) (s : Nat) (w : World) : Prop where
  row : R w d
  cell : w.cell? ⟨cb, 0, none⟩ = some (.int .i64 s)
  free : w.frozen? ⟨cb, 0, none⟩ = false
  new : N ≤ cb
/-- Blocks from N on are none of the row's. -/
structure FarAt (R : World → Array α → Prop) (N : Nat) : Prop where
  le : ∀ {w : World} {d : Array α}, R w d → N ≤ w.heap.size
  keep : ∀ {w w' : World} {d : Array α}, R w d → GrX (fun b => N ≤ b) w w' → R w' d
omit [Inhabited α] in
theorem CtAt.gr {N cb : Nat} {d : Array α} {s : Nat} {w w' : World} (F : FarAt R N) (h : CtAt R N cb d s w) (k : Gr w w') : CtAt R N cb d s w' :=
  ⟨F.keep h.row (GrX.of_gr k), k.keeps h.cell, by rw [World.frozen?_of_block (k.block _ (lt_of_cell h.cell))]; exact h.free, h.new⟩
omit [Inhabited α] in
theorem CtAt.set {N cb : Nat} {d : Array α} {s t : Nat} {w : World} (F : FarAt R N) (h : CtAt R N cb d s w) : CtAt R N cb d t (w.setCell ⟨cb, 0, none⟩ (.int .i64 t)) :=
  ⟨F.keep h.row (GrX.setCell w _ h.new), World.cell?_setCell_same w _ _ h.cell, by simpa using h.free, h.new⟩
set_option maxHeartbeats 4000000 in
set_option maxRecDepth 100000 in
theorem order2_w (S : SortBy Try.prog lt R B size g lb sf sb) (N cb : Nat) (F : FarAt R N) (a b s : Nat) (d : Array α) (w : World) (h : CtAt R N cb d s w) (ha : a < size) (hb : b < size) (hs : s < 1000) :
    Calls Try.prog 108 #[dataV g lb sf sb, .int .i64 a, .int .i64 b, .pointer (some ⟨cb, 0, none⟩)] w fun e w' => e = .returned (.tuple #[.int .i64 ((order2 lt d a b s).1 : Nat), .int .i64 ((order2 lt d a b s).2.1 : Nat)]) ∧ CtAt R N cb d (order2 lt d a b s).2.2 w' ∧ GrX (fun k => k = cb) w w' := by
  have hg0 := (Gr.refl w).alloc (.cells #[.func (.func g) #[] lb, .func (.func sf) #[] sb] 98)
  have hbx := box_new g lb sf sb w 98
  have hcb := lt_of_cell h.cell
  have H1 := Lib.hid (h.gr F hg0)
  have HG := Lib.hid hg0
  have HF := Lib.hid F
  have hl := S.less H1.out.row b a hb ha
  have eg := S.enter
  obtain ⟨c0, c1⟩ := hbx
  unfold dataV
  clear S F hg0 h
  go_enter Try.func108, Try.ntmps108
  cases hL : lt d[b]! d[a]! with
  | true =>
    have e : order2 lt d a b s = (b, a, s + 1) := by unfold order2; rw [hL]; rfl
    rw [e]
    rw [hL] at hl
    clear e hL
    go_wp2_with (first
      | (go_at_fn g; refine hl.mono ?_; rintro e w2 ⟨rfl, k⟩
         have H2 := Lib.hid (H1.out.gr HF.out k)
         have HK := Lib.hid k
         have z0 := H2.out.cell
         have z1 := H2.out.free
         clear k))
    go_ret2
    exact ⟨rfl, H2.out.set HF.out, (GrX.of_gr (HG.out.trans HK.out)).trans (GrX.setCell _ _ rfl)⟩
  | false =>
    have e : order2 lt d a b s = (a, b, s) := by unfold order2; rw [hL]; rfl
    rw [e]
    rw [hL] at hl
    clear e hL
    go_wp2_with (first
      | (go_at_fn g; refine hl.mono ?_; rintro e w2 ⟨rfl, k⟩
         have H2 := Lib.hid (H1.out.gr HF.out k)
         have HK := Lib.hid k
         clear k))
    go_ret2
    exact ⟨rfl, H2.out, GrX.of_gr (HG.out.trans HK.out)⟩
set_option maxHeartbeats 4000000 in
set_option maxRecDepth 100000 in
theorem median_w (S : SortBy Try.prog lt R B size g lb sf sb) (N cb : Nat) (F : FarAt R N) (a b c s : Nat) (d : Array α) (w : World) (h : CtAt R N cb d s w) (ha : a < size) (hb : b < size) (hc : c < size) (hs : s < 900) :
    Calls Try.prog 107 #[dataV g lb sf sb, .int .i64 a, .int .i64 b, .int .i64 c, .pointer (some ⟨cb, 0, none⟩)] w fun e w' => e = .returned (.int .i64 ((median lt d a b c s).1 : Nat)) ∧ CtAt R N cb d (median lt d a b c s).2 w' ∧ GrX (fun k => k = cb) w w' := by
  have hg0 := (Gr.refl w).alloc (.cells #[.func (.func g) #[] lb, .func (.func sf) #[] sb] 98)
  have hbx := box_new g lb sf sb w 98
  have hcb := lt_of_cell h.cell
  have H1 := Lib.hid (h.gr F hg0)
  have HG := Lib.hid hg0
  have HF := Lib.hid F
  have HS := Lib.hid S
  have hcbD : ¬ w.heap.size = cb := by omega
  have hbx0 := Lib.hid hbx
  clear hg0 h S F hbx
  obtain ⟨w1, hw1⟩ : ∃ w1, w1 = w.alloc (.cells #[.func (.func g) #[] lb, .func (.func sf) #[] sb] 98) := ⟨_, rfl⟩
  obtain ⟨D, hD⟩ : ∃ D, D = w.heap.size := ⟨_, rfl⟩
  rw [← hw1] at H1 HG hbx0
  rw [← hD] at hcbD hbx0
  obtain ⟨r1, h1⟩ : ∃ r1, order2 lt d a b s = r1 := ⟨_, rfl⟩
  obtain ⟨r2, h2⟩ : ∃ r2, order2 lt d r1.2.1 c r1.2.2 = r2 := ⟨_, rfl⟩
  obtain ⟨r3, h3⟩ : ∃ r3, order2 lt d r1.1 r2.1 r2.2.2 = r3 := ⟨_, rfl⟩
  have em : median lt d a b c s = (r3.2.1, r3.2.2) := by unfold median; simp only [h1, h2, h3]
  rw [em]
  clear em
  have b1 := order2_lt' lt d s ha hb
  have q1 := order2_swaps' lt d a b s
  rw [h1] at b1 q1
  have b2 := order2_lt' lt d r1.2.2 b1.2 hc
  have q2 := order2_swaps' lt d r1.2.1 c r1.2.2
  rw [h2] at b2 q2
  have hc1 := order2_w HS.out N cb HF.out a b s d w1 H1.out ha hb (by omega)
  rw [h1] at hc1
  have hc2 := fun w (h : CtAt R N cb d r1.2.2 w) => order2_w HS.out N cb HF.out r1.2.1 c r1.2.2 d w h b1.2 hc (by omega)
  rw [h2] at hc2
  have hc3 := fun w (h : CtAt R N cb d r2.2.2 w) => order2_w HS.out N cb HF.out r1.1 r2.1 r2.2.2 d w h b1.1 b2.1 (by omega)
  rw [h3] at hc3
  obtain ⟨r1a, r1b, r1s⟩ := r1
  obtain ⟨r2a, r2b, r2s⟩ := r2
  obtain ⟨r3a, r3b, r3s⟩ := r3
  unfold dataV at hc1 hc2 hc3
  simp only at hc1 hc2 hc3
  have HC1 := Lib.hid hc1
  have HC2 := Lib.hid hc2
  have HC3 := Lib.hid hc3
  obtain ⟨c0, c1⟩ := hbx0.out
  unfold dataV
  clear h1 h2 h3 b1 q1 b2 q2 hc1 hc2 hc3 HS hcb
  rw [hw1, hD] at c0 c1
  go_enter Try.func107, Try.ntmps107
  have HW1 := Lib.hid hw1
  have HD := Lib.hid hD
  clear hw1 hD
  go_wp2_with fail
  rw [← HW1.out, ← HD.out]
  clear c0 c1 HW1 HD
  refine HC1.out.mono ?_
  rintro e w2 ⟨rfl, k, kg⟩
  have d0 := kg.keeps hcbD hbx0.out.c0
  have d1 := kg.keeps hcbD hbx0.out.c1
  have K1 := Lib.hid k
  have G1 := Lib.hid kg
  clear k kg HC1
  go_wp2_with fail
  refine (HC2.out _ K1.out).mono ?_
  rintro e w3 ⟨rfl, k, kg⟩
  have d2 := kg.keeps hcbD d0
  have d3 := kg.keeps hcbD d1
  have K2 := Lib.hid k
  have G2 := Lib.hid (G1.out.trans kg)
  clear k kg HC2 d0 d1
  go_wp2_with fail
  refine (HC3.out _ K2.out).mono ?_
  rintro e w4 ⟨rfl, k, kg⟩
  have K3 := Lib.hid k
  have G3 := Lib.hid (G2.out.trans kg)
  clear k kg HC3 d2 d3
  go_wp2_with fail
  go_ret
  exact ⟨rfl, K3.out, (GrX.of_gr HG.out).trans G3.out⟩
set_option maxHeartbeats 4000000 in
set_option maxRecDepth 100000 in
theorem medianAdjacent_w (S : SortBy Try.prog lt R B size g lb sf sb) (N cb : Nat) (F : FarAt R N) (a s : Nat) (d : Array α) (w : World) (h : CtAt R N cb d s w) (h1 : 1 ≤ a) (ha : a + 1 < size) (hs : s < 900) :
    Calls Try.prog 106 #[dataV g lb sf sb, .int .i64 a, .pointer (some ⟨cb, 0, none⟩)] w fun e w' => e = .returned (.int .i64 ((medianAdjacent lt d a s).1 : Nat)) ∧ CtAt R N cb d (medianAdjacent lt d a s).2 w' ∧ GrX (fun k => k = cb) w w' := by
  have hg0 := (Gr.refl w).alloc (.cells #[.func (.func g) #[] lb, .func (.func sf) #[] sb] 98)
  obtain ⟨c0, c1⟩ := box_new g lb sf sb w 98
  have hlim := S.lim
  have hc1 := median_w S N cb F (a - 1) a (a + 1) s d _ (h.gr F hg0) (by omega) (by omega) ha hs
  rw [show ((a - 1 : Nat) : Int) = (a : Int) - 1 by omega, show ((a + 1 : Nat) : Int) = (a : Int) + 1 by omega] at hc1
  unfold dataV at hc1
  have HC1 := Lib.hid hc1
  have HG := Lib.hid hg0
  unfold dataV
  unfold medianAdjacent
  generalize median lt d (a - 1) a (a + 1) s = m at *
  clear hc1 hg0 S F h
  go_enter Try.func106, Try.ntmps106
  go_wp2_with (first
    | (go_at_call 107; refine HC1.out.mono ?_; rintro e w2 ⟨rfl, k, kg⟩
       have K1 := Lib.hid k
       have G1 := Lib.hid kg
       clear k kg))
  go_ret
  exact ⟨rfl, K1.out, (GrX.of_gr HG.out).trans G1.out⟩
end
end Go.Proofs.Ytkdplnbdhkckhaa
