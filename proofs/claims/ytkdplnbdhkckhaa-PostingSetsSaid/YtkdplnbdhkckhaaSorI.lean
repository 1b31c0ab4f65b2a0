/-
  sort.choosePivot_func, the functions given being any that do as SortBy says.
-/
import Derived.Test.YtkdplnbdhkckhaaSorH
import Derived.Deep.DeepCutAuto
namespace Go.Proofs.Ytkdplnbdhkckhaa
open Go Go.RowKit Go.Sort
section
variable {α : Type} [Inhabited α] {lt : α → α → Bool} {R : World → Array α → Prop} {B size g : Nat} {lb : Array Value} {sf : Nat} {sb : Array Value}
/-- A hint as the sort's text counts it. -/
def hintI : Hint → Int
  | .unknown => 0
  | .increasing => 1
  | .decreasing => 2
theorem medianAdjacent_swaps (lt : α → α → Bool) (d : Array α) (a b c s n : Nat) (ha : a < n) (hb : b < n) (hc : c < n) : (median lt d a b c s).1 < n ∧ (median lt d a b c s).2 ≤ s + 3 := by
  have b1 := order2_lt' lt d s ha hb
  have q1 := order2_swaps' lt d a b s
  have b2 := order2_lt' lt d (order2 lt d a b s).2.2 b1.2 hc
  have q2 := order2_swaps' lt d (order2 lt d a b s).2.1 c (order2 lt d a b s).2.2
  have b3 := order2_lt' lt d (order2 lt d (order2 lt d a b s).2.1 c (order2 lt d a b s).2.2).2.2 b1.1 b2.1
  have q3 := order2_swaps' lt d (order2 lt d a b s).1 (order2 lt d (order2 lt d a b s).2.1 c (order2 lt d a b s).2.2).1 (order2 lt d (order2 lt d a b s).2.1 c (order2 lt d a b s).2.2).2.2
  unfold median
  simp only []
  exact ⟨b3.2, by omega⟩
/-- What the pivot's index and the count of swaps are. -/
def pivotR (lt : α → α → Bool) (d : Array α) (a q l : Nat) : Nat × Nat :=
  if l ≥ 50 then median lt d (medianAdjacent lt d (a + q) 0).1 (medianAdjacent lt d (a + q * 2) (medianAdjacent lt d (a + q) 0).2).1 (medianAdjacent lt d (a + q * 3) (medianAdjacent lt d (a + q * 2) (medianAdjacent lt d (a + q) 0).2).2).1 (medianAdjacent lt d (a + q * 3) (medianAdjacent lt d (a + q * 2) (medianAdjacent lt d (a + q) 0).2).2).2
  else median lt d (a + q) (a + q * 2) (a + q * 3) 0
theorem choosePivot_is (lt : α → α → Bool) (d : Array α) (a b : Nat) (h : 8 ≤ b - a) : choosePivot lt d a b = ((pivotR lt d a ((b - a) / 4) (b - a)).1, if (pivotR lt d a ((b - a) / 4) (b - a)).2 = 0 then .increasing else if (pivotR lt d a ((b - a) / 4) (b - a)).2 = 12 then .decreasing else .unknown) := by
  unfold choosePivot pivotR
  simp only [Nat.mul_one]
  rw [if_pos h]
set_option maxHeartbeats 4000000 in
set_option maxRecDepth 100000 in
theorem choosePivot_w (S : SortBy Try.prog lt R B size g lb sf sb) (a b : Nat) (d : Array α) (w : World) (h : R w d) (hab : a + 12 < b) (hb : b ≤ size) :
    Calls Try.prog 96 #[dataV g lb sf sb, .int .i64 a, .int .i64 b] w fun e w' => e = .returned (.tuple #[.int .i64 ((choosePivot lt d a b).1 : Nat), .int .i64 (hintI (choosePivot lt d a b).2)]) ∧ R w' d ∧ Gr w w' := by
  obtain ⟨N, hNle, hNk⟩ := S.far
  have HF : Hid (FarAt R N) := Lib.hid ⟨hNle, hNk⟩
  have HS := Lib.hid S
  have hlim := S.lim
  have hNw := hNle h
  obtain ⟨ln, hln⟩ : ∃ ln, ln = b - a := ⟨_, rfl⟩
  obtain ⟨q, hq⟩ : ∃ q, q = ln / 4 := ⟨_, rfl⟩
  have HL : Hid ((b : Int) - (a : Int) = (ln : Int)) := Lib.hid (by omega)
  have hquo : (ln : Int).tdiv 4 = (q : Int) := by rw [Int.tdiv_eq_ediv_of_nonneg (by omega)]; omega
  have HQ := Lib.hid hquo
  have EC := Lib.hid (choosePivot_is lt d a b (by omega))
  rw [← hln, ← hq] at EC
  obtain ⟨m, hm⟩ : ∃ m, pivotR lt d a q ln = m := ⟨_, rfl⟩
  rw [hm] at EC
  have hg1 := (Gr.refl w).alloc (.cells #[.func (.func g) #[] lb, .func (.func sf) #[] sb] 98)
  have hbx := Lib.hid (box_new g lb sf sb w 98)
  rw [EC.out]
  have hln2 : ln + a ≤ b ∧ b ≤ ln + a := by omega
  have hq2 : 4 * q ≤ ln ∧ ln < 4 * q + 4 := by omega
  clear hln hq
  unfold dataV
  go_enter Try.func96, Try.ntmps96
  clear hquo
  go_upto_region 2 with (fail)
  rw [HL.out]
  have hg2 := hg1.alloc (.cells #[.int .i64 0] 3)
  have z0 : ((w.alloc (.cells #[.func (.func g) #[] lb, .func (.func sf) #[] sb] 98)).alloc (.cells #[.int .i64 0] 3)).cell? ⟨(w.alloc (.cells #[.func (.func g) #[] lb, .func (.func sf) #[] sb] 98)).heap.size, 0, none⟩ = some (.int .i64 0) := by rw [World.cell?_alloc_new]; rfl
  have z1 : ((w.alloc (.cells #[.func (.func g) #[] lb, .func (.func sf) #[] sb] 98)).alloc (.cells #[.int .i64 0] 3)).frozen? ⟨(w.alloc (.cells #[.func (.func g) #[] lb, .func (.func sf) #[] sb] 98)).heap.size, 0, none⟩ = false := by simp
  have b2 := hbx.out.gr ((Gr.refl _).alloc (.cells #[.int .i64 0] 3))
  have hsz : (w.alloc (.cells #[.func (.func g) #[] lb, .func (.func sf) #[] sb] 98)).heap.size = w.heap.size + 1 := by simp
  go_upto_region 3 with (fail)
  rw [hsz] at z0 z1
  try rw [hsz]
  generalize (w.alloc (.cells #[.func (.func g) #[] lb, .func (.func sf) #[] sb] 98)).alloc (.cells #[.int .i64 0] 3) = w2 at *
  have K2 : Hid (CtAt R N (w.heap.size + 1) d 0 w2) := Lib.hid ⟨hNk h (GrX.of_gr hg2), z0, z1, by omega⟩
  have hcbD : ¬ w.heap.size = w.heap.size + 1 := by omega
  have HGW := Lib.hid hg2
  have hszw : w.heap.size + 1 < w2.heap.size := lt_of_cell z0
  obtain ⟨c0, c1⟩ := b2
  have G2 : Hid (GrX (fun k => k = w.heap.size + 1) w w2) := Lib.hid (GrX.of_gr hg2)
  have HFIN : Hid (∀ w', GrX (fun k => k = w.heap.size + 1) w w' → Gr w w') := Lib.hid fun w' k => k.gr (Gr.refl w) (fun x e => by have e2 : x = w.heap.size + 1 := e; omega)
  clear hg1 hg2 hbx z0 z1 hsz hNk hNle h S
  generalize w.heap.size + 1 = cb at *
  generalize w.heap.size = D at *
  have hquo := HQ.out
  go_upto_region 6 with (fail)
  clear hquo
  have e8 : decide ((8 : Int) ≤ (ln : Int)) = true := by simp; omega
  by_cases h50 : 50 ≤ ln
  · have e50 : decide ((50 : Int) ≤ (ln : Int)) = true := by simp; omega
    have em : pivotR lt d a q ln = median lt d (medianAdjacent lt d (a + q) 0).1 (medianAdjacent lt d (a + q * 2) (medianAdjacent lt d (a + q) 0).2).1 (medianAdjacent lt d (a + q * 3) (medianAdjacent lt d (a + q * 2) (medianAdjacent lt d (a + q) 0).2).2).1 (medianAdjacent lt d (a + q * 3) (medianAdjacent lt d (a + q * 2) (medianAdjacent lt d (a + q) 0).2).2).2 := if_pos h50
    obtain ⟨m1, h1⟩ : ∃ m1, medianAdjacent lt d (a + q) 0 = m1 := ⟨_, rfl⟩
    obtain ⟨m2, h2⟩ : ∃ m2, medianAdjacent lt d (a + q * 2) m1.2 = m2 := ⟨_, rfl⟩
    obtain ⟨m3, h3⟩ : ∃ m3, medianAdjacent lt d (a + q * 3) m2.2 = m3 := ⟨_, rfl⟩
    rw [h1, h2, h3, hm] at em
    have p1 := medianAdjacent_swaps lt d (a + q - 1) (a + q) (a + q + 1) 0 size (by omega) (by omega) (by omega)
    have p1' : m1.1 < size ∧ m1.2 ≤ 0 + 3 := by rw [← h1]; exact p1
    have p2 := medianAdjacent_swaps lt d (a + q * 2 - 1) (a + q * 2) (a + q * 2 + 1) m1.2 size (by omega) (by omega) (by omega)
    have p2' : m2.1 < size ∧ m2.2 ≤ m1.2 + 3 := by rw [← h2]; exact p2
    have p3 := medianAdjacent_swaps lt d (a + q * 3 - 1) (a + q * 3) (a + q * 3 + 1) m2.2 size (by omega) (by omega) (by omega)
    have p3' : m3.1 < size ∧ m3.2 ≤ m2.2 + 3 := by rw [← h3]; exact p3
    have C1 := fun w (k : CtAt R N cb d 0 w) => medianAdjacent_w HS.out N cb HF.out (a + q) 0 d w k (by omega) (by omega) (by omega)
    have C2 := fun w (k : CtAt R N cb d m1.2 w) => medianAdjacent_w HS.out N cb HF.out (a + q * 2) m1.2 d w k (by omega) (by omega) (by omega)
    have C3 := fun w (k : CtAt R N cb d m2.2 w) => medianAdjacent_w HS.out N cb HF.out (a + q * 3) m2.2 d w k (by omega) (by omega) (by omega)
    have C4 := fun w (k : CtAt R N cb d m3.2 w) => median_w HS.out N cb HF.out m1.1 m2.1 m3.1 m3.2 d w k p1'.1 p2'.1 p3'.1 (by omega)
    rw [h1, show ((a + q : Nat) : Int) = (a : Int) + (q : Int) by omega] at C1
    rw [h2, show ((a + q * 2 : Nat) : Int) = (a : Int) + (q : Int) * 2 by omega] at C2
    rw [h3, show ((a + q * 3 : Nat) : Int) = (a : Int) + (q : Int) * 3 by omega] at C3
    rw [← em] at C4
    unfold dataV at C1 C2 C3 C4
    have HC1 := Lib.hid C1
    have HC2 := Lib.hid C2
    have HC3 := Lib.hid C3
    have HC4 := Lib.hid C4
    clear C1 C2 C3 C4 h1 h2 h3 em hm p1 p2 p3 p1' p2' p3'
    go_wp2_with fail
    refine (HC1.out _ K2.out).mono ?_
    rintro e w3 ⟨rfl, k, kg⟩
    have K3 := Lib.hid k
    have G3 := Lib.hid (G2.out.trans kg)
    have c0 := kg.keeps hcbD c0
    have c1 := kg.keeps hcbD c1
    clear k kg HC1
    go_wp2_with fail
    refine (HC2.out _ K3.out).mono ?_
    rintro e w4 ⟨rfl, k, kg⟩
    have K4 := Lib.hid k
    have G4 := Lib.hid (G3.out.trans kg)
    have c0 := kg.keeps hcbD c0
    have c1 := kg.keeps hcbD c1
    clear k kg HC2
    go_wp2_with fail
    refine (HC3.out _ K4.out).mono ?_
    rintro e w5 ⟨rfl, k, kg⟩
    have K5 := Lib.hid k
    have G5 := Lib.hid (G4.out.trans kg)
    have c0 := kg.keeps hcbD c0
    have c1 := kg.keeps hcbD c1
    clear k kg HC3
    go_wp2_with fail
    refine (HC4.out _ K5.out).mono ?_
    rintro e w6 ⟨rfl, k, kg⟩
    have K6 := Lib.hid k
    have G6 := Lib.hid (G5.out.trans kg)
    have c0 := kg.keeps hcbD c0
    have c1 := kg.keeps hcbD c1
    clear k kg HC4
    have hsw : m.2 = 0 ∨ m.2 = 12 ∨ (m.2 ≠ 0 ∧ m.2 ≠ 12) := by omega
    have z0 := K6.out.cell
    rcases hsw with hsw | hsw | ⟨hsw, hsw2⟩
    · have z1 : ((m.2 : Nat) : Int) = 0 := by omega
      rw [z1] at z0
      go_wp2_with fail
      go_ret2
      exact ⟨by first | rfl | simp [hintI, hsw] | simp [hintI, hsw, hsw2], K6.out.row, HFIN.out _ G6.out⟩
    · have z1 : ((m.2 : Nat) : Int) = 12 := by omega
      rw [z1] at z0
      go_wp2_with fail
      go_ret2
      exact ⟨by first | rfl | simp [hintI, hsw] | simp [hintI, hsw, hsw2], K6.out.row, HFIN.out _ G6.out⟩
    · have z1 : (((m.2 : Nat) : Int) == 0) = false := by simp; omega
      have z2 : (((m.2 : Nat) : Int) == 12) = false := by simp; omega
      go_wp2_with fail
      go_ret2
      exact ⟨by first | rfl | simp [hintI, hsw] | simp [hintI, hsw, hsw2], K6.out.row, HFIN.out _ G6.out⟩
  · have e50 : decide ((50 : Int) ≤ (ln : Int)) = false := by simp; omega
    have em : pivotR lt d a q ln = median lt d (a + q) (a + q * 2) (a + q * 3) 0 := if_neg h50
    rw [hm] at em
    have C4 := fun w (k : CtAt R N cb d 0 w) => median_w HS.out N cb HF.out (a + q) (a + q * 2) (a + q * 3) 0 d w k (by omega) (by omega) (by omega) (by omega)
    rw [← em, show ((a + q : Nat) : Int) = (a : Int) + (q : Int) by omega, show ((a + q * 2 : Nat) : Int) = (a : Int) + (q : Int) * 2 by omega, show ((a + q * 3 : Nat) : Int) = (a : Int) + (q : Int) * 3 by omega] at C4
    unfold dataV at C4
    have HC4 := Lib.hid C4
    clear C4 em hm
    go_wp2_with fail
    refine (HC4.out _ K2.out).mono ?_
    rintro e w3 ⟨rfl, k, kg⟩
    have K3 := Lib.hid k
    have G3 := Lib.hid (G2.out.trans kg)
    have c0 := kg.keeps hcbD c0
    have c1 := kg.keeps hcbD c1
    clear k kg HC4
    have hsw : m.2 = 0 ∨ m.2 = 12 ∨ (m.2 ≠ 0 ∧ m.2 ≠ 12) := by omega
    have z0 := K3.out.cell
    rcases hsw with hsw | hsw | ⟨hsw, hsw2⟩
    · have z1 : ((m.2 : Nat) : Int) = 0 := by omega
      rw [z1] at z0
      go_wp2_with fail
      go_ret2
      exact ⟨by first | rfl | simp [hintI, hsw] | simp [hintI, hsw, hsw2], K3.out.row, HFIN.out _ G3.out⟩
    · have z1 : ((m.2 : Nat) : Int) = 12 := by omega
      rw [z1] at z0
      go_wp2_with fail
      go_ret2
      exact ⟨by first | rfl | simp [hintI, hsw] | simp [hintI, hsw, hsw2], K3.out.row, HFIN.out _ G3.out⟩
    · have z1 : (((m.2 : Nat) : Int) == 0) = false := by simp; omega
      have z2 : (((m.2 : Nat) : Int) == 12) = false := by simp; omega
      go_wp2_with fail
      go_ret2
      exact ⟨by first | rfl | simp [hintI, hsw] | simp [hintI, hsw, hsw2], K3.out.row, HFIN.out _ G3.out⟩
end
end Go.Proofs.Ytkdplnbdhkckhaa
