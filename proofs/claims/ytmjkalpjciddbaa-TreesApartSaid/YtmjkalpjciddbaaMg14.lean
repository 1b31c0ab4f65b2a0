/-
  (*Tree).drop at a leaf.
-/
import Derived.Test.YtmjkalpjciddbaaMg13
namespace Go.Proofs.Ytmjkalpjciddbaa
open Go Go.RowKit

/-- A node is told in a result's block. -/
theorem tell_node {w w5 : World} {PB DB M : Nat} {c : Ch} {sv : Head} {t : Int} {d : Dk} {RB : Nat} {s : Value} {R : List En} (hRB : w.heap.size ≤ RB) (hF : PgF PB DB M M w w5) (hp : PgT w5 PB DB M c sv t d) (ho : OwnE w w5 s R) (hN : ∀ b, s.ownBlock = some b → ¬ b = RB) (hlt : PB < w.heap.size ∧ DB < w.heap.size ∧ M < w.heap.size) (v0 v1 v2 : Value) :
    OwnE w (((w5.setCell ⟨RB, 0, none⟩ v0).setCell ⟨RB, 1, none⟩ v1).setCell ⟨RB, 2, none⟩ v2) s R ∧ PgT (((w5.setCell ⟨RB, 0, none⟩ v0).setCell ⟨RB, 1, none⟩ v1).setCell ⟨RB, 2, none⟩ v2) PB DB M c sv t d ∧ PgF PB DB M M w (((w5.setCell ⟨RB, 0, none⟩ v0).setCell ⟨RB, 1, none⟩ v1).setCell ⟨RB, 2, none⟩ v2) := by
  have g : GrX (fun b => b = RB) w5 (((w5.setCell ⟨RB, 0, none⟩ v0).setCell ⟨RB, 1, none⟩ v1).setCell ⟨RB, 2, none⟩ v2) := ((GrX.setCell (S := fun b => b = RB) (p := ⟨RB, 0, none⟩) w5 _ rfl).trans (GrX.setCell (S := fun b => b = RB) (p := ⟨RB, 1, none⟩) _ _ rfl)).trans (GrX.setCell (S := fun b => b = RB) (p := ⟨RB, 2, none⟩) _ _ rfl)
  exact ⟨ho.keepX g hN, hp.keepX g (by omega) (by omega) (by omega), hF.own g (fun j e => by omega)⟩
theorem three_set {w : World} {B : Nat} {x0 x1 x2 v0 v1 v2 : Value} (r0 : w.cell? ⟨B, 0, none⟩ = some x0) (r1 : w.cell? ⟨B, 1, none⟩ = some x1) (r2 : w.cell? ⟨B, 2, none⟩ = some x2) :
    (((w.setCell ⟨B, 0, none⟩ v0).setCell ⟨B, 1, none⟩ v1).setCell ⟨B, 2, none⟩ v2).cell? ⟨B, 0, none⟩ = some v0 ∧ (((w.setCell ⟨B, 0, none⟩ v0).setCell ⟨B, 1, none⟩ v1).setCell ⟨B, 2, none⟩ v2).cell? ⟨B, 1, none⟩ = some v1 ∧ (((w.setCell ⟨B, 0, none⟩ v0).setCell ⟨B, 1, none⟩ v1).setCell ⟨B, 2, none⟩ v2).cell? ⟨B, 2, none⟩ = some v2 := by
  refine ⟨?_, ?_, ?_⟩
  · rw [World.cell?_setCell_other _ _ _ _ (by simp), World.cell?_setCell_other _ _ _ _ (by simp), World.cell?_setCell_same _ _ _ r0]
  · rw [World.cell?_setCell_other _ _ _ _ (by simp), World.cell?_setCell_same _ _ _ ((World.cell?_setCell_other _ _ _ _ (by simp)).trans r1)]
  · rw [World.cell?_setCell_same _ _ _ ((World.cell?_setCell_other _ _ _ _ (by simp)).trans ((World.cell?_setCell_other _ _ _ _ (by simp)).trans r2))]
section
variable {w : World} {PB DB M : Nat} {c : Ch} {sv : Head} {t : Int} {d : Dk}
set_option maxRecDepth 100000 in
set_option maxHeartbeats 4000000 in
theorem drop_leaf (h : PgT w PB DB M c sv t d) {TP root : Nat} (ht : TreeAt w TP PB root) (hTn : TP ≠ PB ∧ TP ≠ DB ∧ TP ≠ M) {p : Nat} {l : List En} (hp : HasN c d.pg true p l) (hok : ∀ e ∈ l, e.ok true) (hb : bytesE true l ≤ 1024) (key : ByteArray) (hh : hitE (keysE l) key = true) :
    Calls Try.prog 42 #[.pointer (some ⟨TP, 0, none⟩), .int .i64 (p : Int), .string key] w fun e w' => ∃ s, e = .returned (.tuple #[nodeV p true s, .nilIface]) ∧ OwnE w w' s (l.eraseIdx (searchE (keysE l) key)) ∧ PgT w' PB DB M (c.write (p : Nat) (pageE true (l.eraseIdx (searchE (keysE l) key)))) sv t d ∧ PgF PB DB M M w w' := by
  have hg0 : Gr w (w.alloc (.cells #[.int .i64 0, .bool false, .slice none 0 0] 84)) := (Gr.refl w).alloc _
  have hrd := read_n (h.gr hg0).s (ht.gr hg0) hp hok hb
  have r0 : (w.alloc (.cells #[.int .i64 0, .bool false, .slice none 0 0] 84)).cell? ⟨w.heap.size, 0, none⟩ = some (.int .i64 0) := by rw [World.cell?_alloc_new]; rfl
  have r1 : (w.alloc (.cells #[.int .i64 0, .bool false, .slice none 0 0] 84)).cell? ⟨w.heap.size, 1, none⟩ = some (.bool false) := by rw [World.cell?_alloc_new]; rfl
  have r2 : (w.alloc (.cells #[.int .i64 0, .bool false, .slice none 0 0] 84)).cell? ⟨w.heap.size, 2, none⟩ = some (.slice none 0 0) := by rw [World.cell?_alloc_new]; rfl
  have rf : ∀ o, (w.alloc (.cells #[.int .i64 0, .bool false, .slice none 0 0] 84)).frozen? ⟨w.heap.size, o, none⟩ = false := fun o => by simp
  have hl : l.length ≤ 600 := by
    have := sumE_len true l
    unfold bytesE at hb
    omega
  have hkl : (keysE l).length = l.length := by unfold keysE; rw [List.length_map]
  have hlt : searchE (keysE l) key < l.length := by rw [← hkl]; exact hitE_lt hh
  obtain ⟨K, hK⟩ : ∃ K, searchE (keysE l) key = K := ⟨_, rfl⟩
  rw [hK] at hlt ⊢
  obtain ⟨R, hR⟩ : ∃ R, l.eraseIdx K = R := ⟨_, rfl⟩
  rw [hR]
  go_enter Try.func42, Try.ntmps42
  go_wp2_with fail
  have hRW : Hid (w.heap.size < (w.alloc (.cells #[.int .i64 0, .bool false, .slice none 0 0] 84)).heap.size) := Lib.hid (by simp)
  have HG0 := Lib.hid hg0
  obtain ⟨WB, hWB⟩ : ∃ WB, w.alloc (.cells #[.int .i64 0, .bool false, .slice none 0 0] 84) = WB := ⟨_, rfl⟩
  rw [hWB] at hrd r0 r1 r2 rf HG0 hRW ⊢
  clear hWB hg0
  obtain ⟨RB, hRB⟩ : ∃ RB, w.heap.size = RB := ⟨_, rfl⟩
  have HRB := Lib.hid hRB
  rw [hRB] at r0 r1 r2 rf hRW ⊢
  refine hrd.mono ?_
  rintro e w1 ⟨s', rfl, ho1, hg1⟩
  obtain ⟨ao, ca, rfl⟩ := ho1.form
  have hfn := fun W (g : Gr w1 W) => find_n p true l (.slice ao l.length ca) key W (ho1.isE.gr g) (by omega)
  simp only [if_true, hh, hK] at hfn
  have hga : Gr w1 (w1.alloc (.cells #[.int .i64 (p : Int), .bool true, .slice ao l.length ca] 84)) := (Gr.refl w1).alloc _
  unfold nodeV at *
  have HFN := Lib.hid hfn
  have hg2 := hg1.trans hga
  have r0 := hg2.keeps r0
  have r1 := hg2.keeps r1
  have r2 := hg2.keeps r2
  have k0 : (w1.alloc (.cells #[.int .i64 (p : Int), .bool true, .slice ao l.length ca] 84)).cell? ⟨w1.heap.size, 0, none⟩ = some (.int .i64 (p : Int)) := by rw [World.cell?_alloc_new]; rfl
  have k1 : (w1.alloc (.cells #[.int .i64 (p : Int), .bool true, .slice ao l.length ca] 84)).cell? ⟨w1.heap.size, 1, none⟩ = some (.bool true) := by rw [World.cell?_alloc_new]; rfl
  have k2 : (w1.alloc (.cells #[.int .i64 (p : Int), .bool true, .slice ao l.length ca] 84)).cell? ⟨w1.heap.size, 2, none⟩ = some (.slice ao l.length ca) := by rw [World.cell?_alloc_new]; rfl
  have kf : ∀ o, (w1.alloc (.cells #[.int .i64 (p : Int), .bool true, .slice ao l.length ca] 84)).frozen? ⟨w1.heap.size, o, none⟩ = false := fun o => by simp
  clear hrd hfn
  go_wp2_with fail
  obtain ⟨NB, hNB⟩ : ∃ NB, w1.heap.size = NB := ⟨_, rfl⟩
  rw [hNB] at k0 k1 k2 kf ⊢
  refine (HFN.out _ hga).mono ?_
  rintro e w2 ⟨rfl, hg3⟩
  have r0 := hg3.keeps r0
  have r1 := hg3.keeps r1
  have r2 := hg3.keeps r2
  have k0 := hg3.keeps k0
  have k1 := hg3.keeps k1
  have k2 := hg3.keeps k2
  have ho2 := ho1.gr (hga.trans hg3)
  have hg4 := hg2.trans hg3
  have hdl := delete_o WB w2 _ l K ho2 hlt hg4.size (by omega)
  rw [hR] at hdl
  have HDL := Lib.hid hdl
  clear hdl
  have hRok := okE_sub (List.eraseIdx_sublist l K) ⟨hok, hb⟩
  rw [hR] at hRok
  have hNB2 : NB < w2.heap.size := lt_of_cell k0
  have hNo : ¬ ((Value.slice ao l.length ca).ownBlock = some NB) := fun e => by
    have := ownBlock_lt ho1 _ e
    omega
  have hRo : ¬ ((Value.slice ao l.length ca).ownBlock = some RB) := fun e => by
    have := ownBlock_ge ho1 _ e
    have := hRW.out
    omega
  have hNw : WB.heap.size ≤ NB := by
    have := hg1.size
    omega
  have hgw := HG0.out.trans hg4
  go_wp2_with (refine HDL.out.mono ?_; rintro e w3 ⟨v3, rfl, ho3, hx3, hob⟩; obtain ⟨a3, c3, rfl⟩ := ho3.form; (have r0 := hx3.keeps hRo r0); (have r1 := hx3.keeps hRo r1); (have r2 := hx3.keeps hRo r2); (have k0 := hx3.keeps hNo k0); (have k1 := hx3.keeps hNo k1); (have k2 := hx3.keeps hNo k2); (have kz : w3.frozen? ⟨NB, 2, none⟩ = false := by (rw [hx3.frozen 2 hNB2 hNo, hg3.frozen 2 (by rw [← hNB]; simp)]; exact kf 2)))
  have gS : GrX (fun b => b = NB) w3 (w3.setCell ⟨NB, 2, none⟩ (.slice a3 R.length c3)) := GrX.setCell (S := fun b => b = NB) (p := ⟨NB, 2, none⟩) w3 _ rfl
  have hoN : ∀ b, (Value.slice a3 R.length c3).ownBlock = some b → ¬ b = NB := fun b hb e => hNo (by rw [← hob, hb, e])
  have hoR : ∀ b, (Value.slice a3 R.length c3).ownBlock = some b → ¬ b = RB := fun b hb e => hRo (by rw [← hob, hb, e])
  have hob2 : ∀ b, (Value.slice ao l.length ca).ownBlock = some b → WB.heap.size ≤ b := fun b hb => ownBlock_ge ho1 b hb
  have hwz := HG0.out.size
  have hlw := h.lt
  have ho4 := (ho3.keepX gS hoN).back HG0.out
  have hPN : ¬ PB = NB ∧ ¬ DB = NB ∧ ¬ M = NB := by omega
  have hp4 := ((h.gr hgw).keepX hx3 (fun e => by have := hob2 _ e; omega) (fun e => by have := hob2 _ e; omega) (fun e => by have := hob2 _ e; omega)).keepX gS hPN.1 hPN.2.1 hPN.2.2
  have htw := lt_of_cell ht.p
  have ht4 := ((ht.gr hgw).keepX hx3 (fun e => by have := hob2 _ e; omega)).keepX gS (by omega)
  have hF4 := ((PgF.of_gr PB DB M hgw).own hx3 (fun j e => by have := hob2 _ e; omega)).own gS (fun j e => by omega)
  have hRN : RB ≠ NB := by
    have := hRW.out
    omega
  have r0 := gS.keeps hRN r0
  have r1 := gS.keeps hRN r1
  have r2 := gS.keeps hRN r2
  have k0' : (w3.setCell ⟨NB, 2, none⟩ (.slice a3 R.length c3)).cell? ⟨NB, 0, none⟩ = some (.int .i64 (p : Int)) := by
    rw [World.cell?_setCell_other _ _ _ _ (by simp)]
    exact k0
  have k1' : (w3.setCell ⟨NB, 2, none⟩ (.slice a3 R.length c3)).cell? ⟨NB, 1, none⟩ = some (.bool true) := by
    rw [World.cell?_setCell_other _ _ _ _ (by simp)]
    exact k1
  have k2' := World.cell?_setCell_same w3 ⟨NB, 2, none⟩ (.slice a3 R.length c3) k2
  have rfz : ∀ o, (w3.setCell ⟨NB, 2, none⟩ (.slice a3 R.length c3)).frozen? ⟨RB, o, none⟩ = false := fun o => by
    have := hRW.out
    have := hg4.size
    have := hx3.2.2.2.1
    rw [gS.frozen o (by omega) hRN, hx3.frozen o (by omega) hRo, hg4.frozen o hRW.out]
    exact rf o
  have hRw4 : RB < (w3.setCell ⟨NB, 2, none⟩ (.slice a3 R.length c3)).heap.size := lt_of_cell r0
  generalize w3.setCell ⟨NB, 2, none⟩ (.slice a3 R.length c3) = w4 at *
  have hwr := fun W (g : Gr w4 W) => write_n (hp4.gr g) (ht4.gr g) (ho4.isE.gr g) hRok.1 hRok.2 hp.1
  have HWR := Lib.hid hwr
  have HF4 := Lib.hid hF4
  have HO4 := Lib.hid ho4
  unfold nodeV at HWR
  clear hwr hF4 hp4 ho4 gS hx3
  have hRP : RB ≠ PB ∧ RB ≠ DB ∧ RB ≠ M := by omega
  have hNP : NB ≠ PB ∧ NB ≠ DB ∧ NB ≠ M := by omega
  have hRf : ∀ (w5 : World) (o : Nat), PgF PB DB M M w4 w5 → w5.frozen? ⟨RB, o, none⟩ = false := fun w5 o f5 => (f5.2.frozen o hRw4 (fun e => e.elim hRP.1 fun e => e.elim hRP.2.1 hRP.2.2)).trans (rfz o)
  have HRF := Lib.hid hRf
  go_region_with (go_at_call 40; refine (HWR.out _ ?_).mono ?_; (with_reducible exact (Gr.refl _).drew); rintro e w5 ⟨rfl, hp5, hf5⟩; (have hf5' := (PgF.of_gr PB DB M (Gr.refl w4).drew).trans hf5); (have r0 := hf5'.keeps hRP.1 hRP.2.1 hRP.2.2 r0); (have r1 := hf5'.keeps hRP.1 hRP.2.1 hRP.2.2 r1); (have r2 := hf5'.keeps hRP.1 hRP.2.1 hRP.2.2 r2); (have x0 := HRF.out _ 0 hf5'); (have x1 := HRF.out _ 1 hf5'); (have x2 := HRF.out _ 2 hf5'); (have q0 := hf5'.keeps hNP.1 hNP.2.1 hNP.2.2 k0'); (have q1 := hf5'.keeps hNP.1 hNP.2.1 hNP.2.2 k1'); (have q2 := hf5'.keeps hNP.1 hNP.2.1 hNP.2.2 k2'))
  all_goals
    have y := Lib.hid (three_set (v0 := .int .i64 (p : Int)) (v1 := .bool true) (v2 := .slice a3 R.length c3) r0 r1 r2)
    have tn := Lib.hid (tell_node (RB := RB) (Nat.le_of_eq HRB.out) (HF4.out.trans hf5') hp5 (HO4.out.keepX hf5'.2 (fun b hb e => by have := hob2 b (by rw [← hob]; exact hb); omega)) hoR hlw (.int .i64 (p : Int)) (.bool true) (.slice a3 R.length c3))
    go_wp2_with fail
    obtain ⟨y0, y1, y2⟩ := y.out
    have tn1 := tn.out
    generalize (((w5.setCell ⟨RB, 0, none⟩ (.int .i64 (p : Int))).setCell ⟨RB, 1, none⟩ (.bool true)).setCell ⟨RB, 2, none⟩ (.slice a3 R.length c3)) = w9 at *
    refine bodyPost_ret (v := .tuple #[.agg #[.int .i64 (p : Int), .bool true, .slice a3 R.length c3], .nilIface]) (by simp [results, Try.results42, go_sem, y0, y1, y2]) rfl ⟨_, rfl, tn1.1, tn1.2.1, tn1.2.2⟩
end
end Go.Proofs.Ytmjkalpjciddbaa

/-
  (*Tree).join where nothing is joined.
-/
namespace Go.Proofs.Ytmjkalpjciddbaa
open Go Go.RowKit

/-- Three blocks: a node, another one, a result. -/
structure Jn (w W : World) (NB RB p : Nat) (s : Value) : Prop where
  g : Gr w W
  nb : NB = w.heap.size
  rb : RB = w.heap.size + 1 + 1
  rlt : RB < W.heap.size
  n0 : W.cell? ⟨NB, 0, none⟩ = some (.int .i64 (p : Int))
  n1 : W.cell? ⟨NB, 1, none⟩ = some (.bool false)
  n2 : W.cell? ⟨NB, 2, none⟩ = some s
  nf : ∀ o, W.frozen? ⟨NB, o, none⟩ = false
  r0 : W.cell? ⟨RB, 0, none⟩ = some (.int .i64 0)
  r1 : W.cell? ⟨RB, 1, none⟩ = some (.bool false)
  r2 : W.cell? ⟨RB, 2, none⟩ = some (.slice none 0 0)
  rf : ∀ o, W.frozen? ⟨RB, o, none⟩ = false
theorem Jn.made (w : World) (p : Nat) (s b0 b1 b2 : Value) (hs : s.oneCell' = true) : Jn w (((w.alloc (.cells #[.int .i64 (p : Int), .bool false, s] 84)).alloc (.cells #[b0, b1, b2] 84)).alloc (.cells #[.int .i64 0, .bool false, .slice none 0 0] 84)) w.heap.size (w.heap.size + 1 + 1) p s := by
  have g1 : Gr w (w.alloc (.cells #[.int .i64 (p : Int), .bool false, s] 84)) := (Gr.refl w).alloc _
  have g2 : Gr (w.alloc (.cells #[.int .i64 (p : Int), .bool false, s] 84)) (((w.alloc (.cells #[.int .i64 (p : Int), .bool false, s] 84)).alloc (.cells #[b0, b1, b2] 84)).alloc (.cells #[.int .i64 0, .bool false, .slice none 0 0] 84)) := ((Gr.refl _).alloc _).alloc _
  have hsz : ((w.alloc (.cells #[.int .i64 (p : Int), .bool false, s] 84)).alloc (.cells #[b0, b1, b2] 84)).heap.size = w.heap.size + 1 + 1 := by simp
  refine ⟨g1.trans g2, rfl, rfl, by simp, g2.keeps (by rw [World.cell?_alloc_new]; rfl), g2.keeps (by rw [World.cell?_alloc_new]; rfl), g2.keeps (by rw [World.cell?_alloc_new]; rfl), fun o => (g2.frozen o (by simp)).trans (by simp), ?_, ?_, ?_, fun o => ?_⟩
  · rw [← hsz, World.cell?_alloc_new]; rfl
  · rw [← hsz, World.cell?_alloc_new]; rfl
  · rw [← hsz, World.cell?_alloc_new]; rfl
  · have hz : ∀ X : World, (X.alloc (.cells #[.int .i64 0, .bool false, .slice none 0 0] 84)).frozen? ⟨X.heap.size, o, none⟩ = false := fun X => by simp
    rw [← hsz]
    exact hz _
section
variable {w : World} {PB DB M : Nat} {c : Ch} {sv : Head} {t : Int} {d : Dk}
set_option maxRecDepth 100000 in
set_option maxHeartbeats 4000000 in
theorem join_stay {TP : Nat} {p : Nat} {nl : List En} {s : Value} {a0 : World} (ho : OwnE a0 w s nl) {k : Nat} {lc : Bool} {pb : Nat} {be : List En} {sb : Value} (hbe : IsE w sb be) (hbok : ∀ e ∈ be, e.ok lc) (hbl : be.length ≤ 600)
    (hc : 341 < bytesE lc be ∨ nl.length < 2) :
    Calls Try.prog 66 #[.pointer (some ⟨TP, 0, none⟩), nodeV p false s, .int .i64 (k : Int), nodeV pb lc sb] w fun e w' => e = .returned (.tuple #[nodeV p false s, .nilIface]) ∧ Gr w w' := by
  have hby := fun W (g : Gr w W) => bytes_n pb lc sb be W (hbe.gr g) hbok (by omega)
  obtain ⟨ao, ca, rfl⟩ := ho.form
  obtain ⟨bo, cb, rfl⟩ := hbe.form
  unfold nodeV at *
  have HBY := Lib.hid hby
  clear hby
  go_enter Try.func66, Try.ntmps66
  go_wp2_with fail
  have hj := Jn.made w p (.slice ao nl.length ca) (.int .i64 (pb : Int)) (.bool lc) (.slice bo be.length cb) rfl
  generalize ((w.alloc (.cells #[.int .i64 (p : Int), .bool false, .slice ao nl.length ca] 84)).alloc (.cells #[.int .i64 (pb : Int), .bool lc, .slice bo be.length cb] 84)).alloc (.cells #[.int .i64 0, .bool false, .slice none 0 0] 84) = W3 at *
  generalize hRB : w.heap.size + 1 + 1 = RB at *
  generalize hNB : w.heap.size = NB at *
  refine (HBY.out _ hj.g).mono ?_
  rintro e w4 ⟨rfl, hg4⟩
  have n0 := hg4.keeps hj.n0
  have n1 := hg4.keeps hj.n1
  have n2 := hg4.keeps hj.n2
  have r0 := hg4.keeps hj.r0
  have r1 := hg4.keeps hj.r1
  have r2 := hg4.keeps hj.r2
  have rf : ∀ o, w4.frozen? ⟨RB, o, none⟩ = false := fun o => (hg4.frozen o hj.rlt).trans (hj.rf o)
  have HJ := Lib.hid hj
  have HG := Lib.hid (hj.g.trans hg4)
  have y := Lib.hid (three_set (v0 := .int .i64 (p : Int)) (v1 := .bool false) (v2 := .slice ao nl.length ca) r0 r1 r2)
  have hR : Gr w (((w4.setCell ⟨RB, 0, none⟩ (.int .i64 (p : Int))).setCell ⟨RB, 1, none⟩ (.bool false)).setCell ⟨RB, 2, none⟩ (.slice ao nl.length ca)) := by
    have hk : w.heap.size ≤ RB := by omega
    exact ((HG.out.setCell hk _).setCell hk _).setCell hk _
  have HR := Lib.hid hR
  clear hj hR
  have hby2 : (bytesE lc be : Int) ≤ 2000000 := by
    have := sumE_le lc be hbok
    unfold bytesE
    omega
  by_cases h1 : 341 < bytesE lc be
  · have h1i : (341 : Int) < (bytesE lc be : Int) := by omega
    go_wp2_with fail
    obtain ⟨y0, y1, y2⟩ := y.out
    have hR := HR.out
    generalize (((w4.setCell ⟨RB, 0, none⟩ (.int .i64 (p : Int))).setCell ⟨RB, 1, none⟩ (.bool false)).setCell ⟨RB, 2, none⟩ (.slice ao nl.length ca)) = w9 at *
    exact bodyPost_ret (v := .tuple #[.agg #[.int .i64 (p : Int), .bool false, .slice ao nl.length ca], .nilIface]) (by simp [results, Try.results66, go_sem, y0, y1, y2]) rfl ⟨rfl, hR⟩
  · have h1i : ¬ (341 : Int) < (bytesE lc be : Int) := by omega
    have h2 : nl.length < 2 := hc.resolve_left h1
    have h2i : (nl.length : Int) < 2 := by omega
    go_wp2_with fail
    obtain ⟨y0, y1, y2⟩ := y.out
    have hR := HR.out
    generalize (((w4.setCell ⟨RB, 0, none⟩ (.int .i64 (p : Int))).setCell ⟨RB, 1, none⟩ (.bool false)).setCell ⟨RB, 2, none⟩ (.slice ao nl.length ca)) = w9 at *
    exact bodyPost_ret (v := .tuple #[.agg #[.int .i64 (p : Int), .bool false, .slice ao nl.length ca], .nilIface]) (by simp [results, Try.results66, go_sem, y0, y1, y2]) rfl ⟨rfl, hR⟩
end
end Go.Proofs.Ytmjkalpjciddbaa
