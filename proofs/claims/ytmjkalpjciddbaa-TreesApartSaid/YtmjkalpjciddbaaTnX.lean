/-
  (*Tree).drop at a node with pages below.
-/
import Derived.Test.YtmjkalpjciddbaaTnW
namespace Go.Proofs.Ytmjkalpjciddbaa
open Go Go.RowKit

theorem pgF_own {T : Nat → Prop} {PB DB M : Nat} {w w1 w2 : World} (h : PgF PB DB M M w w1) (k : GrX (fun b => b = PB ∨ b = DB ∨ b = M ∨ T b) w1 w2) (ht : ∀ j, T j → w.heap.size ≤ j) : PgF PB DB M M w w2 :=
  ⟨.inl rfl, k.1.trans h.2.1, k.2.1.trans h.2.2.1, k.2.2.1.trans h.2.2.2.1, Nat.le_trans h.size k.2.2.2.1, fun j hj hs => (k.block (Nat.lt_of_lt_of_le hj h.size) (fun e => e.elim (fun e => hs (.inl e)) fun e => e.elim (fun e => hs (.inr (.inl e))) fun e => e.elim (fun e => hs (.inr (.inr e))) fun e => by have := ht j e; omega)).trans (h.2.block hj hs)⟩
section
variable {w : World} {PB DB M : Nat} {c : Ch} {sv : Head} {t : Int} {d : Dk}
set_option maxRecDepth 100000 in
set_option maxHeartbeats 4000000 in
theorem drop_node (h : PgT w PB DB M c sv t d) {TP root : Nat} (ht : TreeAt w TP PB root) (hTn : TP ≠ PB ∧ TP ≠ DB ∧ TP ≠ M) {p : Nat} {l : List En} (hp : HasN c d.pg false p l) (hok : ∀ e ∈ l, e.ok false) (hb : bytesE false l ≤ 1024) (key : ByteArray)
    {K : Nat} (hK : downE (keysE l) key = K) (hlt : K < l.length) {c1 C2 : Ch} {pb : Nat} {lc : Bool} {be R : List En}
    (hsub : ∀ W, Gr w W → Calls Try.prog 42 #[.pointer (some ⟨TP, 0, none⟩), .int .i64 (l[K].page : Int), .string key] W fun e w' => ∃ s, e = .returned (.tuple #[nodeV pb lc s, .nilIface]) ∧ OwnE W w' s be ∧ PgT w' PB DB M c1 sv t d ∧ PgF PB DB M M W w')
    (hjoin : be ≠ [] → ∀ (a0 W : World) s sb, PgT W PB DB M c1 sv t d → TreeAt W TP PB root → OwnE a0 W s l → a0.heap.size ≤ W.heap.size → (PB < a0.heap.size ∧ DB < a0.heap.size ∧ M < a0.heap.size ∧ TP < a0.heap.size) → IsE W sb be →
      Calls Try.prog 66 #[.pointer (some ⟨TP, 0, none⟩), nodeV p false s, .int .i64 (K : Int), nodeV pb lc sb] W fun e w' => ∃ s', e = .returned (.tuple #[nodeV p false s', .nilIface]) ∧ OwnE a0 w' s' R ∧ PgT w' PB DB M C2 sv t d ∧ (∀ b, s'.ownBlock = some b → s.ownBlock = some b ∨ W.heap.size ≤ b) ∧ GrX (fun b => b = PB ∨ b = DB ∨ b = M ∨ s.ownBlock = some b) W w')
    (hfree : be = [] → InU c1 pb ∧ C2 = c1.free (pb : Nat) ∧ R = l.eraseIdx K) (hR : (∀ e ∈ R, e.ok false) ∧ bytesE false R ≤ 1024) (hp2 : InU C2 p) (hbl : be.length ≤ 1000) :
    Calls Try.prog 42 #[.pointer (some ⟨TP, 0, none⟩), .int .i64 (p : Int), .string key] w fun e w' => ∃ s, e = .returned (.tuple #[nodeV p false s, .nilIface]) ∧ OwnE w w' s R ∧ PgT w' PB DB M (C2.write (p : Nat) (pageE false R)) sv t d ∧ PgF PB DB M M w w' := by
  have hrd := fun W (g : Gr w W) => read_n (h.gr g).s (ht.gr g) hp hok hb
  have HRD := Lib.hid hrd
  clear hrd
  have HSUB := Lib.hid hsub
  have HJ := Lib.hid hjoin
  have HFREE := Lib.hid hfree
  clear hsub hjoin hfree
  have hg0 : Gr w (w.alloc (.cells #[.int .i64 0, .bool false, .slice none 0 0] 84)) := (Gr.refl w).alloc _
  have r0 : (w.alloc (.cells #[.int .i64 0, .bool false, .slice none 0 0] 84)).cell? ⟨w.heap.size, 0, none⟩ = some (.int .i64 0) := by rw [World.cell?_alloc_new]; rfl
  have r1 : (w.alloc (.cells #[.int .i64 0, .bool false, .slice none 0 0] 84)).cell? ⟨w.heap.size, 1, none⟩ = some (.bool false) := by rw [World.cell?_alloc_new]; rfl
  have r2 : (w.alloc (.cells #[.int .i64 0, .bool false, .slice none 0 0] 84)).cell? ⟨w.heap.size, 2, none⟩ = some (.slice none 0 0) := by rw [World.cell?_alloc_new]; rfl
  have rf : ∀ o, (w.alloc (.cells #[.int .i64 0, .bool false, .slice none 0 0] 84)).frozen? ⟨w.heap.size, o, none⟩ = false := fun o => by simp
  have hl : l.length ≤ 600 := by
    have := sumE_len false l
    unfold bytesE at hb
    omega
  have hkl : (keysE l).length = l.length := by unfold keysE; rw [List.length_map]
  obtain ⟨CW, hCW⟩ : ∃ CW, C2.write (p : Nat) (pageE false R) = CW := ⟨_, rfl⟩
  rw [hCW]
  have HCW := Lib.hid hCW
  clear hCW
  go_enter Try.func42, Try.ntmps42
  go_wp2_with fail
  have hRW : Hid (w.heap.size < (w.alloc (.cells #[.int .i64 0, .bool false, .slice none 0 0] 84)).heap.size) := Lib.hid (by simp)
  have hrd := HRD.out _ hg0
  have HG0 := Lib.hid hg0
  obtain ⟨WB, hWB⟩ : ∃ WB, w.alloc (.cells #[.int .i64 0, .bool false, .slice none 0 0] 84) = WB := ⟨_, rfl⟩
  rw [hWB] at hrd r0 r1 r2 rf HG0 hRW ⊢
  clear hWB hg0
  obtain ⟨RB, hRB⟩ : ∃ RB, w.heap.size = RB := ⟨_, rfl⟩
  have HRB := Lib.hid hRB
  rw [hRB] at r0 r1 r2 rf hRW ⊢
  refine hrd.mono ?_
  rintro e w1 ⟨s', rfl, ho1, hg1⟩
  obtain ⟨ao, ca, rfl⟩ := ho1.form
  have hfn := fun W (g : Gr w1 W) => find_n p false l (.slice ao l.length ca) key W (ho1.isE.gr g) (by omega)
  simp only [Bool.false_eq_true, if_false] at hfn
  have hga : Gr w1 (w1.alloc (.cells #[.int .i64 (p : Int), .bool false, .slice ao l.length ca] 84)) := (Gr.refl w1).alloc _
  unfold nodeV at *
  have HFN := Lib.hid hfn
  have hg2 := hg1.trans hga
  have r0 := hg2.keeps r0
  have r1 := hg2.keeps r1
  have r2 := hg2.keeps r2
  have k0 : (w1.alloc (.cells #[.int .i64 (p : Int), .bool false, .slice ao l.length ca] 84)).cell? ⟨w1.heap.size, 0, none⟩ = some (.int .i64 (p : Int)) := by rw [World.cell?_alloc_new]; rfl
  have k1 : (w1.alloc (.cells #[.int .i64 (p : Int), .bool false, .slice ao l.length ca] 84)).cell? ⟨w1.heap.size, 1, none⟩ = some (.bool false) := by rw [World.cell?_alloc_new]; rfl
  have k2 : (w1.alloc (.cells #[.int .i64 (p : Int), .bool false, .slice ao l.length ca] 84)).cell? ⟨w1.heap.size, 2, none⟩ = some (.slice ao l.length ca) := by rw [World.cell?_alloc_new]; rfl
  have kf : ∀ o, (w1.alloc (.cells #[.int .i64 (p : Int), .bool false, .slice ao l.length ca] 84)).frozen? ⟨w1.heap.size, o, none⟩ = false := fun o => by simp
  clear hrd hfn
  go_wp2_with fail
  obtain ⟨NB, hNB⟩ : ∃ NB, w1.heap.size = NB := ⟨_, rfl⟩
  rw [hNB] at k0 k1 k2 kf ⊢
  rw [hK] at HFN
  generalize hitE (keysE l) key = hit at *
  rcases ho1.at' with ⟨_, e2⟩ | ⟨B, cap, e3, h2, h3, h4, h5, h6⟩
  · rw [e2] at hlt
    exact absurd hlt (by simp)
  obtain ⟨rfl, rfl⟩ : ao = some ⟨B, 0, none⟩ ∧ ca = cap := by
    injection e3 with e1 e2 e3
    exact ⟨e1, e3⟩
  refine (HFN.out _ hga).mono ?_
  rintro e w2 ⟨rfl, hg3⟩
  have r0 := hg3.keeps r0
  have r1 := hg3.keeps r1
  have r2 := hg3.keeps r2
  have k0 := hg3.keeps k0
  have k1 := hg3.keeps k1
  have k2 := hg3.keeps k2
  have ho2 := ho1.gr (hga.trans hg3)
  have hg4 := hg2.trans hg3
  have hKl : (K : Int) < (l.length : Int) := by omega
  obtain ⟨_, _, b2⟩ := (h5.gr (hga.trans hg3)) K hlt
  rw [Nat.zero_add] at b2
  have hgw := HG0.out.trans hg4
  have hsub := HSUB.out _ hgw
  generalize (l[K].page : Int) = pgi at *
  have HSB := Lib.hid hsub
  have HRK := Lib.hid hK
  clear hsub hK
  have hNB2 : NB < w2.heap.size := lt_of_cell k0
  have hRB2 : RB < w2.heap.size := lt_of_cell r0
  have hlw := h.lt
  have htl := lt_of_cell ht.p
  have hNw : WB.heap.size ≤ NB := by
    rw [← hNB]
    exact hg1.size
  have hWw : RB < WB.heap.size := hRW.out
  have hwW := HG0.out.size
  rw [HRB.out] at hwW
  have hwr := HRB.out
  have hNP : NB ≠ PB ∧ NB ≠ DB ∧ NB ≠ M ∧ NB ≠ TP ∧ NB ≠ RB := by omega
  have hRP : RB ≠ PB ∧ RB ≠ DB ∧ RB ≠ M ∧ RB ≠ TP := by omega
  have kfz : ∀ o, w2.frozen? ⟨NB, o, none⟩ = false := fun o => (hg3.frozen o (by rw [← hNB]; simp)).trans (kf o)
  have rfz : ∀ o, w2.frozen? ⟨RB, o, none⟩ = false := fun o => (hg4.frozen o hRW.out).trans (rf o)
  have HGW := Lib.hid hgw
  have HO2 := Lib.hid ho2
  clear hgw ho2 hg4 hg3 hg2 hga hg1 kf rf hwr hwW
  go_wp2_with fail
  refine HSB.out.mono ?_
  rintro e w3 ⟨s3, rfl, ho3, hp3, hf3⟩
  obtain ⟨a3, c3, rfl⟩ := ho3.form
  unfold nodeV at *
  replace r0 := hf3.keeps hRP.1 hRP.2.1 hRP.2.2.1 r0
  replace r1 := hf3.keeps hRP.1 hRP.2.1 hRP.2.2.1 r1
  replace r2 := hf3.keeps hRP.1 hRP.2.1 hRP.2.2.1 r2
  replace k0 := hf3.keeps hNP.1 hNP.2.1 hNP.2.2.1 k0
  replace k1 := hf3.keeps hNP.1 hNP.2.1 hNP.2.2.1 k1
  replace k2 := hf3.keeps hNP.1 hNP.2.1 hNP.2.2.1 k2
  replace kfz : ∀ o, w3.frozen? ⟨NB, o, none⟩ = false := fun o => (hf3.2.frozen o hNB2 (fun e => e.elim hNP.1 fun e => e.elim hNP.2.1 hNP.2.2.1)).trans (kfz o)
  replace rfz : ∀ o, w3.frozen? ⟨RB, o, none⟩ = false := fun o => (hf3.2.frozen o hRB2 (fun e => e.elim hRP.1 fun e => e.elim hRP.2.1 hRP.2.2.1)).trans (rfz o)
  have gZ : Gr w3 (w3.alloc (.cells #[.int .i64 (pb : Int), .bool lc, .slice a3 be.length c3] 84)) := (Gr.refl w3).alloc _
  have z0 : (w3.alloc (.cells #[.int .i64 (pb : Int), .bool lc, .slice a3 be.length c3] 84)).cell? ⟨w3.heap.size, 0, none⟩ = some (.int .i64 (pb : Int)) := by rw [World.cell?_alloc_new]; rfl
  have z1 : (w3.alloc (.cells #[.int .i64 (pb : Int), .bool lc, .slice a3 be.length c3] 84)).cell? ⟨w3.heap.size, 1, none⟩ = some (.bool lc) := by rw [World.cell?_alloc_new]; rfl
  have z2 : (w3.alloc (.cells #[.int .i64 (pb : Int), .bool lc, .slice a3 be.length c3] 84)).cell? ⟨w3.heap.size, 2, none⟩ = some (.slice a3 be.length c3) := by rw [World.cell?_alloc_new]; rfl
  have hNB3 : NB < w3.heap.size := lt_of_cell k0
  have hRB3 : RB < w3.heap.size := lt_of_cell r0
  replace r0 := gZ.keeps r0
  replace r1 := gZ.keeps r1
  replace r2 := gZ.keeps r2
  replace k0 := gZ.keeps k0
  replace k1 := gZ.keeps k1
  replace k2 := gZ.keeps k2
  replace kfz : ∀ o, (w3.alloc (.cells #[.int .i64 (pb : Int), .bool lc, .slice a3 be.length c3] 84)).frozen? ⟨NB, o, none⟩ = false := fun o => (gZ.frozen o hNB3).trans (kfz o)
  replace rfz : ∀ o, (w3.alloc (.cells #[.int .i64 (pb : Int), .bool lc, .slice a3 be.length c3] 84)).frozen? ⟨RB, o, none⟩ = false := fun o => (gZ.frozen o hRB3).trans (rfz o)
  have HP4 := Lib.hid (hp3.gr gZ)
  have HF4 := Lib.hid (((PgF.of_gr PB DB M HGW.out).trans hf3).trans (PgF.of_gr PB DB M gZ))
  have ht4 := ((ht.gr HGW.out).pg hf3 hTn.1 hTn.2.1 hTn.2.2).gr gZ
  have hbig : PB < WB.heap.size ∧ DB < WB.heap.size ∧ M < WB.heap.size ∧ TP < WB.heap.size := by
    have := HRB.out
    omega
  have hB3 : ∀ b, (Value.slice (some ⟨B, 0, none⟩) l.length ca).ownBlock = some b → WB.heap.size ≤ b := fun b hb => ownBlock_ge HO2.out b hb
  have HO4 := Lib.hid ((HO2.out.keepX hf3.2 (fun b hb e => by have := hB3 b hb; omega)).gr gZ)
  have HBE := Lib.hid (ho3.isE.gr gZ)
  have HB3 := Lib.hid hB3
  have hZN : NB ≠ w3.heap.size ∧ RB ≠ w3.heap.size ∧ PB ≠ w3.heap.size ∧ DB ≠ w3.heap.size ∧ M ≠ w3.heap.size := by
    have := hf3.size
    have := HGW.out.size
    have := hf3.2.2.2.2.1
    omega
  have tp := ht4.p
  have HT4 := Lib.hid ht4
  have hNo : ¬ ((Value.slice (some ⟨B, 0, none⟩) l.length ca).ownBlock = some NB) := fun e => by
    have := ownBlock_lt ho1 _ e
    omega
  have hRo : ¬ ((Value.slice (some ⟨B, 0, none⟩) l.length ca).ownBlock = some RB) := fun e => by
    have := HB3.out _ e
    omega
  have hwW4 : WB.heap.size ≤ (w3.alloc (.cells #[.int .i64 (pb : Int), .bool lc, .slice a3 be.length c3] 84)).heap.size := Nat.le_trans (Nat.le_of_lt (Nat.lt_of_le_of_lt hNw hNB3)) gZ.size
  clear ht4 hB3 hp3 hf3 ho3 gZ b2
  go_upto_if 66 with (fail)
  obtain ⟨ZB, hZB⟩ : ∃ ZB, w3.heap.size = ZB := ⟨_, rfl⟩
  rw [hZB] at z0 z1 z2 hZN ⊢
  clear hZB
  generalize w3.alloc (.cells #[.int .i64 (pb : Int), .bool lc, .slice a3 be.length c3] 84) = W4 at *
  go_cut [9] (fun s9 wx => s9 = .nilIface ∧ ∃ aR cR, (wx.cell? ⟨NB, 0, none⟩ = some (.int .i64 (p : Int)) ∧ wx.cell? ⟨NB, 1, none⟩ = some (.bool false) ∧ wx.cell? ⟨NB, 2, none⟩ = some (.slice aR R.length cR)) ∧ (wx.cell? ⟨RB, 0, none⟩ = some (.int .i64 0) ∧ wx.cell? ⟨RB, 1, none⟩ = some (.bool false) ∧ wx.cell? ⟨RB, 2, none⟩ = some (.slice none 0 0) ∧ ∀ o, wx.frozen? ⟨RB, o, none⟩ = false) ∧ (OwnE WB wx (.slice aR R.length cR) R ∧ ∀ b, (Value.slice aR R.length cR).ownBlock = some b → ¬ b = NB ∧ ¬ b = RB) ∧ PgT wx PB DB M C2 sv t d ∧ TreeAt wx TP PB root ∧ PgF PB DB M M w wx)
  case first =>
    by_cases hbe : be = []
    · have hbz : (be.length : Int) = 0 := by rw [hbe]; rfl
      obtain ⟨hu, hC, hRR⟩ := HFREE.out hbe
      have hfr := fun W (g : Gr W4 W) => free_t (HP4.out.gr g) hu
      rw [← hC] at hfr
      have HFR := Lib.hid hfr
      have HRR := Lib.hid hRR
      have hwr : IntKind.i64.wrap ((K : Int) + 1) = (K : Int) + 1 := IntWalk.i64_in _ (by omega)
      clear hfr hRR hC
      go_wp2_with fail
      go_region_with (go_at_call 31; refine (HFR.out _ ?_).mono ?_; (with_reducible exact (Gr.refl _).drew); rintro e w5 ⟨rfl, hp5, hf5⟩)
      all_goals
        have hf5' := (PgF.of_gr PB DB M (Gr.refl W4).drew).trans hf5
        have hN4 := lt_of_cell k0
        have hR4 := lt_of_cell r0
        have q0 := hf5'.keeps hNP.1 hNP.2.1 hNP.2.2.1 k0
        have q1 := hf5'.keeps hNP.1 hNP.2.1 hNP.2.2.1 k1
        have q2 := hf5'.keeps hNP.1 hNP.2.1 hNP.2.2.1 k2
        have p0 := hf5'.keeps hRP.1 hRP.2.1 hRP.2.2.1 r0
        have p1 := hf5'.keeps hRP.1 hRP.2.1 hRP.2.2.1 r1
        have p2 := hf5'.keeps hRP.1 hRP.2.1 hRP.2.2.1 r2
        have qz : w5.frozen? ⟨NB, 2, none⟩ = false := (hf5'.2.frozen 2 hN4 (fun e => e.elim hNP.1 fun e => e.elim hNP.2.1 hNP.2.2.1)).trans (kfz 2)
        have pz : ∀ o, w5.frozen? ⟨RB, o, none⟩ = false := fun o => (hf5'.2.frozen o hR4 (fun e => e.elim hRP.1 fun e => e.elim hRP.2.1 hRP.2.2.1)).trans (rfz o)
        have PZ := Lib.hid pz
        have ho5 := HO4.out.keepX hf5'.2 (fun b hb e => by have := HB3.out b hb; omega)
        have hdl := delete_o WB w5 _ l K ho5 hlt (Nat.le_trans hwW4 hf5'.size) (by omega)
        rw [← HRR.out] at hdl
        have HDL := Lib.hid hdl
        have HP5 := Lib.hid hp5
        have HF5 := Lib.hid hf5'
        have hN5 := lt_of_cell q0
        have hR5 := lt_of_cell p0
        clear hdl hp5 hf5 hf5' ho5 pz
        go_wp2_with (refine HDL.out.mono ?_; rintro e w6 ⟨v6, rfl, ho6, hx6, hob6⟩; obtain ⟨a6, c6, rfl⟩ := ho6.form; (have q0 := hx6.keeps hNo q0); (have q1 := hx6.keeps hNo q1); (have q2 := hx6.keeps hNo q2); (have qz := (hx6.frozen 2 hN5 hNo).trans qz))
        have gS : GrX (fun b => b = NB) w6 (w6.setCell ⟨NB, 2, none⟩ (.slice a6 R.length c6)) := GrX.setCell (S := fun b => b = NB) (p := ⟨NB, 2, none⟩) w6 _ rfl
        have hR6 : RB < w6.heap.size := Nat.lt_of_lt_of_le hR5 hx6.2.2.2.1
        go_meet
        refine ⟨rfl, a6, c6, ⟨?_, ?_, World.cell?_setCell_same _ _ _ q2⟩, ⟨gS.keeps hNP.2.2.2.2.symm (hx6.keeps hRo p0), gS.keeps hNP.2.2.2.2.symm (hx6.keeps hRo p1), gS.keeps hNP.2.2.2.2.symm (hx6.keeps hRo p2), fun o => ?_⟩, ⟨ho6.keepX gS ?_, ?_⟩, ?_, ?_, ?_⟩
        · rw [World.cell?_setCell_other _ _ _ _ (by simp)]
          exact q0
        · rw [World.cell?_setCell_other _ _ _ _ (by simp)]
          exact q1
        · rw [gS.frozen o hR6 hNP.2.2.2.2.symm, hx6.frozen o hR5 hRo]
          exact PZ.out o
        · exact fun b hb e => hNo (by rw [← hob6, hb, e])
        · exact fun b hb => ⟨fun e => hNo (by rw [← hob6, hb, e]), fun e => hRo (by rw [← hob6, hb, e])⟩
        · exact (HP5.out.keepX hx6 (fun e => by have := HB3.out _ e; omega) (fun e => by have := HB3.out _ e; omega) (fun e => by have := HB3.out _ e; omega)).keepX gS (fun e => hNP.1 e.symm) (fun e => hNP.2.1 e.symm) (fun e => hNP.2.2.1 e.symm)
        · exact ((HT4.out.pg HF5.out hTn.1 hTn.2.1 hTn.2.2).keepX hx6 (fun e => by have := HB3.out _ e; omega)).keepX gS (fun e => hNP.2.2.2.1 e.symm)
        · exact ((HF4.out.trans HF5.out).own hx6 (fun j e => by have := HB3.out _ e; have := HG0.out.size; omega)).own gS (fun j e => by have := HRB.out; omega)
    · have hbz : ¬ (be.length : Int) = 0 := fun e => hbe (List.eq_nil_of_length_eq_zero (by omega))
      have hj := HJ.out hbe WB W4 _ _ HP4.out HT4.out HO4.out hwW4 hbig HBE.out
      unfold nodeV at hj
      have HJN := Lib.hid hj
      clear hj
      go_wp2_with fail
      refine HJN.out.mono ?_
      rintro e w5 ⟨s5, rfl, ho5, hp5, hs5, hx5⟩
      obtain ⟨a5, c5, rfl⟩ := ho5.form
      have hN4 := lt_of_cell k0
      have hR4 := lt_of_cell r0
      have hxN : ¬ (NB = PB ∨ NB = DB ∨ NB = M ∨ (Value.slice (some ⟨B, 0, none⟩) l.length ca).ownBlock = some NB) := fun e => e.elim hNP.1 fun e => e.elim hNP.2.1 fun e => e.elim hNP.2.2.1 hNo
      have hxR : ¬ (RB = PB ∨ RB = DB ∨ RB = M ∨ (Value.slice (some ⟨B, 0, none⟩) l.length ca).ownBlock = some RB) := fun e => e.elim hRP.1 fun e => e.elim hRP.2.1 fun e => e.elim hRP.2.2.1 hRo
      have q0 := hx5.keeps hxN k0
      have q1 := hx5.keeps hxN k1
      have q2 := hx5.keeps hxN k2
      have qz : ∀ o, w5.frozen? ⟨NB, o, none⟩ = false := fun o => (hx5.frozen o hN4 hxN).trans (kfz o)
      have qz0 := qz 0
      have qz1 := qz 1
      have qz2 := qz 2
      have PZ : Hid (∀ o, w5.frozen? ⟨RB, o, none⟩ = false) := Lib.hid fun o => (hx5.frozen o hR4 hxR).trans (rfz o)
      have PR := Lib.hid (And.intro (hx5.keeps hxR r0) (And.intro (hx5.keeps hxR r1) (hx5.keeps hxR r2)))
      have y := Lib.hid (three_set (v0 := .int .i64 (p : Int)) (v1 := .bool false) (v2 := .slice a5 R.length c5) q0 q1 q2)
      have g3 := Lib.hid (three_gr w5 NB (.int .i64 (p : Int)) (.bool false) (.slice a5 R.length c5))
      have HX5 := Lib.hid hx5
      have HO5 := Lib.hid ho5
      have HP5 := Lib.hid hp5
      have HS5 := Lib.hid hs5
      clear hx5 ho5 hp5 hs5 hxN hxR qz
      go_wp2_with fail
      obtain ⟨y0, y1, y2⟩ := y.out
      have g3 := g3.out
      have hRN : ¬ RB = NB := fun e => hNP.2.2.2.2 e.symm
      have hR5 := lt_of_cell PR.out.1
      have hoN : ∀ b, (Value.slice a5 R.length c5).ownBlock = some b → ¬ b = NB ∧ ¬ b = RB := fun b hb => by
        rcases HS5.out b hb with e | e
        · exact ⟨fun e1 => hNo (by rw [e, e1]), fun e1 => hRo (by rw [e, e1])⟩
        · omega
      generalize ((w5.setCell ⟨NB, 0, none⟩ (.int .i64 (p : Int))).setCell ⟨NB, 1, none⟩ (.bool false)).setCell ⟨NB, 2, none⟩ (.slice a5 R.length c5) = w9 at *
      go_meet
      refine ⟨rfl, a5, c5, ⟨y0, y1, y2⟩, ⟨g3.keeps hRN PR.out.1, g3.keeps hRN PR.out.2.1, g3.keeps hRN PR.out.2.2, fun o => (g3.frozen o hR5 hRN).trans (PZ.out o)⟩, ⟨HO5.out.keepX g3 (fun b hb => (hoN b hb).1), hoN⟩, ?_, ?_, ?_⟩
      · exact HP5.out.keepX g3 (fun e => hNP.1 e.symm) (fun e => hNP.2.1 e.symm) (fun e => hNP.2.2.1 e.symm)
      · exact (HT4.out.keepX HX5.out (fun e => e.elim hTn.1 fun e => e.elim hTn.2.1 fun e => e.elim hTn.2.2 fun e => by have := HB3.out _ e; omega)).keepX g3 (fun e => hNP.2.2.2.1 e.symm)
      · exact (pgF_own HF4.out HX5.out (fun j e => by have := HB3.out _ e; have := HG0.out.size; omega)).own g3 (fun j e => by have := HRB.out; omega)
  case rest =>
    obtain ⟨rfl, aR, cR, ⟨q0, q1, q2⟩, ⟨p0, p1, p2, pz⟩, ⟨ho6, hoN⟩, hp6, ht6, hF6⟩ := hcut
    have hRw4 : RB < wc.heap.size := lt_of_cell p0
    have hwr := fun W (g : Gr wc W) => write_n (hp6.gr g) (ht6.gr g) (ho6.isE.gr g) hR.1 hR.2 hp2
    simp only [HCW.out] at hwr
    have tp6 := ht6.p
    have HWR := Lib.hid hwr
    have HF6 := Lib.hid hF6
    have HO6 := Lib.hid (ho6.back HG0.out)
    have HB6 : Hid (∀ b, (Value.slice aR R.length cR).ownBlock = some b → WB.heap.size ≤ b) := Lib.hid fun b hb => ownBlock_ge ho6 b hb
    have HON := Lib.hid hoN
    unfold nodeV at HWR
    have hRf : ∀ (w5 : World) (o : Nat), PgF PB DB M M wc w5 → w5.frozen? ⟨RB, o, none⟩ = false := fun w5 o f5 => (f5.2.frozen o hRw4 (fun e => e.elim hRP.1 fun e => e.elim hRP.2.1 hRP.2.2.1)).trans (pz o)
    have HRF := Lib.hid hRf
    clear hwr hF6 hp6 ho6 ht6 hRf hoN r0 r1 r2 k0 k1 k2 kfz rfz z0 z1 z2 tp pz
    go_wp2_with fail
    go_region_with (go_at_call 40; refine (HWR.out _ ?_).mono ?_; (with_reducible exact (Gr.refl _).drew); rintro e w5 ⟨rfl, hp5, hf5⟩; (have hf5' := (PgF.of_gr PB DB M (Gr.refl wc).drew).trans hf5); (have p0 := hf5'.keeps hRP.1 hRP.2.1 hRP.2.2.1 p0); (have p1 := hf5'.keeps hRP.1 hRP.2.1 hRP.2.2.1 p1); (have p2 := hf5'.keeps hRP.1 hRP.2.1 hRP.2.2.1 p2); (have x0 := HRF.out _ 0 hf5'); (have x1 := HRF.out _ 1 hf5'); (have x2 := HRF.out _ 2 hf5'); (have q0 := hf5'.keeps hNP.1 hNP.2.1 hNP.2.2.1 q0); (have q1 := hf5'.keeps hNP.1 hNP.2.1 hNP.2.2.1 q1); (have q2 := hf5'.keeps hNP.1 hNP.2.1 hNP.2.2.1 q2))
    all_goals
      have y := Lib.hid (three_set (v0 := .int .i64 (p : Int)) (v1 := .bool false) (v2 := .slice aR R.length cR) p0 p1 p2)
      have tn := Lib.hid (tell_node (RB := RB) (Nat.le_of_eq HRB.out) (HF6.out.trans hf5') hp5 (HO6.out.keepX hf5'.2 (fun b hb e => by have := HB6.out b hb; omega)) (fun b hb => (HON.out b hb).2) hlw (.int .i64 (p : Int)) (.bool false) (.slice aR R.length cR))
      go_wp2_with fail
      obtain ⟨y0, y1, y2⟩ := y.out
      have tn1 := tn.out
      generalize (((w5.setCell ⟨RB, 0, none⟩ (.int .i64 (p : Int))).setCell ⟨RB, 1, none⟩ (.bool false)).setCell ⟨RB, 2, none⟩ (.slice aR R.length cR)) = w9 at *
      refine bodyPost_ret (v := .tuple #[.agg #[.int .i64 (p : Int), .bool false, .slice aR R.length cR], .nilIface]) (by simp [results, Try.results42, go_sem, y0, y1, y2]) rfl ⟨_, rfl, tn1.1, tn1.2.1, tn1.2.2⟩
end
end Go.Proofs.Ytmjkalpjciddbaa
