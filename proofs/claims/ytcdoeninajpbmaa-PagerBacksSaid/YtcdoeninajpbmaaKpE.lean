/-
  The walk of PagerBacks.
-/
import Derived.Test.YtcdoeninajpbmaaKpD
namespace Go.Proofs.Ytcdoeninajpbmaa
open Go Go.RowKit

/-- A noted state is stored, is loaded. -/
theorem wpList_store_mark {ops : Array Oper} {rest : List Oper} {op : Oper} {a : Act} {w : World} {Q : Exit → Act → World → Prop} (hgd : op.guard = none) (x y : Operand) (ho : op.op = .store 42 x y) (b : Nat) (h : Head) (m : Option Nat) (t : Int) (A : Array Value)
    (hx : a.eval x = .pointer (some ⟨b, 0, none⟩)) (hy : a.eval y = .agg A) (hA : A = (markCells h m t).toArray) (hth : w.there b 0 2018)
    (hk : ∀ w', w'.rangeAt b 0 (markCells h m t) → GrX (fun k => k = b) w w' → wpList Try.prog ops Q rest (a.put op.dst undef) w') : wpList Try.prog ops Q (op :: rest) a w := by
  subst hA
  refine wpList_store_mid hgd 42 x y ho b 0 _ hx hy (by rw [markCells_size]; exact hth) (by rw [info_mark, markCells_size]) (all_oneCell_toArray (markCells_one _ _ _)) ?_
  exact hk _ (World.rangeAt_setCells_same w b 0 _ (by rw [markCells_len]; exact hth)) (setCells_block b _ 0 w)
theorem wpList_load_mark {ops : Array Oper} {rest : List Oper} {op : Oper} {a : Act} {w : World} {Q : Exit → Act → World → Prop} (hgd : op.guard = none) (x : Operand) (ho : op.op = .load 42 x) (b : Nat) (h : Head) (m : Option Nat) (t : Int)
    (hx : a.eval x = .pointer (some ⟨b, 0, none⟩)) (hr : w.rangeAt b 0 (markCells h m t)) (hk : ∀ A : Array Value, Hid (A = (markCells h m t).toArray) → wpList Try.prog ops Q rest (a.put op.dst (.agg A)) w) : wpList Try.prog ops Q (op :: rest) a w :=
  wpList_load_mid hgd 42 x ho b 0 hx _ _ hr Try.underlying42 rfl (by rw [info_mark, markCells_len]) (hk _ (Lib.hid rfl))
theorem range_kept {S : Nat → Prop} {w w' : World} {b : Nat} {cs : List Value} (h : w.rangeAt b 0 cs) (g : GrX S w w') (hs : ¬ S b) : w'.rangeAt b 0 cs := fun j v hv => g.keeps hs (h j v hv)
theorem range_pg {PB DB M M' : Nat} {w w' : World} {b : Nat} {cs : List Value} (h : w.rangeAt b 0 cs) (g : PgF PB DB M M' w w') (h1 : b ≠ PB) (h2 : b ≠ DB) (h3 : b ≠ M) : w'.rangeAt b 0 cs := range_kept h g.2 fun e => e.elim h1 fun e => e.elim h2 h3
theorem map_pg {PB DB M M' : Nat} {w w' : World} {b n : Nat} {F : Int → Option ByteArray} (h : MapAt w b n F) (g : PgF PB DB M M' w w') (h1 : b ≠ PB) (h2 : b ≠ DB) (h3 : b ≠ M) : MapAt w' b n F := h.keepX g.2 fun e => e.elim h1 fun e => e.elim h2 h3
theorem ActsV.gr {w w' : World} {v : Value} {xs : List KAct} (h : ActsV w v xs) (g : Gr w w') : ActsV w' v xs := by
  rcases h with h | ⟨b, off, c, rfl, hb, hc⟩
  · exact .inl h
  · exact .inr ⟨b, off, c, rfl, Nat.lt_of_lt_of_le hb g.size, fun i hi => ⟨g.keeps (hc i hi).1, g.keeps (hc i hi).2.1, g.keeps (hc i hi).2.2⟩⟩
theorem ActsV.off {w : World} {v : Value} {xs : List KAct} (h : ActsV w v xs) {B : Nat} (hB : w.heap.size ≤ B) : OffV v B := fun b off n c e e2 => by
  rcases h with ⟨e', _⟩ | ⟨b', off', c', e', hb, _⟩
  · rw [e'] at e
    cases e
  · rw [e'] at e
    injection e with e1
    injection e1 with e1
    injection e1 with e1
    omega
/-- A noted state that is kept. -/
structure KeepM (w : World) (PB DB M MB MK nK : Nat) (cs : List Value) (F : Int → Option ByteArray) : Prop where
  rng : w.rangeAt MB 0 cs
  map : MapAt w MK nK F
  lt : MB < w.heap.size
  b1 : MB ≠ PB
  b2 : MB ≠ DB
  b3 : MB ≠ M
  k1 : MK ≠ PB
  k2 : MK ≠ DB
  k3 : MK ≠ M
theorem KeepM.step {w w' : World} {PB DB M M' MB MK nK : Nat} {cs : List Value} {F : Int → Option ByteArray} (h : KeepM w PB DB M MB MK nK cs F) (g : PgF PB DB M M' w w') : KeepM w' PB DB M' MB MK nK cs F :=
  ⟨range_pg h.rng g h.b1 h.b2 h.b3, map_pg h.map g h.k1 h.k2 h.k3, Nat.lt_of_lt_of_le h.lt g.size, h.b1, h.b2, g.off h.lt h.b3, h.k1, h.k2, g.off h.map.lt h.k3⟩
theorem PgS.far {w w' : World} {PB DB M n b : Nat} {c : Ch} {sv : Head} {t : Int} {d : Dk} (h : PgS w PB DB M n c sv t d) (g : GrX (fun k => k = b) w w') (h1 : PB ≠ b) (h2 : DB ≠ b) (h3 : M ≠ b) : PgS w' PB DB M n c sv t d := by
  obtain ⟨⟨n', h4, h5⟩, h6, h7, h8⟩ := h
  exact ⟨⟨n', h4, h5.keepX g h1 h3⟩, h6.keepX g h2, h7, h8⟩
set_option maxRecDepth 100000 in
set_option maxHeartbeats 4000000 in
theorem backs_long (a b c : List KAct) (va vb vc : Value) (w : World) (ha : ActsV w va a) (hb : ActsV w vb b) (hc : ActsV w vc c) (h : 30 < a.length ∨ 30 < b.length ∨ 30 < c.length) :
    Calls Try.prog 3 #[va, vb, vc] w (Ret w (.bool true)) := by
  obtain ⟨aa, ca, rfl⟩ := ha.form
  obtain ⟨ab, cb, rfl⟩ := hb.form
  obtain ⟨ac, cc, rfl⟩ := hc.form
  clear ha hb hc
  have h1 : decide ((30 : Int) < a.length) = true ∨ decide ((30 : Int) < a.length) = false := by cases decide ((30 : Int) < a.length) <;> simp
  have h2 : decide ((30 : Int) < b.length) = true ∨ decide ((30 : Int) < b.length) = false := by cases decide ((30 : Int) < b.length) <;> simp
  have h3 : decide ((30 : Int) < c.length) = true ∨ decide ((30 : Int) < c.length) = false := by cases decide ((30 : Int) < c.length) <;> simp
  rcases h1 with h1 | h1 <;> rcases h2 with h2 | h2 <;> rcases h3 with h3 | h3
  all_goals first
    | (exfalso; simp only [decide_eq_false_iff_not] at h1 h2 h3; omega)
    | (clear h
       go_enter Try.func3, Try.ntmps3
       go_wp2_with fail
       go_ret
       exact Ret.mk rfl (Gr.refl _))
set_option maxRecDepth 100000 in
set_option maxHeartbeats 4000000 in
theorem backs_walk (a b c : List KAct) (va vb vc : Value) (w : World) (ha : ActsV w va a) (hb : ActsV w vb b) (hc : ActsV w vc c) (ra : ∀ x ∈ a, x.ok) (rb : ∀ x ∈ b, x.ok) (rc : ∀ x ∈ c, x.ok) (la : a.length ≤ 30) (lb : b.length ≤ 30) (lc : c.length ≤ 30) :
    Calls Try.prog 3 #[va, vb, vc] w (Ret w (.bool true)) := by
  obtain ⟨aa, ka, rfl⟩ := ha.form
  obtain ⟨ab, kb, rfl⟩ := hb.form
  obtain ⟨ac, kc, rfl⟩ := hc.form
  have XA := Lib.hid ha
  have XB := Lib.hid hb
  have XC := Lib.hid hc
  have RA := Lib.hid ra
  have RB := Lib.hid rb
  have RC := Lib.hid rc
  have d1 : decide ((30 : Int) < a.length) = false := by simp; omega
  have d2 : decide ((30 : Int) < b.length) = false := by simp; omega
  have d3 : decide ((30 : Int) < c.length) = false := by simp; omega
  clear ha hb hc ra rb rc
  go_enter Try.func3, Try.ntmps3
  go_wp2_with fail
  clear d1 d2 d3
  refine (paged_k _).mono ?_
  rintro e w1 ⟨rfl, hg1⟩
  go_wp2_with fail
  have hd := disk_made w1
  have HG1 := Lib.hid (hg1.trans ((Gr.refl w1).alloc (.cells Try.zeroCells32 32)))
  have HD1 := Lib.hid hd
  have HDB0 := hg1.size
  clear hg1 hd
  generalize (Try.zeroCells32) = Z at *
  generalize w1.alloc (.cells Z 32) = w1' at *
  generalize w1.heap.size = DB at *
  refine (open_s DB dk0 headZ _ HD1.out clean0 (by decide)).mono ?_
  rintro e w2 ⟨PB, M2, rfl, hs, hle1, hle2, hgx⟩
  rw [headD_zero] at hs
  have hsz := HG1.out.size
  have HPB : Hid (w.heap.size ≤ PB ∧ w.heap.size ≤ DB) := Lib.hid ⟨by omega, HDB0⟩
  have HB2 : Hid (w.heap.size ≤ M2) := Lib.hid (by omega)
  have HS2 := Lib.hid hs
  have HG2 := Lib.hid (hgx.gr HG1.out (fun k e => by have e2 : k = DB := e; rw [e2]; exact HDB0))
  clear hs hle1 hle2 hgx hsz HDB0
  go_wp2_with fail
  refine (does_k PB DB M2 _ _ _ _ _ _ _ _ HS2.out (XA.out.gr HG2.out) RA.out (XA.out.off HPB.out.1) (XA.out.off HPB.out.2) (XA.out.off HB2.out) (by omega)).mono ?_
  rintro e w3 ⟨rfl, M3, hs, hf⟩
  have HS3 := Lib.hid hs
  have HF3 := Lib.hid hf
  have hgb := hf.gr HG2.out HPB.out.1 HPB.out.2 HB2.out
  have HG3 := Lib.hid hgb.1
  have HB3 := Lib.hid hgb.2
  clear hs hf hgb
  go_wp2_with fail
  have hcf := foldK_fine headZ_fine a (Ch.new_fine headZ_fine)
  generalize a.foldl (stepK headZ) (Ch.new headZ) = cA at *
  have hpw := wrsD_power (d := dk0) rfl (commitE cA.h cA.F)
  have hlen := commitE_len hcf.dirty cA.h
  have hcl := clean0.commit hcf hpw.1
  refine (commit_s HS3.out hcf.dirty clean0.whole (by decide) (by omega) hpw.1).mono ?_
  rintro e w4 ⟨rfl, M4, hs, hf⟩
  have HCL := Lib.hid hcl.1
  have HS4 := Lib.hid hs
  have hgb := hf.gr HG3.out HPB.out.1 HPB.out.2 HB3.out
  have HG4 := Lib.hid hgb.1
  have HB4 := Lib.hid hgb.2
  have HSF : Hid cA.h.fine := Lib.hid hcf.head
  clear hs hf hpw hlen hcl hcf hgb
  generalize (wrsD dk0 (commitE cA.h cA.F)).2 = d1 at *
  generalize cA.h = sv at *
  have HF0 := Lib.hid (Ch.new_fine HSF.out)
  go_wp2_with fail
  refine (all_k PB DB M4 _ _ _ _ _ _ HS4.out HF0.out HCL.out.whole).mono ?_
  rintro e w5 ⟨rfl, hg⟩
  have HS5 := Lib.hid (HS4.out.gr hg)
  have HG5 := Lib.hid (HG4.out.trans hg)
  have HB5 := HB4
  have HF5 := Lib.hid (PgF.of_gr PB DB M4 hg)
  obtain ⟨M5, hM⟩ : ∃ M5, M5 = M4 := ⟨_, rfl⟩
  rw [← hM] at HS5 HB5 HF5
  clear hg hM
  have HOLD : Hid ((⟨(allT (Ch.new sv) d1.pg).toArray⟩ : ByteArray) = ⟨(allT (Ch.new sv) d1.pg).toArray⟩) := Lib.hid rfl
  obtain ⟨O, hO⟩ : ∃ O, (⟨(allT (Ch.new sv) d1.pg).toArray⟩ : ByteArray) = O := ⟨_, rfl⟩
  rw [hO]
  have HO := Lib.hid hO
  clear hO HOLD
  go_wp2_with fail
  refine (does_k PB DB M5 _ _ _ _ _ _ _ _ HS5.out (XB.out.gr HG5.out) RB.out (XB.out.off HPB.out.1) (XB.out.off HPB.out.2) (XB.out.off HB5.out) (by omega)).mono ?_
  rintro e w6 ⟨rfl, M6, hs, hf⟩
  have HS6 := Lib.hid hs
  have HF6 := Lib.hid hf
  have hgb := hf.gr HG5.out HPB.out.1 HPB.out.2 HB5.out
  have HG6 := Lib.hid hgb.1
  have HB6 := Lib.hid hgb.2
  clear hs hf hgb
  go_wp2_with fail
  have HFB := Lib.hid (foldK_fine HSF.out b HF0.out)
  generalize b.foldl (stepK sv) (Ch.new sv) = cB at *
  refine (all_k PB DB M6 _ _ _ _ _ _ HS6.out HFB.out HCL.out.whole).mono ?_
  rintro e w7 ⟨rfl, hg⟩
  have HS7 := Lib.hid (HS6.out.gr hg)
  have HG7 := Lib.hid (HG6.out.trans hg)
  have HB7 := HB6
  have HF7 := Lib.hid (PgF.of_gr PB DB M6 hg)
  obtain ⟨M7, hM⟩ : ∃ M7, M7 = M6 := ⟨_, rfl⟩
  rw [← hM] at HS7 HB7 HF7
  clear hg hM
  obtain ⟨MI, hMI⟩ : ∃ O, (⟨(allT cB d1.pg).toArray⟩ : ByteArray) = O := ⟨_, rfl⟩
  rw [hMI]
  have HMI := Lib.hid hMI
  clear hMI
  go_wp2_with fail
  refine (mark_s HS7.out).mono ?_
  rintro e w8 ⟨MK, nK, rfl, hnK, hmk, hleK, hg⟩
  have HS8 := Lib.hid (HS7.out.gr hg)
  have HG8 := Lib.hid (HG7.out.trans hg)
  have HB8 := HB7
  have HMK := Lib.hid hmk
  have hltK := hmk.lt
  have hlt7 := HS7.out.lt
  obtain ⟨CM, hCM⟩ : ∃ A : Array Value, A = (markCells cB.h (some MK) (0 + 1)).toArray := ⟨_, rfl⟩
  rw [← hCM]
  have HCM := Lib.hid hCM
  have hsz8 := hg.size
  clear hCM hg hmk
  have hga : Gr w8 (w8.alloc (.cells Try.zeroCells42 42)) := (Gr.refl w8).alloc _
  have hth : (w8.alloc (.cells Try.zeroCells42 42)).there w8.heap.size 0 2018 := fun j hj => by
    constructor
    · rw [World.cell?_alloc_new, Array.getElem?_eq_getElem (by rw [zero_mark_size]; omega)]
      rfl
    · simp
  have HTH := Lib.hid hth
  clear hth
  go_wp2_with (refine wpList_store_mark rfl _ _ rfl w8.heap.size cB.h (some MK) (0 + 1) CM rfl rfl HCM.out HTH.out ?_; intro w9 hr9 hg9; have HR9 := Lib.hid hr9; have HGX9 := Lib.hid hg9; clear hr9 hg9)
  have hmb : w7.heap.size ≤ w8.heap.size := hsz8
  have HS9 := Lib.hid ((HS8.out.gr hga).far HGX9.out (by omega) (by omega) (by omega))
  have HMK9 := Lib.hid ((HMK.out.gr hga).keepX HGX9.out (show ¬ MK = w8.heap.size by omega))
  have HG9 := Lib.hid (HGX9.out.gr (HG8.out.trans hga) (fun k e => by have e2 : k = w8.heap.size := e; rw [e2]; exact HG8.out.size))
  have HB9 := HB8
  have hl9 : w8.heap.size < w9.heap.size := by
    have h1 := HGX9.out.2.2.2.1
    simp at h1
    omega
  have HK9 : Hid (KeepM w9 PB DB M7 w8.heap.size MK nK (markCells cB.h (some MK) (0 + 1)) cB.F) := Lib.hid ⟨HR9.out, HMK9.out, hl9, by omega, by omega, by omega, by omega, by omega, by omega⟩
  clear HTH HR9 HGX9 hga HMK hltK hsz8 HMK9 hl9 hmb hlt7 hleK HS8 HB8
  generalize w8.heap.size = MB at *
  obtain ⟨M9, hM9⟩ : ∃ M9, M9 = M7 := ⟨_, rfl⟩
  rw [← hM9] at HS9 HB9 HK9
  clear hM9
  refine (does_k PB DB M9 _ _ _ _ _ _ _ _ HS9.out (XC.out.gr HG9.out) RC.out (XC.out.off HPB.out.1) (XC.out.off HPB.out.2) (XC.out.off HB9.out) (by omega)).mono ?_
  rintro e w10 ⟨rfl, M10, hs, hf⟩
  have HS10 := Lib.hid hs
  have HK10 := Lib.hid (HK9.out.step hf)
  have hgb := hf.gr HG9.out HPB.out.1 HPB.out.2 HB9.out
  have HG10 := Lib.hid hgb.1
  have HB10 := Lib.hid hgb.2
  clear hs hf hgb
  generalize c.foldl (stepK sv) cB = cC at *
  have hbk := back_s HS10.out cB.h MK nK cB.F HK10.out.map
  go_wp2_with (refine wpList_load_mark rfl _ rfl MB cB.h (some MK) (0 + 1) rfl HK10.out.rng ?_; intro A11 hA11)
  rw [← hA11.out] at hbk
  refine hbk.mono ?_
  rintro e w11 ⟨rfl, M11, hs, hf⟩
  have HS11 := Lib.hid (show PgS w11 PB DB M11 nK cB sv (0 + 1) d1 from hs)
  have HK11 := Lib.hid (HK10.out.step hf)
  have hgb := hf.gr HG10.out HPB.out.1 HPB.out.2 HB10.out
  have HG11 := Lib.hid hgb.1
  have HB11 := Lib.hid hgb.2
  clear hs hf hgb hbk
  go_wp2_with fail
  refine (all_k PB DB M11 _ _ _ _ _ _ HS11.out HFB.out HCL.out.whole).mono ?_
  rintro e w12 ⟨rfl, hg⟩
  have HS12 := Lib.hid (HS11.out.gr hg)
  have HG12 := Lib.hid (HG11.out.trans hg)
  have HK12 := Lib.hid (HK11.out.step (PgF.of_gr PB DB M11 hg))
  rw [HMI.out]
  clear hg
  go_wp2_with fail
  have HB12 := HB11
  obtain ⟨M12, hM12⟩ : ∃ M12, M12 = M11 := ⟨_, rfl⟩
  rw [← hM12] at HS12 HB12 HK12
  clear hM12
  refine (does_k PB DB M12 _ _ _ _ _ _ _ _ HS12.out (XA.out.gr HG12.out) RA.out (XA.out.off HPB.out.1) (XA.out.off HPB.out.2) (XA.out.off HB12.out) (by omega)).mono ?_
  rintro e w13 ⟨rfl, M13, hs, hf⟩
  have HS13 := Lib.hid hs
  have HK13 := Lib.hid (HK12.out.step hf)
  have hgb := hf.gr HG12.out HPB.out.1 HPB.out.2 HB12.out
  have HG13 := Lib.hid hgb.1
  have HB13 := Lib.hid hgb.2
  clear hs hf hgb
  generalize a.foldl (stepK sv) cB = cD at *
  have hbk := back_s HS13.out cB.h MK nK cB.F HK13.out.map
  go_wp2_with (refine wpList_load_mark rfl _ rfl MB cB.h (some MK) (0 + 1) rfl HK13.out.rng ?_; intro A14 hA14)
  rw [← hA14.out] at hbk
  refine hbk.mono ?_
  rintro e w14 ⟨rfl, M14, hs, hf⟩
  have HS14 := Lib.hid (show PgS w14 PB DB M14 nK cB sv (0 + 1) d1 from hs)
  have HK14 := Lib.hid (HK13.out.step hf)
  have hgb := hf.gr HG13.out HPB.out.1 HPB.out.2 HB13.out
  have HG14 := Lib.hid hgb.1
  have HB14 := Lib.hid hgb.2
  clear hs hf hgb hbk
  go_wp2_with fail
  refine (all_k PB DB M14 _ _ _ _ _ _ HS14.out HFB.out HCL.out.whole).mono ?_
  rintro e w15 ⟨rfl, hg⟩
  have HS15 := Lib.hid (HS14.out.gr hg)
  have HG15 := Lib.hid (HG14.out.trans hg)
  have HK15 := Lib.hid (HK14.out.step (PgF.of_gr PB DB M14 hg))
  rw [HMI.out]
  clear hg
  go_wp2_with fail
  have HB15 := HB14
  obtain ⟨M15, hM15⟩ : ∃ M15, M15 = M14 := ⟨_, rfl⟩
  rw [← hM15] at HS15 HB15 HK15
  clear hM15
  refine (rollback_s HS15.out).mono ?_
  rintro e w16 ⟨rfl, M16, hs, hf⟩
  have HS16 := Lib.hid hs
  have HK16 := Lib.hid (HK15.out.step hf)
  have hgb := hf.gr HG15.out HPB.out.1 HPB.out.2 HB15.out
  have HG16 := Lib.hid hgb.1
  have HB16 := Lib.hid hgb.2
  clear hs hf hgb
  go_wp2_with fail
  refine (all_k PB DB M16 _ _ _ _ _ _ HS16.out HF0.out HCL.out.whole).mono ?_
  rintro e w17 ⟨rfl, hg⟩
  have HS17 := Lib.hid (HS16.out.gr hg)
  have HG17 := Lib.hid (HG16.out.trans hg)
  have HK17 := Lib.hid (HK16.out.step (PgF.of_gr PB DB M16 hg))
  rw [HO.out]
  clear hg
  go_wp2_with fail
  have HB17 := HB16
  obtain ⟨M17, hM17⟩ : ∃ M17, M17 = M16 := ⟨_, rfl⟩
  rw [← hM17] at HS17 HB17 HK17
  clear hM17
  refine (rollback_s HS17.out).mono ?_
  rintro e w18 ⟨rfl, M18, hs, hf⟩
  have HS18 := Lib.hid hs
  have HK18 := Lib.hid (HK17.out.step hf)
  have hgb := hf.gr HG17.out HPB.out.1 HPB.out.2 HB17.out
  have HG18 := Lib.hid hgb.1
  have HB18 := Lib.hid hgb.2
  clear hs hf hgb
  go_wp2_with fail
  refine (all_k PB DB M18 _ _ _ _ _ _ HS18.out HF0.out HCL.out.whole).mono ?_
  rintro e w19 ⟨rfl, hg⟩
  have HS19 := Lib.hid (HS18.out.gr hg)
  have HG19 := Lib.hid (HG18.out.trans hg)
  have HK19 := Lib.hid (HK18.out.step (PgF.of_gr PB DB M18 hg))
  rw [HO.out]
  clear hg
  go_wp2_with fail
  go_ret
  exact Ret.mk rfl HG19.out
theorem backs_all (a b c : List KAct) (va vb vc : Value) (w : World) (ha : ActsV w va a) (hb : ActsV w vb b) (hc : ActsV w vc c) (ra : ∀ x ∈ a, x.ok) (rb : ∀ x ∈ b, x.ok) (rc : ∀ x ∈ c, x.ok) :
    Calls Try.prog 3 #[va, vb, vc] w (Ret w (.bool true)) := by
  by_cases h : a.length ≤ 30 ∧ b.length ≤ 30 ∧ c.length ≤ 30
  · exact backs_walk a b c va vb vc w ha hb hc ra rb rc h.1 h.2.1 h.2.2
  · exact backs_long a b c va vb vc w ha hb hc (by omega)
end Go.Proofs.Ytcdoeninajpbmaa
