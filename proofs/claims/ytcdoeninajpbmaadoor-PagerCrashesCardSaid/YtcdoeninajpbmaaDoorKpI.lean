/-
  The walk of PagerCrashes.
-/
import Derived.Test.YtcdoeninajpbmaaDoorKpH
import Derived.Test.YtcdoeninajpbmaaDoorTellE
namespace Go.Proofs.YtcdoeninajpbmaaDoor
open Go Go.RowKit

/-- One of two texts: the elder, or another one, the newer. -/
theorem one_of {S O N : ByteArray} (h : S = O ∨ S = N) : S = O ∨ (S = N ∧ N ≠ O) := by
  rcases h with h | h
  · exact .inl h
  · by_cases e : N = O
    · exact .inl (h.trans e)
    · exact .inr ⟨h, e⟩
theorem neq_text {N O : ByteArray} (h : N ≠ O) : (N.toList == O.toList) = false ∧ (!N.toList == O.toList) = true := by
  have hb : (N.toList == O.toList) = false := by
    rw [beq_eq_false_iff_ne]
    intro e
    rw [ByteArray.toList_eq, ByteArray.toList_eq] at e
    exact h (data_ext e)
  exact ⟨hb, by rw [hb]; rfl⟩
set_option maxRecDepth 100000 in
set_option maxHeartbeats 4000000 in
theorem crash_long (a b : List KAct) (va vb : Value) (cut torn again : Int) (w : World) (ha : ActsV w va a) (hb : ActsV w vb b) (h : 30 < a.length ∨ 30 < b.length) :
    Calls Tryd.prog 3 #[va, vb, .int .i64 cut, .int .i64 torn, .int .i64 again] w (Ret w (.bool true)) := by
  obtain ⟨aa, ca, rfl⟩ := ha.form
  obtain ⟨ab, cb, rfl⟩ := hb.form
  clear ha hb
  have h1 : decide ((30 : Int) < a.length) = true ∨ decide ((30 : Int) < a.length) = false := by cases decide ((30 : Int) < a.length) <;> simp
  have h2 : decide ((30 : Int) < b.length) = true ∨ decide ((30 : Int) < b.length) = false := by cases decide ((30 : Int) < b.length) <;> simp
  rcases h1 with h1 | h1 <;> rcases h2 with h2 | h2
  all_goals first
    | (exfalso; simp only [decide_eq_false_iff_not] at h1 h2; omega)
    | (clear h
       go_enter Tryd.func3, Tryd.ntmps3
       go_wp2_with fail
       go_ret
       exact Ret.mk rfl (Gr.refl _))
set_option maxRecDepth 100000 in
set_option maxHeartbeats 4000000 in
theorem crash_walk (a b : List KAct) (va vb : Value) (cut torn again : Int) (w : World) (hE : ErrTypeAt w) (ha : ActsV w va a) (hb : ActsV w vb b) (ra : ∀ x ∈ a, x.ok) (rb : ∀ x ∈ b, x.ok) (la : a.length ≤ 30) (lb : b.length ≤ 30) :
    Calls Tryd.prog 3 #[va, vb, .int .i64 cut, .int .i64 torn, .int .i64 again] w (Ret w (.bool true)) := by
  obtain ⟨aa, ka, rfl⟩ := ha.form
  obtain ⟨ab, kb, rfl⟩ := hb.form
  have XA := Lib.hid ha
  have XB := Lib.hid hb
  have RA := Lib.hid ra
  have RB := Lib.hid rb
  have HE := Lib.hid hE
  have d1 : decide ((30 : Int) < a.length) = false := by simp; omega
  have d2 : decide ((30 : Int) < b.length) = false := by simp; omega
  clear ha hb ra rb hE
  go_enter Tryd.func3, Tryd.ntmps3
  go_wp2_with fail
  clear d1 d2
  refine (paged_k _).mono ?_
  rintro e w1 ⟨rfl, hg1⟩
  go_wp2_with fail
  have hd := disk_made w1
  have HG1 := Lib.hid (hg1.trans ((Gr.refl w1).alloc (.cells Tryd.zeroCells27 27)))
  have HD1 := Lib.hid hd
  have HDB0 := hg1.size
  clear hg1 hd
  generalize (Tryd.zeroCells27) = Z at *
  generalize w1.alloc (.cells Z 27) = w1' at *
  generalize w1.heap.size = DB at *
  refine (open_s DB dk0 headZ _ HD1.out clean0 (by decide)).mono ?_
  rintro e w2 ⟨PB, M2, rfl, hs, hle1, hle2, hgx⟩
  rw [headD_zero] at hs
  have hsz := HG1.out.size
  have HPB : Hid (w.heap.size ≤ PB ∧ w.heap.size ≤ DB) := Lib.hid ⟨by omega, HDB0⟩
  have HB2 : Hid (w.heap.size ≤ M2) := Lib.hid (by omega)
  have HS2 := Lib.hid hs
  have HG2 := Lib.hid (hgx.gr HG1.out (fun k e => by have e2 : k = DB := e; rw [e2]; exact HDB0))
  clear hs hle1 hle2 hgx hsz HDB0
  go_wp2_with fail
  refine (does_k PB DB M2 _ _ _ _ _ _ _ _ HS2.out (XA.out.gr HG2.out) RA.out (XA.out.off HPB.out.1) (XA.out.off HPB.out.2) (XA.out.off HB2.out) (by omega)).mono ?_
  rintro e w3 ⟨rfl, M3, hs, hf⟩
  have HS3 := Lib.hid hs
  have HF3 := Lib.hid hf
  have hgb := hf.gr HG2.out HPB.out.1 HPB.out.2 HB2.out
  have HG3 := Lib.hid hgb.1
  have HB3 := Lib.hid hgb.2
  clear hs hf hgb
  go_wp2_with fail
  have hcf := foldK_fine headZ_fine a (Ch.new_fine headZ_fine)
  generalize a.foldl (stepK headZ) (Ch.new headZ) = cA at *
  have hpw := wrsD_power (d := dk0) rfl (commitE cA.h cA.F)
  have hlen := commitE_len hcf.dirty cA.h
  have hcl := clean0.commit hcf hpw.1
  have hp0 := clean0.commit0 hcf hpw.1
  refine (commit_s HS3.out hcf.dirty clean0.whole (by decide) (by omega) hpw.1).mono ?_
  rintro e w4 ⟨rfl, M4, hs, hf⟩
  have HCL := Lib.hid hcl.1
  have HP0 := Lib.hid hp0
  have HS4 := Lib.hid hs
  have hgb := hf.gr HG3.out HPB.out.1 HPB.out.2 HB3.out
  have HG4 := Lib.hid hgb.1
  have HB4 := Lib.hid hgb.2
  have HSF : Hid cA.h.fine := Lib.hid hcf.head
  clear hs hf hpw hlen hcl hcf hgb hp0
  generalize (wrsD dk0 (commitE cA.h cA.F)).2 = d1 at *
  generalize cA.h = sv at *
  have HF0 := Lib.hid (Ch.new_fine HSF.out)
  go_wp2_with fail
  refine (all_k PB DB M4 _ _ _ _ _ _ HS4.out HF0.out HCL.out.whole).mono ?_
  rintro e w5 ⟨rfl, hg⟩
  have HS5 := Lib.hid (HS4.out.gr hg)
  have HG5 := Lib.hid (HG4.out.trans hg)
  have HB5 := HB4
  have HF5 := Lib.hid (PgF.of_gr PB DB M4 hg)
  obtain ⟨M5, hM⟩ : ∃ M5, M5 = M4 := ⟨_, rfl⟩
  rw [← hM] at HS5 HB5 HF5
  clear hg hM
  have HOLD : Hid ((⟨(allT (Ch.new sv) d1.pg).toArray⟩ : ByteArray) = ⟨(allT (Ch.new sv) d1.pg).toArray⟩) := Lib.hid rfl
  obtain ⟨O, hO⟩ : ∃ O, (⟨(allT (Ch.new sv) d1.pg).toArray⟩ : ByteArray) = O := ⟨_, rfl⟩
  rw [hO]
  have HO := Lib.hid hO
  clear hO HOLD
  go_wp2_with fail
  refine (does_k PB DB M5 _ _ _ _ _ _ _ _ HS5.out (XB.out.gr HG5.out) RB.out (XB.out.off HPB.out.1) (XB.out.off HPB.out.2) (XB.out.off HB5.out) (by omega)).mono ?_
  rintro e w6 ⟨rfl, M6, hs, hf⟩
  have HS6 := Lib.hid hs
  have HF6 := Lib.hid hf
  have hgb := hf.gr HG5.out HPB.out.1 HPB.out.2 HB5.out
  have HG6 := Lib.hid hgb.1
  have HB6 := Lib.hid hgb.2
  clear hs hf hgb
  go_wp2_with fail
  have HFB := Lib.hid (foldK_fine HSF.out b HF0.out)
  generalize b.foldl (stepK sv) (Ch.new sv) = cB at *
  refine (all_k PB DB M6 _ _ _ _ _ _ HS6.out HFB.out HCL.out.whole).mono ?_
  rintro e w7 ⟨rfl, hg⟩
  have HS7 := Lib.hid (HS6.out.gr hg)
  have HG7 := Lib.hid (HG6.out.trans hg)
  have HB7 := HB6
  have HF7 := Lib.hid (PgF.of_gr PB DB M6 hg)
  obtain ⟨M7, hM⟩ : ∃ M7, M7 = M6 := ⟨_, rfl⟩
  rw [← hM] at HS7 HB7 HF7
  clear hg hM
  obtain ⟨MI, hMI⟩ : ∃ O, (⟨(allT cB d1.pg).toArray⟩ : ByteArray) = O := ⟨_, rfl⟩
  rw [hMI]
  have HMI := Lib.hid hMI
  clear hMI
  go_wp2_with fail
  have hpn := pickK_lt cut 40 (by omega)
  refine (pick_k cut 40 (by omega) _).mono ?_
  rintro e w8 ⟨rfl, rfl⟩
  go_wp2_with fail
  refine (pick_k torn 1025 (by omega) _).mono ?_
  rintro e w8 ⟨rfl, rfl⟩
  generalize ((pickK torn 1025 : Nat) : Int) = tn at *
  generalize pickK cut 40 = cn at *
  go_wp2_with fail
  refine (cut_k DB d1 cn tn _ HS7.out.dk).mono ?_
  rintro e w8 ⟨rfl, hd8, hg8⟩
  obtain ⟨d8, h8⟩ : ∃ d8, d8 = (⟨d1.pg, decide (0 ≤ (cn : Int)), max (cn : Int) 0, tn⟩ : Dk) := ⟨_, rfl⟩
  rw [← h8] at hd8
  have HPG8 : Hid (d8.pg = d1.pg) := Lib.hid (by rw [h8])
  have hl8 : -890000 ≤ d8.left ∧ d8.left ≤ 1000000 := by
    rw [h8]
    show -890000 ≤ max (cn : Int) 0 ∧ max (cn : Int) 0 ≤ 1000000
    omega
  have HW8 : Hid d8.whole := Lib.hid (fun k hk => by rw [HPG8.out]; exact HCL.out.whole k hk)
  have HS8 := Lib.hid (HS7.out.cut hg8 hd8)
  have HG8 := Lib.hid (hg8.gr HG7.out (fun k e => by have e2 : k = DB := e; rw [e2]; exact HPB.out.2))
  clear h8 hd8 hg8 hpn
  go_wp2_with fail
  obtain ⟨⟨n', hn', hpA⟩, hdk, ne1, ne2⟩ := HS8.out
  refine (commit_pg PB DB M7 n' cB.h sv cB.F (0 + 1) d8 w8 hpA HFB.out.dirty hdk HW8.out hl8 (by omega) ne1 ne2).mono ?_
  rintro e w9 ⟨rfl, hd9, hcm, hg9⟩
  have HG9 := Lib.hid (hg9.gr HG8.out (fun k e => by rcases e with e | e <;> rw [e]; exact HPB.out.1; exact HPB.out.2))
  have hlt8 : DB < w8.heap.size := hdk.lt
  have HD9 := Lib.hid hd9
  have HON := Lib.hid (fun h => commit_on HFB.out HW8.out h)
  have HOFF := Lib.hid (fun h => commit_three HFB.out HW8.out (show pgGet d8.pg 2000 = zerosB by rw [HPG8.out]; exact HCL.out.log) h)
  have hlf9 := wrsD_left (commitE cB.h cB.F) d8
  have hln9 := commitE_len HFB.out.dirty cB.h
  obtain ⟨r9, hr9⟩ : ∃ r9, wrsD d8 (commitE cB.h cB.F) = r9 := ⟨_, rfl⟩
  rw [hr9] at HD9 HON HOFF hcm hlf9 ⊢
  clear hd9 hg9 hpA hdk hr9
  obtain ⟨ok9, d9⟩ := r9
  cases ok9
  · have HOF := Lib.hid (HOFF.out rfl)
    have HCM : Hid (PagerAt w9 PB DB M7 n' cB.h sv cB.F true (0 + 1)) := Lib.hid hcm
    have hd9 : DkAt w9 DB d9 := HD9.out
    have HD9' := Lib.hid hd9
    clear hcm HD9 HOFF HON hd9
    have hte := tell_e (.iface 38 (.int .i64 14)) 14 w9 (HE.out.gr HG9.out) (.inr rfl)
    unfold errD
    go_wp2_with fail
    refine hte.mono ?_
    rintro e w10 ⟨rfl, hg10⟩
    go_wp2_with fail
    refine (down_k PB DB M7 n' cB.h sv cB.F true (0 + 1) _ (HCM.out.gr hg10)).mono ?_
    rintro e w11 ⟨rfl, rfl⟩
    go_wp2_with fail
    refine (commit_down PB DB M7 n' cB.h sv cB.F (0 + 1) _ (HCM.out.gr hg10)).mono ?_
    rintro e w11 ⟨rfl, rfl⟩
    have hte2 := tell_e (.iface 38 (.int .i64 6)) 6 _ (HE.out.gr (HG9.out.trans hg10)) (.inr rfl)
    go_wp2_with fail
    refine hte2.mono ?_
    rintro e w11 ⟨rfl, hg11⟩
    have HD11 := Lib.hid (HD9'.out.gr (hg10.trans hg11))
    have HG11 := Lib.hid (HG9.out.trans (hg10.trans hg11))
    clear hte hte2 hg10 hg11
    go_wp2_with fail
    have HTH : Hid (Three cB d1.pg d9.pg) := Lib.hid (by rw [← HPG8.out]; exact HOF.out.1)
    have HTA := Lib.hid (fun (pg : Nat → ByteArray) (h : TwoC cB d1.pg pg) => two_all HFB.out HSF.out HP0.out h)
    have HST : Hid (∀ pg, TwoC cB d1.pg pg → (headD pg).fine ∧ ((⟨(allT (.new (headD pg)) pg).toArray⟩ : ByteArray) = O ∨ ((⟨(allT (.new (headD pg)) pg).toArray⟩ : ByteArray) = MI ∧ MI ≠ O))) := Lib.hid fun pg h => by
      obtain ⟨h1, h2⟩ := HTA.out pg h
      refine ⟨h1, one_of ?_⟩
      rcases h2 with h2 | h2
      · exact .inl (by rw [h2]; exact HO.out)
      · exact .inr (by rw [h2]; exact HMI.out)
    have hpa := pickK_lt again 20 (by omega)
    have hpb := pickK_lt torn 1025 (by omega)
    have pk1 := fun w => pick_k again 20 (by omega) w
    have pk2 := fun w => pick_k torn 1025 (by omega) w
    have HPD := Lib.hid HPB.out.2
    generalize ((pickK torn 1025 : Nat) : Int) = tt at *
    generalize pickK again 20 = ag at *
    go_loopw [17] (fun kv w' => ∃ (i : Nat) (d' : Dk), i ≤ 3 ∧ kv = .int .i64 i ∧ DkAt w' DB d' ∧ d'.whole ∧ Three cB d1.pg d'.pg ∧ Gr w w') (fun kv _ => 3 - (intOf kv).toNat)
    case atStart => exact ⟨0, d9, by omega, rfl, HD11.out, HOF.out.2, HTH.out, HG11.out⟩
    case round =>
      obtain ⟨i, dd, hi, rfl, hdd, hdw, hd3, hgr⟩ := hrel
      have HDD := Lib.hid hdd
      have HDW := Lib.hid hdw
      have HD3 := Lib.hid hd3
      have HGR := Lib.hid hgr
      clear hdd hdw hd3 hgr
      by_cases hlt : i < 3
      · go_wp2_with fail
        refine (pk1 _).mono ?_
        rintro e _ ⟨rfl, rfl⟩
        go_wp2_with fail
        refine (pk2 _).mono ?_
        rintro e _ ⟨rfl, rfl⟩
        go_wp2_with fail
        refine (cut_k DB dd ((ag : Int) + i) tt _ HDD.out).mono ?_
        rintro e w14 ⟨rfl, hd14, hg14⟩
        obtain ⟨d14, h14⟩ : ∃ d14, d14 = (⟨dd.pg, decide (0 ≤ ((ag : Int) + i)), max ((ag : Int) + i) 0, tt⟩ : Dk) := ⟨_, rfl⟩
        rw [← h14] at hd14
        have hl14 : -890000 ≤ d14.left ∧ d14.left ≤ 1000000 := by
          rw [h14]
          show -890000 ≤ max ((ag : Int) + i) 0 ∧ max ((ag : Int) + i) 0 ≤ 1000000
          omega
        have HW14 : Hid d14.whole := Lib.hid (fun k hk => by rw [h14]; exact HDW.out k hk)
        have H314 : Hid (Three cB d1.pg d14.pg) := Lib.hid (by rw [h14]; exact HD3.out)
        have HD14 := Lib.hid hd14
        have HG14 := Lib.hid (hg14.gr HGR.out (fun k e => by have e2 : k = DB := e; rw [e2]; exact HPD.out))
        clear h14 hd14 hg14
        go_wp2_with fail
        refine (open_three DB HFB.out d14 w14 HD14.out HW14.out H314.out hl14).mono ?_
        rintro e w15 ⟨hgx, d15, hd15, hw15, _, _, hcase⟩
        have HD15 := Lib.hid hd15
        have HW15 := Lib.hid hw15
        have HG15 := Lib.hid (hgx.gr HG14.out (fun k e => by have e2 : k = DB := e; rw [e2]; exact HPD.out))
        clear hgx hd15 hw15
        rcases hcase with ⟨rfl, h3⟩ | ⟨PB', M', rfl, h2, hs, _, _⟩
        · have H3 := Lib.hid h3
          clear h3
          go_wp2_with fail
          refine ⟨⟨i + 1, d15, by omega, by go_num, HD15.out, HW15.out, H3.out, HG15.out⟩, by simp [intOf]; omega⟩
        · have H2 := Lib.hid h2
          have HS15 := Lib.hid hs
          obtain ⟨hhf, hst⟩ := HST.out _ h2
          have HHF := Lib.hid (Ch.new_fine hhf)
          have HAK := Lib.hid (fun W (g : Gr w15 W) => all_k _ DB _ _ _ _ _ _ W (HS15.out.gr g) HHF.out HW15.out)
          have hak := HAK.out _ (Gr.refl _)
          clear h2 hs hhf HAK
          rcases hst with hst | ⟨hst, hne⟩
          · rw [hst] at hak
            clear hst
            go_wp2_with fail
            refine hak.mono ?_
            rintro e w16 ⟨rfl, hg16⟩
            go_wp2_with fail
            refine ⟨⟨i + 1, d15, by omega, by go_num, HD15.out.gr hg16, HW15.out, H2.out.three, HG15.out.trans hg16⟩, by simp [intOf]; omega⟩
          · rw [hst] at hak
            obtain ⟨hb1, hb2⟩ := neq_text hne
            clear hst hne
            go_wp2_with fail
            refine hak.mono ?_
            rintro e w16 ⟨rfl, hg16⟩
            go_wp2_with fail
            refine ⟨⟨i + 1, d15, by omega, by go_num, HD15.out.gr hg16, HW15.out, H2.out.three, HG15.out.trans hg16⟩, by simp [intOf]; omega⟩
      · obtain rfl : i = 3 := by omega
        go_wp2_with fail
        refine (cut_k DB dd (-1) 0 _ HDD.out).mono ?_
        rintro e w17 ⟨rfl, hd17, hg17⟩
        obtain ⟨d17, h17⟩ : ∃ d17, d17 = (⟨dd.pg, decide ((0 : Int) ≤ -1), max (-1 : Int) 0, 0⟩ : Dk) := ⟨_, rfl⟩
        rw [← h17] at hd17
        have hl17' : d17.left = 0 := by rw [h17]; rfl
        have hl17 : -890000 ≤ d17.left ∧ d17.left ≤ 1000000 := by omega
        have HCU : Hid (d17.cut = false) := Lib.hid (by rw [h17]; rfl)
        have HW17 : Hid d17.whole := Lib.hid (fun k hk => by rw [h17]; exact HDW.out k hk)
        have H317 : Hid (Three cB d1.pg d17.pg) := Lib.hid (by rw [h17]; exact HD3.out)
        have HD17 := Lib.hid hd17
        have HG17 := Lib.hid (hg17.gr HGR.out (fun k e => by have e2 : k = DB := e; rw [e2]; exact HPD.out))
        clear h17 hd17 hg17
        go_wp2_with fail
        refine (open_power DB HFB.out d17 w17 HD17.out HW17.out H317.out HCU.out hl17).mono ?_
        rintro e w18 ⟨hgx, d18, PB8, M8, rfl, hcu8, hw18, hl18, h2, hs, _, _, _⟩
        have HG18 := Lib.hid (hgx.gr HG17.out (fun k e => by have e2 : k = DB := e; rw [e2]; exact HPD.out))
        have HCU8 := Lib.hid hcu8
        have HW18 := Lib.hid hw18
        have H218 := Lib.hid h2
        have HS18 := Lib.hid hs
        obtain ⟨hhf, hst⟩ := HST.out _ h2
        have HHF := Lib.hid (Ch.new_fine hhf)
        have hak := all_k _ DB _ _ _ _ _ _ w18 hs HHF.out hw18
        have HRO := Lib.hid (fun W (hd : DkAt W DB d18) => open_power DB HFB.out d18 W hd hw18 h2.three hcu8 (by omega))
        have hon := wrsD_power (d := d18) hcu8 (commitE (Ch.new (headD d18.pg)).h (Ch.new (headD d18.pg)).F)
        have HCO := Lib.hid (commit_on HHF.out hw18 hon.1)
        have HOK := Lib.hid hon.1
        obtain ⟨S, hS⟩ : ∃ S, (⟨(allT (.new (headD d18.pg)) d18.pg).toArray⟩ : ByteArray) = S := ⟨_, rfl⟩
        rw [hS] at hak hst
        have HSS := Lib.hid hS
        have hcmp : ((S.toList == O.toList) = true ∧ (!S.toList == O.toList) = false) ∨ (((S.toList == O.toList) = false ∧ (!S.toList == O.toList) = true) ∧ (S.toList == MI.toList) = true ∧ (!S.toList == MI.toList) = false) := by
          rcases hst with rfl | ⟨rfl, hne⟩
          · exact .inl ⟨by simp, by simp⟩
          · exact .inr ⟨neq_text hne, by simp, by simp⟩
        have HLT := Lib.hid hs.lt.2.1
        clear hgx hcu8 hw18 h2 hs hhf hst hon hS
        rcases hcmp with ⟨hb1, hb2⟩ | ⟨⟨hb1, hb2⟩, hb3, hb4⟩
        all_goals
          go_wp2_with fail
          refine hak.mono ?_
          rintro e w19 ⟨rfl, hg19⟩
          clear hak
          go_wp2_with fail
          refine (HRO.out _ (HS18.out.gr hg19).dk).mono ?_
          rintro e w20 ⟨hgx, d20, PB9, M9, rfl, _, _, _, _, hs20, hle20, hlm20, heq⟩
          have he := heq H218.out
          rw [he] at hs20
          have HS20 := Lib.hid hs20
          have HG20 := Lib.hid (hgx.gr (HG18.out.trans hg19) (fun k e => by have e2 : k = DB := e; rw [e2]; exact HPD.out))
          have hak2 := all_k _ DB _ _ _ _ _ _ w20 hs20 HHF.out HW18.out
          rw [HSS.out] at hak2
          have HPB9 : Hid (w.heap.size ≤ PB9 ∧ w.heap.size ≤ M9) := Lib.hid (by have := HG18.out.size; have := hg19.size; omega)
          clear hgx hs20 hle20 hlm20 heq he hb1 hb2
          go_wp2_with fail
          refine hak2.mono ?_
          rintro e w21 ⟨rfl, hg21⟩
          clear hak2
          have HS21 := Lib.hid (HS20.out.gr hg21)
          go_wp2_with fail
          refine (commit_s HS21.out HHF.out.dirty HW18.out (by omega) (by omega) HOK.out).mono ?_
          rintro e w22 ⟨rfl, M22, hs22, hf22⟩
          have HG22 := Lib.hid (hf22.gr (HG20.out.trans hg21) HPB9.out.1 HPD.out HPB9.out.2).1
          have hak3 := all_k _ DB _ _ _ _ _ _ w22 hs22 HHF.out HCO.out.2
          have hco : allT (.new (Ch.new (headD d18.pg)).h) (wrsD d18 (commitE (Ch.new (headD d18.pg)).h (Ch.new (headD d18.pg)).F)).2.pg = allT (.new (headD d18.pg)) d18.pg := HCO.out.1
          rw [hco, HSS.out] at hak3
          clear hs22 hf22 hco
          go_wp2_with fail
          refine hak3.mono ?_
          rintro e w23 ⟨rfl, hg23⟩
          go_wp2_with fail
          go_ret
          exact Ret.mk rfl (HG22.out.trans hg23)
  · obtain ⟨hal, hwh⟩ := HON.out rfl
    have HAL : Hid ((⟨(allT (Ch.new cB.h) d9.pg).toArray⟩ : ByteArray) = MI) := Lib.hid (by
      have hal' : allT (Ch.new cB.h) d9.pg = allT cB d8.pg := hal
      rw [hal', HPG8.out]
      exact HMI.out)
    have HWH : Hid d9.whole := Lib.hid hwh
    have hcm' : ∃ M', PagerAt w9 PB DB M' 0 cB.h cB.h (fun _ => none) false (0 + 1 + 1) ∧ w8.heap.size ≤ M' := hcm
    obtain ⟨M9, hp9, hM9⟩ := hcm'
    have hd9 : DkAt w9 DB d9 := HD9.out
    have HS9 : Hid (PgS w9 PB DB M9 0 (Ch.new cB.h) cB.h (0 + 1 + 1) d9) := Lib.hid ⟨⟨0, Nat.le_refl _, hp9⟩, hd9, ne1, by omega⟩
    have hte := tell_e .nilIface 0 w9 (HE.out.gr HG9.out) (.inl ⟨rfl, rfl⟩)
    have HFN := Lib.hid (Ch.new_fine HFB.out.head)
    clear hal hwh hcm hp9 hd9 HOFF HON HD9
    unfold errD
    go_wp2_with fail
    refine hte.mono ?_
    rintro e w10 ⟨rfl, hg10⟩
    go_wp2_with fail
    refine (all_k _ DB _ _ _ _ _ _ _ (HS9.out.gr hg10) HFN.out HWH.out).mono ?_
    rintro e w11 ⟨rfl, hg11⟩
    rw [HAL.out]
    go_wp2_with fail
    go_ret
    exact Ret.mk rfl ((HG9.out.trans hg10).trans hg11)
theorem crash_all (a b : List KAct) (va vb : Value) (cut torn again : Int) (w : World) (hE : ErrTypeAt w) (ha : ActsV w va a) (hb : ActsV w vb b) (ra : ∀ x ∈ a, x.ok) (rb : ∀ x ∈ b, x.ok) :
    Calls Tryd.prog 3 #[va, vb, .int .i64 cut, .int .i64 torn, .int .i64 again] w (Ret w (.bool true)) := by
  by_cases h : a.length ≤ 30 ∧ b.length ≤ 30
  · exact crash_walk a b va vb cut torn again w hE ha hb ra rb h.1 h.2
  · exact crash_long a b va vb cut torn again w ha hb (by omega)
end Go.Proofs.YtcdoeninajpbmaaDoor
