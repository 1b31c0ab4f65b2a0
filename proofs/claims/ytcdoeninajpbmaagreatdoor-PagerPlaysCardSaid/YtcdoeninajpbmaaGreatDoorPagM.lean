/-
  The contract of a pager's Commit.
-/
import Derived.Test.YtcdoeninajpbmaaGreatDoorPagX
import Derived.Test.YtcdoeninajpbmaaGreatDoorPagG
import Derived.Test.YtcdoeninajpbmaaGreatDoorPagY
namespace Go.Proofs.YtcdoeninajpbmaaGreatDoor
open Go Go.RowKit

/-- 'v[1:]', v a slice of numbers of the call's own. -/
theorem tail_nats {a0 w : World} {x : Nat} {xs : List Nat} {ao : Option Addr} {n c : Nat} (h : OwnV natV 3 a0 w (.slice ao n c) (x :: xs)) :
    ∃ ao2 c2, (∀ W, (Instr.slice 67 (.slice ao n c) (some (.int .i64 1)) none none).run Tryz.prog W = .ok (.slice ao2 xs.length c2) W) ∧ RowV natV w (.slice ao2 xs.length c2) xs ∧ ∀ b off, ao2 = some ⟨b, off, none⟩ → a0.heap.size ≤ b := by
  have hrow := h.row
  rcases h.2 with ⟨_, h0⟩ | ⟨g, cap, cur, hv, hb, _, hcap, _⟩
  · simp at h0
  · injection hv with e1 e2 e3
    subst e1 e2 e3
    simp only [List.length_cons] at hcap
    refine ⟨(if c = 1 then some ⟨g, 0, none⟩ else some ⟨g, 1, none⟩), c - 1, fun W => ?_, ?_, ?_⟩
    · have hr := run_slice_l (P := Tryz.prog) (w := W) 67 (some ⟨g, 0, none⟩) (xs.length + 1) c (by kernel_rfl) .i64 1 (by omega) (by omega)
      refine hr.trans ?_
      rw [show (Go.sizeOf (Tryz.prog.elem 67)).run Tryz.prog W = .ok 1 W by kernel_rfl]
      simp [Result.andThen, sliced, Addr.add]
    · rcases hrow with ⟨h1, _⟩ | ⟨b, off, c', h1, h2, h3⟩
      · cases h1
      · injection h1 with e1 e2 e3
        injection e1 with e1
        injection e1 with e1 e4
        subst e1 e4
        by_cases hc : c = 1
        · have hx : xs = [] := List.length_eq_zero_iff.1 (by omega)
          subst hx
          rw [if_pos hc]
          exact .inr ⟨g, 0, _, rfl, h2, fun i hi => absurd hi (by simp)⟩
        · rw [if_neg hc]
          refine .inr ⟨g, 1, _, rfl, h2, fun i hi => ?_⟩
          have := h3 (i + 1) (by simp; omega)
          rw [Nat.zero_add] at this
          rw [Nat.add_comm 1 i]
          simpa using this
    · intro b off e
      split at e <;> (injection e with e; injection e with e; omega)
theorem off_own {α : Type} {enc : α → Value} {e : TypeId} {a0 w : World} {v : Value} {xs : List α} (h : OwnV enc e a0 w v xs) {B : Nat} (hB : B < a0.heap.size) : OffV v B := fun b off n c e1 e2 => by
  have := ownBlock_ge h b (by rw [e1]; rfl)
  omega
def txF (F : Int → Option ByteArray) (ks : List Nat) (t : ByteArray) (i : Nat) : List ByteArray := t :: (ks.take i).map fun (k : Nat) => (F k).getD ⟨#[]⟩
theorem txF_next {F : Int → Option ByteArray} {ks : List Nat} {t : ByteArray} {i : Nat} (h : i < ks.length) : txF F ks t (i + 1) = txF F ks t i ++ [(F ks[i]).getD ⟨#[]⟩] := by
  unfold txF
  rw [List.take_succ_eq_append_getElem h, List.map_append]
  rfl
theorem txF_len (F : Int → Option ByteArray) (ks : List Nat) (t : ByteArray) (i : Nat) : (txF F ks t i).length ≤ ks.length + 1 := by
  simp [txF]
  omega
theorem sorted_off {w W : World} {v : Value} (h : ∀ b off n c, v = .slice (some ⟨b, off, none⟩) n c → W.heap.size ≤ b) (hle : w.heap.size ≤ W.heap.size) {B : Nat} (hB : B < w.heap.size) : OffV v B := fun b off n c e e2 => by
  have := h b off n c e
  omega
theorem grX_imp {S T : Nat → Prop} {w w' : World} (h : GrX S w w') (i : ∀ k, S k → T k) : GrX T w w' := ⟨h.1, h.2.1, h.2.2.1, h.2.2.2.1, fun k hk hs => h.2.2.2.2 k hk fun h' => hs (i k h')⟩
/-- What a commit leaves. -/
def Committed (PB DB M n : Nat) (h sv : Head) (F : Int → Option ByteArray) (times : Int) (w w' : World) (b : Bool) : Prop :=
  if b then ∃ M', PagerAt w' PB DB M' 0 h h (fun _ => none) false (times + 1) ∧ w.heap.size ≤ M' else PagerAt w' PB DB M n h sv F true times
set_option maxRecDepth 100000 in
set_option maxHeartbeats 3200000 in
theorem commit_pg (PB DB M n : Nat) (h sv : Head) (F : Int → Option ByteArray) (times : Int) (d : Dk) (w : World) (p : PagerAt w PB DB M n h sv F false times) (hF : fineF F) (hd : DkAt w DB d) (hw : d.whole) (hl : -890000 ≤ d.left ∧ d.left ≤ 1000000) (ht : 0 ≤ times ∧ times ≤ 1000000) (hne : PB ≠ DB) (hne2 : M ≠ DB) :
    Calls Tryz.prog 14 #[.pointer (some ⟨PB, 0, none⟩)] w fun e w' => e = .returned (errD (wrsD d (commitE h F)).1) ∧ DkAt w' DB (wrsD d (commitE h F)).2 ∧ Committed PB DB M n h sv F times w w' (wrsD d (commitE h F)).1 ∧ GrX (fun b => b = PB ∨ b = DB) w w' := by
  have P := Lib.hid p
  have HD := Lib.hid hd
  have HW := Lib.hid hw
  have HF := Lib.hid hF
  have cd := p.down
  have hltP := p.lt
  have hltD := hd.lt
  have hltM := p.dirty.lt
  clear p hd hw hF
  obtain ⟨A, hA⟩ : ∃ A : Array Value, A = h.cells.toArray := ⟨_, rfl⟩
  have htx := text_g h
  rw [← hA] at htx
  have htb : (⟨(textF h).toArray⟩ : ByteArray) = textB h := rfl
  rw [htb] at htx
  have HA := Lib.hid hA
  clear hA htb
  have HKL := Lib.hid (ksF_len' HF.out)
  go_enter Tryz.func14, Tryz.ntmps14
  have cm := P.out.map
  go_wp2_with fail
  have hb0 : OwnV natV 3 w (w.alloc (.cells #[.int .i64 0] 3)) (.slice (some ⟨w.heap.size, 0, none⟩) 1 1) [0] := ownV_box natV w 0 3
  have hgb : Gr w (w.alloc (.cells #[.int .i64 0] 3)) := (Gr.refl w).alloc _
  generalize w.alloc (.cells #[.int .i64 0] 3) = w1 at *
  have HB0 := Lib.hid hb0
  have HGB := Lib.hid hgb
  clear hb0 hgb
  refine (keys_c (some M) w1).mono ?_
  rintro e w2 ⟨rfl, hw2⟩
  have hg2 : Gr w1 w2 := by rw [hw2]; exact (Gr.refl w1).alloc _
  have hcm2 : w2.cell? ⟨w1.heap.size, 0, none⟩ = some (.map (some M)) := by rw [hw2, World.cell?_alloc_new]; rfl
  have HG2 := Lib.hid (HGB.out.trans hg2)
  have HCM2 := Lib.hid hcm2
  have HB2 := Lib.hid (HB0.out.gr hg2)
  clear hw2 hg2 hcm2
  go_wp2_with fail
  refine (sorted_c HCM2.out (P.out.dirty.gr HG2.out) HF.out).mono ?_
  rintro e w3 ⟨sv3, rfl, hr3, hg3, hoff3⟩
  have HR3 := Lib.hid hr3
  have HG3 := Lib.hid (HG2.out.trans hg3)
  have HB3 := Lib.hid (HB2.out.gr hg3)
  have HO3 := Lib.hid (sorted_off hoff3 HG2.out.size (B := DB) hltD)
  clear hr3 hg3 hoff3
  have P3 := Lib.hid (P.out.gr HG3.out)
  have ch3 := P3.out.disk
  go_wp2_with (first
    | (at_builtin; refine append_row (a0 := w) (enc := natV) rfl _ _ 67 3 _ 8 Tryz.underlying67 info_int1 rfl (fun _ => rfl) (by omega) rfl _ [0] rfl HB3.out _ (ksF F) rfl HR3.out (by have := HKL.out; simp; omega) HG3.out ?_
       intro pv w4 hpv hg4 _
       obtain ⟨po, pc, rfl⟩ : ∃ po pc, pv = .slice po ((ksF F).length + 1) pc := hpv.row.form
       obtain ⟨ta, tc, hts, htr, hto⟩ := tail_nats (x := 0) (xs := ksF F) hpv
       have HPV : Hid (OwnV natV 3 w w4 (.slice po ((ksF F).length + 1) pc) (0 :: ksF F)) := Lib.hid hpv
       have HT := Lib.hid htr
       have HTO := Lib.hid hto
       clear htr hto
       have HG4 := Lib.hid hg4
       have P4 := Lib.hid (P.out.gr hg4)
       clear hpv hg4)
    | (refine wpList_load_head rfl _ rfl PB 1 _ rfl P4.out.head ?_; intro A2 hA2
       obtain rfl : A2 = A := hA2.out.trans HA.out.symm)
    | (go_at_call 34; refine (htx _).mono ?_; rintro e w5 ⟨rfl, hg5⟩
       have HG5 := Lib.hid (HG4.out.trans hg5)
       have HPV5 := Lib.hid (HPV.out.gr hg5)))
  have hl0 : OwnV Value.string 9 w5 (w5.alloc (.cells #[.string (textB h)] 9)) (.slice (some ⟨w5.heap.size, 0, none⟩) 1 1) (txF F (ksF F) (textB h) 0) := ownV_box Value.string w5 (textB h) 9
  have hg6 : Gr w5 (w5.alloc (.cells #[.string (textB h)] 9)) := (Gr.refl w5).alloc _
  have HT5 := Lib.hid (HT.out.gr hg5)
  have HTX := Lib.hid (textB_sz h)
  have HTS : Hid (textsF h F = txF F (ksF F) (textB h) (ksF F).length) := Lib.hid (by unfold textsF txF; rw [List.take_length])
  have HPS : Hid (pagesF F = 0 :: ksF F) := Lib.hid rfl
  have HLT : Hid (∀ i (h : i < (ksF F).length), (ksF F)[i] < 2000) := Lib.hid fun i h => (ksF_mem.1 (List.getElem_mem h)).1
  have HTZ : Hid (∀ s ∈ textsF h F, s.size = 1024) := Lib.hid (textsF_sz HF.out h)
  have HLK : Hid (∀ k ∈ pagesF F, k < 2000) := Lib.hid pagesF_lt
  have HCE : Hid (commitE h F = logsE (pagesF F) (textsF h F) ++ settleE (pagesF F) (textsF h F)) := Lib.hid rfl
  have HKL2 := HKL.out
  clear hg5 HKL htx
  generalize w5.alloc (.cells #[.string (textB h)] 9) = w6 at *
  generalize textB h = tb at *
  generalize textsF h F = txs at *
  generalize pagesF F = pgs at *
  generalize ksF F = ks at *
  go_loopw [30, 4] (fun kv lv w' => ∃ i : Nat, i ≤ ks.length ∧ kv = .int .i64 i ∧ OwnV Value.string 9 w5 w' lv (txF F ks tb i) ∧ Gr w5 w') (fun kv _ _ => ks.length - (intOf kv).toNat)
  case atStart => exact ⟨0, Nat.zero_le _, rfl, hl0, hg6⟩
  case round =>
    obtain ⟨i, hi, rfl, hlv, hgr⟩ := hrel
    have HLV := Lib.hid hlv
    have HGR := Lib.hid hgr
    have HGW := Lib.hid (HG5.out.trans hgr)
    clear hlv hgr
    by_cases hlt : i < ks.length
    · obtain ⟨b, off, rfl, hc⟩ := (HT5.out.gr HGR.out).at hlt
      have c0 := hc i hlt
      have hk := HLT.out i hlt
      have HNX := Lib.hid (txF_next (F := F) (ks := ks) (t := tb) hlt)
      have hlen := txF_len F ks tb i
      unfold natV at c0
      have Pr := Lib.hid (P.out.gr HGW.out)
      have cmr := Pr.out.map
      have hlk := Pr.out.dirty.look1 (k := (ks[i] : Int)) (by omega)
      generalize ks[i] = k at *
      generalize (F (k : Int)).getD ⟨#[]⟩ = s at *
      clear hc
      go_wp2_with (at_builtin; refine append_v (a0 := w5) (enc := Value.string) rfl _ _ 68 9 _ 16 Tryz.underlying68 info_str rfl (by omega) rfl _ _ rfl HLV.out s rfl rfl (by omega) HGR.out ?_; intro lv7 w7 hl7 hg7 _)
      refine ⟨⟨i + 1, by omega, by go_num, ?_, hg7⟩, by simp [intOf]; omega⟩
      rw [HNX.out]
      exact hl7
    · obtain rfl : i = ks.length := by omega
      have HPW := Lib.hid ((HPV5.out.gr HGR.out).row)
      have HLW : Hid (RowV Value.string wr u4 txs) := Lib.hid (by rw [HTS.out]; exact HLV.out.row)
      have HPO := Lib.hid (off_own HPV5.out (B := DB) hltD)
      have HLO := Lib.hid (off_own HLV.out (B := DB) (by have := HG5.out.size; omega))
      have Pr := Lib.hid (P.out.gr HGW.out)
      have hpl : pgs.length ≤ 2000 := by rw [HPS.out]; simp; omega
      have htl : txs.length ≤ 2000 := by rw [HTS.out]; have := txF_len F ks tb ks.length; omega
      have hel : pgs.length = txs.length := by
        rw [HPS.out, HTS.out]
        simp [txF]
      have HLGW := Lib.hid (wrsD_whole (logsE pgs txs) HW.out (logsE_ok htl HTZ.out))
      have HLGL := Lib.hid (wrsD_left (logsE pgs txs) d)
      have hlgl : (logsE pgs txs).length = txs.length + 1 := by simp [logsE]
      have HAP := Lib.hid (wrsD_append (logsE pgs txs) (settleE pgs txs) d)
      rw [← HPS.out] at HPW
      go_wp2_with fail
      refine (logs_g PB DB d pgs txs _ _ wr Pr.out.disk hne HPW.out HLW.out HPO.out HLO.out HLK.out HTZ.out htl hpl (HD.out.gr HGW.out) HW.out (by omega)).mono ?_
      rintro e w7 ⟨rfl, hd7, hg7⟩
      have hPD : ¬ (fun b => b = DB) PB := hne
      have hMD : ¬ (fun b => b = DB) M := hne2
      have P7 := Lib.hid (Pr.out.keepX hg7 hPD hMD)
      have HD7 := Lib.hid hd7
      have HG7 := Lib.hid hg7
      have c7 := P7.out.disk
      have d7 := P7.out.down
      have z7 := P7.out.free 4034
      obtain ⟨r7, hr7⟩ : ∃ r7, wrsD d (logsE pgs txs) = r7 := ⟨_, rfl⟩
      rw [hr7] at HD7 HLGW HLGL HAP ⊢
      have hgl := HLGL.out
      clear hd7 hg7 hr7
      obtain ⟨ok7, e7⟩ := r7
      cases ok7
      · have HC : Hid (wrsD d (commitE h F) = (false, e7)) := Lib.hid (by rw [HCE.out, HAP.out]; rfl)
        unfold errD
        go_wp2_with fail
        have HP8 := Lib.hid (P7.out.goDown true)
        go_ret
        rw [HC.out]
        exact ⟨rfl, DkAt.keepX (S := fun b => b = PB) HD7.out (GrX.setCell _ _ rfl) (fun e => hne e.symm), HP8.out, (((GrX.of_gr HGW.out).trans (grX_imp HG7.out fun _ h => .inr h)).trans (GrX.setCell _ _ (.inl rfl)))⟩
      · have HP7 := Lib.hid (HPW.out.keepX HG7.out HPO.out)
        have HL7 := Lib.hid (HLW.out.keepX HG7.out HLO.out)
        unfold errD
        go_wp2_with fail
        refine (settle_g DB e7 pgs txs _ _ w7 HP7.out HL7.out HPO.out HLO.out hel HLK.out HTZ.out hpl HD7.out HLGW.out (by omega)).mono ?_
        rintro e w8 ⟨rfl, hd8, hg8⟩
        have P8 := Lib.hid (P7.out.keepX hg8 hPD hMD)
        have HD8 := Lib.hid hd8
        have HG8 := Lib.hid hg8
        have d8 := P8.out.down
        have z8 := P8.out.free 4034
        obtain ⟨r8, hr8⟩ : ∃ r8, wrsD e7 (settleE pgs txs) = r8 := ⟨_, rfl⟩
        have HC : Hid (wrsD d (commitE h F) = r8) := Lib.hid (by rw [HCE.out, HAP.out]; exact hr8)
        rw [hr8] at HD8 ⊢
        clear hd8 hg8 hr8
        obtain ⟨ok8, e8⟩ := r8
        cases ok8
        · unfold errD
          go_wp2_with fail
          have HP9 := Lib.hid (P8.out.goDown true)
          go_ret
          rw [HC.out]
          exact ⟨rfl, DkAt.keepX (S := fun b => b = PB) HD8.out (GrX.setCell _ _ rfl) (fun e => hne e.symm), HP9.out, ((((GrX.of_gr HGW.out).trans (grX_imp HG7.out fun _ h => .inr h)).trans (grX_imp HG8.out fun _ h => .inr h)).trans (GrX.setCell _ _ (.inl rfl)))⟩
        · unfold errD
          have hmm := fun w => run_makeMap (P := Tryz.prog) 34 w
          have P8a := Lib.hid (P8.out.gr ((Gr.refl w8).alloc (.map #[] 0)))
          have HM8 := Lib.hid (MapAt.made w8)
          have HD8a := Lib.hid (HD8.out.gr ((Gr.refl w8).alloc (.map #[] 0)))
          have HG8a := Lib.hid ((Gr.refl w8).alloc (.map #[] 0))
          have hlt8 := P8.out.lt
          go_wp2_with (first
            | (refine wpList_load_head rfl _ rfl PB 1 _ rfl P8.out.head ?_; intro A3 hA3)
            | (refine wpList_store_head rfl _ _ rfl PB 2018 _ _ _ rfl rfl hA3.out P8a.out.saved P8a.out.free ?_; intro w9 hw9
               have HP9 := Lib.hid (reSave_of hw9 P8a.out)
               have HM9 := Lib.hid (HM8.out.keepX HP9.out.2 (show ¬ w8.heap.size = PB by omega))
               have HP10 := Lib.hid (HP9.out.1.reMap HM9.out (by omega))
               have c9 := HP9.out.1.map
               have z9 := HP9.out.1.free 2017
               have c10 := HP10.out.times
               have z10 := HP10.out.free 4035))
          have hg10 : GrX (fun k => k = PB) w9 ((w9.setCell ⟨PB, 2017, none⟩ (.map (some w8.heap.size))).setCell ⟨PB, 4035, none⟩ (.int .i64 (times + 1))) := (GrX.setCell (S := fun k => k = PB) (p := ⟨PB, 2017, none⟩) _ _ rfl).trans (GrX.setCell (S := fun k => k = PB) (p := ⟨PB, 4035, none⟩) _ _ rfl)
          have hgx := (GrX.of_gr (S := fun k => k = PB) HG8a.out).trans (HP9.out.2.trans hg10)
          have hle : w.heap.size ≤ w8.heap.size := by
            have h1 := HGW.out.size
            have h2 := HG7.out.2.2.2.1
            have h3 := HG8.out.2.2.2.1
            omega
          go_ret
          rw [HC.out]
          exact ⟨rfl, DkAt.keepX HD8.out hgx (fun e => hne e.symm), ⟨_, HP10.out.tick (times + 1), hle⟩, (((GrX.of_gr HGW.out).trans (grX_imp HG7.out fun _ h => .inr h)).trans (grX_imp HG8.out fun _ h => .inr h)).trans (grX_imp hgx fun _ h => .inl h)⟩
end Go.Proofs.YtcdoeninajpbmaaGreatDoor
