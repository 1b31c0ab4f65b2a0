/-
  The walk of TreesApart.
-/
import Derived.Test.YtmjkalpjciddbaaMg19
import Derived.Test.YtmjkalpjciddbaaMg20
namespace Go.Proofs.Ytmjkalpjciddbaa
open Go Go.RowKit

set_option maxRecDepth 100000 in
set_option maxHeartbeats 4000000 in
theorem apart_long (a b : List GPut) (va vb : Value) (w : World) (ha : PutsV w va a) (hb : PutsV w vb b) (h : 60 < a.length ∨ 60 < b.length) :
    Calls Try.prog 3 #[va, vb] w (Ret w (.bool true)) := by
  obtain ⟨aa, ca, rfl⟩ := ha.form
  obtain ⟨ab, cb, rfl⟩ := hb.form
  clear ha hb
  have h1 : decide ((60 : Int) < a.length) = true ∨ decide ((60 : Int) < a.length) = false := by cases decide ((60 : Int) < a.length) <;> simp
  have h2 : decide ((60 : Int) < b.length) = true ∨ decide ((60 : Int) < b.length) = false := by cases decide ((60 : Int) < b.length) <;> simp
  rcases h1 with h1 | h1 <;> rcases h2 with h2 | h2
  all_goals first
    | (exfalso; simp only [decide_eq_false_iff_not] at h1 h2; omega)
    | (clear h
       go_enter Try.func3, Try.ntmps3
       go_wp2_with fail
       go_ret
       exact Ret.mk rfl (Gr.refl _))
set_option maxRecDepth 100000 in
set_option maxHeartbeats 4000000 in
theorem apart_walk (a b : List GPut) (va vb : Value) (w : World) (ha : PutsV w va a) (hb : PutsV w vb b) (la : a.length ≤ 60) (lb : b.length ≤ 60) :
    Calls Try.prog 3 #[va, vb] w (Ret w (.bool true)) := by
  obtain ⟨aa, ka, rfl⟩ := ha.form
  obtain ⟨ab, kb, rfl⟩ := hb.form
  have XA := Lib.hid ha
  have XB := Lib.hid hb
  have d1 : decide ((60 : Int) < a.length) = false := by simp; omega
  have d2 : decide ((60 : Int) < b.length) = false := by simp; omega
  clear ha hb
  go_enter Try.func3, Try.ntmps3
  go_wp2_with fail
  clear d1 d2
  refine (grown_k _).mono ?_
  rintro e w1 ⟨rfl, hg1⟩
  go_wp2_with fail
  have hd := disk_made w1
  have HG1 := Lib.hid (hg1.trans ((Gr.refl w1).alloc (.cells Try.zeroCells32 32)))
  have HD1 := Lib.hid hd
  have HDB0 := hg1.size
  clear hg1 hd
  generalize (Try.zeroCells32) = Z at *
  generalize w1.alloc (.cells Z 32) = w1' at *
  generalize w1.heap.size = DB at *
  refine (open_s DB dk0 headZ _ HD1.out clean0 (by decide)).mono ?_
  rintro e w2 ⟨PB, M, rfl, hs, hle1, hle2, hgx⟩
  rw [headD_zero] at hs
  have hsz := HG1.out.size
  have HB : Hid (w.heap.size ≤ PB ∧ w.heap.size ≤ DB ∧ w.heap.size ≤ M) := Lib.hid ⟨by omega, HDB0, by omega⟩
  have hp2 : PgT w2 PB DB M (Ch.new headZ) headZ 0 dk0 := ⟨hs.mono (by omega), Ch.new_fine headZ_fine⟩
  have HP2 := Lib.hid hp2
  have HG2 := Lib.hid (hgx.gr HG1.out (fun k e => by have e2 : k = DB := e; rw [e2]; exact HDB0))
  clear hs hle1 hle2 hgx hsz HDB0 hp2
  go_wp2_with fail
  refine (at_n HP2.out (root := 0) (by omega)).mono ?_
  rintro e w3 ⟨XP, rfl, htx, hxl, hg3⟩
  have hlt := HP2.out.lt
  have hXn : XP ≠ PB ∧ XP ≠ DB ∧ XP ≠ M := by omega
  have HP3 := Lib.hid (HP2.out.gr hg3)
  have HG3 := Lib.hid (HG2.out.trans hg3)
  have HX3 := Lib.hid htx
  have hs3 := hg3.size
  clear htx hg3
  go_wp2_with fail
  refine (at_n HP3.out (root := 5) (by omega)).mono ?_
  rintro e w4 ⟨YP, rfl, hty, hyl, hg4⟩
  have hYn : YP ≠ PB ∧ YP ≠ DB ∧ YP ≠ M := by omega
  have HP4 := Lib.hid (HP3.out.gr hg4)
  have HG4 := Lib.hid (HG3.out.trans hg4)
  have HX4 := Lib.hid (HX3.out.gr hg4)
  have HY4 := Lib.hid hty
  clear hty hg4 hxl hyl hs3
  have h0x : Tr.lays (Ch.new headZ) dk0.pg 0 none := rfl
  have h0y : Tr.lays (Ch.new headZ) dk0.pg 5 none := rfl
  have h0 : TwoTr dk0.pg (Ch.new headZ) 0 5 none none := ⟨Ch.new_fine headZ_fine, h0x, h0y, fun k hk => by cases hk⟩
  have HTW0 := Lib.hid h0
  clear h0x h0y h0
  go_wp2_with fail
  refine (acts_k HP4.out HX4.out hXn (root := 0) (by omega) HTW0.out.x XA.out HG4.out HB.out (by omega)).mono ?_
  rintro e w5 ⟨rfl, c1, X1, hp, hk, hf⟩
  have HTW1 := Lib.hid (HTW0.out.act (by omega) hk)
  have HP5 := Lib.hid hp
  have HX5 := Lib.hid (HX4.out.pg hf hXn.1 hXn.2.1 hXn.2.2)
  have HY5 := Lib.hid (HY4.out.pg hf hYn.1 hYn.2.1 hYn.2.2)
  have HG5 := Lib.hid (hf.old HG4.out HB.out)
  clear hp hk hf
  go_wp2_with fail
  refine (pairs_n HP5.out HX5.out (root := 0) (by omega) HTW1.out.x).mono ?_
  rintro e w6 ⟨rfl, hg⟩
  obtain ⟨WAS, hWAS⟩ : ∃ WAS, pairsB (walkR X1 noB) = WAS := ⟨_, rfl⟩
  rw [hWAS]
  have HWAS := Lib.hid hWAS
  clear hWAS
  have HP6 := Lib.hid (HP5.out.gr hg)
  have HX6 := Lib.hid (HX5.out.gr hg)
  have HY6 := Lib.hid (HY5.out.gr hg)
  have HG6 := Lib.hid (HG5.out.trans hg)
  clear hg
  go_wp2_with fail
  refine (acts_k HP6.out HY6.out hYn (root := 5) (by omega) HTW1.out.y XB.out HG6.out HB.out (by omega)).mono ?_
  rintro e w7 ⟨rfl, c2, Y2, hp, hk, hf⟩
  have HTW2 := Lib.hid ((HTW1.out.swap.act (by omega) hk).swap)
  have HP7 := Lib.hid hp
  have HX7 := Lib.hid (HX6.out.pg hf hXn.1 hXn.2.1 hXn.2.2)
  have HY7 := Lib.hid (HY6.out.pg hf hYn.1 hYn.2.1 hYn.2.2)
  have HG7 := Lib.hid (hf.old HG6.out HB.out)
  clear hp hk hf
  go_wp2_with fail
  refine (pairs_n HP7.out HX7.out (root := 0) (by omega) HTW2.out.x).mono ?_
  rintro e w8 ⟨rfl, hg⟩
  rw [HWAS.out]
  have HP8 := Lib.hid (HP7.out.gr hg)
  have HX8 := Lib.hid (HX7.out.gr hg)
  have HY8 := Lib.hid (HY7.out.gr hg)
  have HG8 := Lib.hid (HG7.out.trans hg)
  clear hg
  go_wp2_with fail
  refine (pairs_n HP8.out HY8.out (root := 5) (by omega) HTW2.out.y).mono ?_
  rintro e w9 ⟨rfl, hg⟩
  obtain ⟨ALSO, hALSO⟩ : ∃ ALSO, pairsB (walkR Y2 noB) = ALSO := ⟨_, rfl⟩
  rw [hALSO]
  have HALSO := Lib.hid hALSO
  clear hALSO
  have HP9 := Lib.hid (HP8.out.gr hg)
  have HX9 := Lib.hid (HX8.out.gr hg)
  have HY9 := Lib.hid (HY8.out.gr hg)
  have HG9 := Lib.hid (HG8.out.trans hg)
  clear hg
  go_wp2_with fail
  refine (mark_s HP9.out.s).mono ?_
  rintro e w10 ⟨MK, nK, rfl, hnK, hmk, hleK, hg⟩
  have HP10 := Lib.hid (HP9.out.gr hg)
  have HX10 := Lib.hid (HX9.out.gr hg)
  have HY10 := Lib.hid (HY9.out.gr hg)
  have HG10 := Lib.hid (HG9.out.trans hg)
  have HMK := Lib.hid hmk
  have hltK := hmk.lt
  have hlt9 := HP9.out.lt
  have hltX := lt_of_cell HX10.out.p
  have hltY := lt_of_cell HY10.out.p
  obtain ⟨CM, hCM⟩ : ∃ A : Array Value, A = (markCells c2.h (some MK) 0).toArray := ⟨_, rfl⟩
  rw [← hCM]
  have HCM := Lib.hid hCM
  have hsz10 := hg.size
  clear hCM hg hmk
  have hga : Gr w10 (w10.alloc (.cells Try.zeroCells48 48)) := (Gr.refl w10).alloc _
  have hth : (w10.alloc (.cells Try.zeroCells48 48)).there w10.heap.size 0 2018 := fun j hj => by
    constructor
    · rw [World.cell?_alloc_new, Array.getElem?_eq_getElem (by rw [zero_mark_size]; omega)]
      rfl
    · simp
  have HTH := Lib.hid hth
  clear hth
  go_wp2_with (refine wpList_store_mark rfl _ _ rfl w10.heap.size c2.h (some MK) 0 CM rfl rfl HCM.out HTH.out ?_; intro w11 hr11 hg11; have HR11 := Lib.hid hr11; have HGX11 := Lib.hid hg11; clear hr11 hg11)
  have hp11 := (HP10.out.gr hga).keepX HGX11.out (by omega) (by omega) (by omega)
  have HMK11 := Lib.hid ((HMK.out.gr hga).keepX HGX11.out (show ¬ MK = w10.heap.size by omega))
  have HP11 := Lib.hid hp11
  have HX11 := Lib.hid ((HX10.out.gr hga).keepX HGX11.out (by omega))
  have HY11 := Lib.hid ((HY10.out.gr hga).keepX HGX11.out (by omega))
  have HG11 := Lib.hid (HGX11.out.gr (HG10.out.trans hga) (fun k e => by have e2 : k = w10.heap.size := e; rw [e2]; exact HG10.out.size))
  have hl11 : w10.heap.size < w11.heap.size := by
    have h1 := HGX11.out.2.2.2.1
    simp at h1
    omega
  have HK11 : Hid (KeepM w11 PB DB M w10.heap.size MK nK (markCells c2.h (some MK) 0) c2.F) := Lib.hid ⟨HR11.out, HMK11.out, hl11, by omega, by omega, by omega, by omega, by omega, by omega⟩
  clear HTH HR11 HGX11 hga HMK hltK hsz10 HMK11 hl11 hlt9 hleK hp11 hltX hltY
  generalize w10.heap.size = MB at *
  refine (acts_k HP11.out HX11.out hXn (root := 0) (by omega) HTW2.out.x XB.out HG11.out HB.out (by omega)).mono ?_
  rintro e w12 ⟨rfl, c3, X3, hp, hk, hf⟩
  have HTW3 := Lib.hid (HTW2.out.act (by omega) hk)
  have HP12 := Lib.hid hp
  have HX12 := Lib.hid (HX11.out.pg hf hXn.1 hXn.2.1 hXn.2.2)
  have HY12 := Lib.hid (HY11.out.pg hf hYn.1 hYn.2.1 hYn.2.2)
  have HG12 := Lib.hid (hf.old HG11.out HB.out)
  have HK12 := Lib.hid (HK11.out.step hf)
  clear hp hk hf
  go_wp2_with fail
  refine (pairs_n HP12.out HY12.out (root := 5) (by omega) HTW3.out.y).mono ?_
  rintro e w13 ⟨rfl, hg⟩
  rw [HALSO.out]
  have HP13 := Lib.hid (HP12.out.gr hg)
  have HX13 := Lib.hid (HX12.out.gr hg)
  have HY13 := Lib.hid (HY12.out.gr hg)
  have HG13 := Lib.hid (HG12.out.trans hg)
  have HK13 := Lib.hid (HK12.out.step (PgF.of_gr PB DB M hg))
  clear hg
  go_wp2_with fail
  refine (acts_k HP13.out HY13.out hYn (root := 5) (by omega) HTW3.out.y XA.out HG13.out HB.out (by omega)).mono ?_
  rintro e w14 ⟨rfl, c4, Y4, hp, hk, hf⟩
  have HTW4 := Lib.hid ((HTW3.out.swap.act (by omega) hk).swap)
  have HP14 := Lib.hid hp
  have HX14 := Lib.hid (HX13.out.pg hf hXn.1 hXn.2.1 hXn.2.2)
  have HY14 := Lib.hid (HY13.out.pg hf hYn.1 hYn.2.1 hYn.2.2)
  have HG14 := Lib.hid (hf.old HG13.out HB.out)
  have HK14 := Lib.hid (HK13.out.step hf)
  clear hp hk hf
  go_wp2_with fail
  refine (clear_n HP14.out HX14.out hXn (root := 0) (by omega) HTW4.out.x).mono ?_
  rintro e w15 ⟨rfl, hp, hf⟩
  have HTW5 := Lib.hid (HTW4.out.act (by omega) (clearR_ok (i := 0) HTW4.out.fine HTW4.out.x))
  have HP15 := Lib.hid hp
  have HX15 := Lib.hid (HX14.out.pg hf hXn.1 hXn.2.1 hXn.2.2)
  have HY15 := Lib.hid (HY14.out.pg hf hYn.1 hYn.2.1 hYn.2.2)
  have HG15 := Lib.hid (hf.old HG14.out HB.out)
  have HK15 := Lib.hid (HK14.out.step hf)
  clear hp hf
  go_wp2_with fail
  refine (pairs_n HP15.out HX15.out (root := 0) (by omega) HTW5.out.x).mono ?_
  rintro e w16 ⟨rfl, hg⟩
  have hem : pairsB (walkR none noB) = ⟨#[]⟩ := rfl
  rw [hem]
  have HP16 := Lib.hid (HP15.out.gr hg)
  have HX16 := Lib.hid (HX15.out.gr hg)
  have HY16 := Lib.hid (HY15.out.gr hg)
  have HG16 := Lib.hid (HG15.out.trans hg)
  have HK16 := Lib.hid (HK15.out.step (PgF.of_gr PB DB M hg))
  clear hg hem
  have hbk := back_s HP16.out.s c2.h MK nK c2.F HK16.out.map
  go_wp2_with (refine wpList_load_mark rfl _ rfl MB c2.h (some MK) 0 rfl HK16.out.rng ?_; intro A17 hA17)
  rw [← hA17.out] at hbk
  refine hbk.mono ?_
  rintro e w17 ⟨rfl, M17, hs, hf⟩
  have hs2 : PgS w17 PB DB M17 nK c2 headZ 0 dk0 := hs
  have hsm : PgS w17 PB DB M17 2000 c2 headZ 0 dk0 := hs2.small HTW2.out.fine
  have HP17 : Hid (PgT w17 PB DB M17 c2 headZ 0 dk0) := Lib.hid ⟨hsm, HTW2.out.fine⟩
  have HX17 := Lib.hid (HX16.out.pg hf hXn.1 hXn.2.1 hXn.2.2)
  have HY17 := Lib.hid (HY16.out.pg hf hYn.1 hYn.2.1 hYn.2.2)
  have HG17 : Hid (Gr w w17) := Lib.hid (hf.gr HG16.out HB.out.1 HB.out.2.1 HB.out.2.2).1
  clear hs hs2 hsm hf hbk
  go_wp2_with fail
  refine (pairs_n HP17.out HX17.out (root := 0) (by omega) HTW2.out.x).mono ?_
  rintro e w18 ⟨rfl, hg⟩
  rw [HWAS.out]
  have HP18 := Lib.hid (HP17.out.gr hg)
  have HX18 := Lib.hid (HX17.out.gr hg)
  have HY18 := Lib.hid (HY17.out.gr hg)
  have HG18 := Lib.hid (HG17.out.trans hg)
  clear hg
  go_wp2_with fail
  refine (pairs_n HP18.out HY18.out (root := 5) (by omega) HTW2.out.y).mono ?_
  rintro e w19 ⟨rfl, hg⟩
  rw [HALSO.out]
  have HP19 := Lib.hid (HP18.out.gr hg)
  have HX19 := Lib.hid (HX18.out.gr hg)
  have HY19 := Lib.hid (HY18.out.gr hg)
  have HG19 := Lib.hid (HG18.out.trans hg)
  clear hg
  go_wp2_with fail
  go_ret
  exact Ret.mk rfl HG19.out
theorem apart_all (a b : List GPut) (va vb : Value) (w : World) (ha : PutsV w va a) (hb : PutsV w vb b) :
    Calls Try.prog 3 #[va, vb] w (Ret w (.bool true)) := by
  by_cases h : 60 < a.length ∨ 60 < b.length
  · exact apart_long a b va vb w ha hb h
  · exact apart_walk a b va vb w ha hb (by omega) (by omega)
end Go.Proofs.Ytmjkalpjciddbaa
