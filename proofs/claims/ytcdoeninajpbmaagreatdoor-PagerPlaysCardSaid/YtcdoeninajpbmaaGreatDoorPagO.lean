/-
  The contract of pager.Open.
-/
import Derived.Test.YtcdoeninajpbmaaGreatDoorPagM
namespace Go.Proofs.YtcdoeninajpbmaaGreatDoor
open Go Go.RowKit

set_option maxRecDepth 100000 in
theorem built_pager (p : Option Addr) (m : Option Nat) : Tryz.prog.built 66 [(0, .pointer p), (2, .map m)] = some ((Tryz.zeroCells66.setIfInBounds 0 (.pointer p)).setIfInBounds 2017 (.map m)) := by kernel_rfl
/-- A new pager's cells, all of noughts. -/
def zeroP : List Value := [.pointer none] ++ (List.replicate 2000 (.bool false) ++ (List.replicate 16 (.int .i64 0) ++ ([.map none] ++ (List.replicate 2000 (.bool false) ++ (List.replicate 16 (.int .i64 0) ++ [.bool false, .int .i64 0])))))
set_option maxRecDepth 100000 in
theorem zeroPager : Tryz.zeroCells66.toList = zeroP := by kernel_rfl
theorem zeroP_len : zeroP.length = 4036 := by simp only [zeroP, List.length_append, List.length_replicate, List.length_cons, List.length_nil]
theorem zero_size : Tryz.zeroCells66.size = 4036 := by rw [← Array.length_toList, zeroPager, zeroP_len]
theorem new_at {Z : Array Value} (hZ : Z.toList = zeroP) (DB M : Nat) {k : Nat} {v : Value} (h : zeroP[k]? = some v) (h0 : k ≠ 0) (h1 : k ≠ 2017) : ((Z.setIfInBounds 0 (.pointer (some ⟨DB, 0, none⟩))).setIfInBounds 2017 (.map (some M)))[k]? = some v := by
  rw [Array.getElem?_setIfInBounds_ne (by omega), Array.getElem?_setIfInBounds_ne (by omega), ← Array.getElem?_toList, hZ]
  exact h
theorem pager_new (w : World) (DB M : Nat) (hM : M < w.heap.size) (t : TypeId) (hm : MapAt w M 0 fun _ => none) {Z : Array Value} (hZ : Z.toList = zeroP) :
    PagerAt (w.alloc (.cells ((Z.setIfInBounds 0 (.pointer (some ⟨DB, 0, none⟩))).setIfInBounds 2017 (.map (some M))) t)) w.heap.size DB M 0 head0 head0 (fun _ => none) false 0 := by
  have hs : Z.size = 4036 := by rw [← Array.length_toList, hZ, zeroP_len]
  have h0 : ((Z.setIfInBounds 0 (.pointer (some ⟨DB, 0, none⟩))).setIfInBounds 2017 (.map (some M)))[0]? = some (.pointer (some ⟨DB, 0, none⟩)) := by
    rw [Array.getElem?_setIfInBounds_ne (by omega), Array.getElem?_setIfInBounds_self_of_lt (by omega)]
  have h1 : ((Z.setIfInBounds 0 (.pointer (some ⟨DB, 0, none⟩))).setIfInBounds 2017 (.map (some M)))[2017]? = some (.map (some M)) := by
    rw [Array.getElem?_setIfInBounds_self_of_lt (by rw [Array.size_setIfInBounds]; omega)]
  have hn := fun k v h h0 h1 => new_at hZ DB M (k := k) (v := v) h h0 h1
  generalize (Z.setIfInBounds 0 (.pointer (some ⟨DB, 0, none⟩))).setIfInBounds 2017 (.map (some M)) = C at *
  have hc : ∀ k v, C[k]? = some v → (w.alloc (.cells C t)).cell? ⟨w.heap.size, k, none⟩ = some v := fun k v h => by rw [World.cell?_alloc_new]; exact h
  refine ⟨hc _ _ h0, ⟨fun i hi => ?_, fun i hi => ?_, fun i hi => ?_⟩, hc _ _ h1, ⟨fun i hi => ?_, fun i hi => ?_, fun i hi => ?_⟩, ?_, ?_, fun o => by simp, hm.gr ((Gr.refl w).alloc _), by omega⟩
  all_goals refine hc _ _ (hn _ _ ?_ (by omega) (by omega))
  all_goals simp only [zeroP, List.getElem?_append, List.getElem?_replicate, List.length_cons, List.length_nil, List.length_replicate, head0]
  all_goals (repeat' split)
  all_goals first | omega | rfl | skip
set_option maxRecDepth 100000 in
theorem open_nil (w : World) : Calls Tryz.prog 4 #[.pointer none] w (Ret w (.tuple #[.pointer none, .iface 33 (.int .i64 7)])) := by
  go_enter Tryz.func4, Tryz.ntmps4
  go_wp2_with fail
  go_ret2
  exact Ret.mk rfl (Gr.refl _)
/-- What opening leaves. -/
def Opened (DB : Nat) (d : Dk) (w : World) (e : Ending) (w' : World) : Prop :=
  DkAt w' DB (wrsD d (openE d.pg)).2 ∧ GrX (fun b => b = DB) w w' ∧
    if (wrsD d (openE d.pg)).1 then ∃ PB M, e = .returned (.tuple #[.pointer (some ⟨PB, 0, none⟩), .nilIface]) ∧ PagerAt w' PB DB M 0 (headD (wrsD d (openE d.pg)).2.pg) (headD (wrsD d (openE d.pg)).2.pg) (fun _ => none) false 0 ∧ w.heap.size ≤ PB ∧ w.heap.size ≤ M
    else e = .returned (.tuple #[.pointer none, .iface 33 (.int .i64 14)])
set_option maxRecDepth 100000 in
set_option maxHeartbeats 1600000 in
theorem open_g (DB : Nat) (d : Dk) (w : World) (hd : DkAt w DB d) (hw : d.whole) (hl : -890000 ≤ d.left ∧ d.left ≤ 1000000) :
    Calls Tryz.prog 4 #[.pointer (some ⟨DB, 0, none⟩)] w (Opened DB d w) := by
  have HD := Lib.hid hd
  have HW := Lib.hid hw
  have hltD := hd.lt
  clear hd hw
  have hmm := fun w => run_makeMap (P := Tryz.prog) 34 w
  have HN : Hid (PagerAt ((w.alloc (.map #[] 0)).alloc (.cells ((Tryz.zeroCells66.setIfInBounds 0 (.pointer (some ⟨DB, 0, none⟩))).setIfInBounds 2017 (.map (some w.heap.size))) 66)) (w.heap.size + 1) DB w.heap.size 0 head0 head0 (fun _ => none) false 0) := Lib.hid (by
    have := pager_new (w.alloc (.map #[] 0)) DB w.heap.size (by simp) 66 (MapAt.made w) zeroPager
    simpa using this)
  go_enter Tryz.func4, Tryz.ntmps4
  go_wp2_with fail
  generalize ((Tryz.zeroCells66.setIfInBounds 0 (.pointer (some ⟨DB, 0, none⟩))).setIfInBounds 2017 (.map (some w.heap.size))) = Z at *
  have hg1 : Gr w ((w.alloc (.map #[] 0)).alloc (.cells Z 66)) := ((Gr.refl w).alloc _).alloc _
  generalize (w.alloc (.map #[] 0)).alloc (.cells Z 66) = w1 at *
  have HG1 := Lib.hid hg1
  have HD1 := Lib.hid (HD.out.gr hg1)
  clear hg1
  have hPB : ¬ (fun b => b = DB) (w.heap.size + 1) := fun e => absurd e (by omega)
  have hMB : ¬ (fun b => b = DB) w.heap.size := fun e => absurd e (by omega)
  refine (logged_g DB d w1 HD1.out HW.out).mono ?_
  rintro e w2 ⟨pv, lv, rfl, hrp, hrl, hop, hol, hg2⟩
  obtain ⟨po, pc, rfl⟩ := hrp.form
  have N2 := Lib.hid (HN.out.gr hg2)
  have HD2 := Lib.hid (HD1.out.gr hg2)
  have HG2 := Lib.hid (HG1.out.trans hg2)
  have HRP := Lib.hid hrp
  have HRL := Lib.hid hrl
  have HOP := Lib.hid hop
  have HOL := Lib.hid hol
  have HLL := Lib.hid (logged_len d.pg)
  have HLP := Lib.hid (loggedP_lt d.pg)
  have HLS := Lib.hid (loggedL_sz HW.out)
  have HLN : Hid ((loggedP d.pg).length ≤ 2000) := Lib.hid (by
    have h1 := logPs_len d.pg
    unfold loggedP
    split
    · exact h1
    · exact Nat.zero_le _)
  have HOE : Hid (openE d.pg = if loggedP d.pg = [] then [] else settleE (loggedP d.pg) (loggedL d.pg)) := Lib.hid rfl
  have HOK := Lib.hid (openE_ok HW.out)
  have HOW : Hid ((wrsD d (openE d.pg)).2.whole) := Lib.hid (wrsD_whole _ HW.out HOK.out)
  clear hrp hrl hop hol hg2
  generalize loggedP d.pg = ps at *
  generalize loggedL d.pg = L at *
  cases ps with
  | nil =>
    have HE : Hid (wrsD d (openE d.pg) = (true, d)) := Lib.hid (by rw [HOE.out, if_pos rfl]; rfl)
    have HGX := Lib.hid (GrX.of_gr (S := fun b => b = DB) HG2.out)
    have hr0 : ∀ w, DkAt w DB d → Calls Tryz.prog 23 #[.pointer (some ⟨DB, 0, none⟩), .int .i64 0] w (Ret w (.tuple #[.string (pgGet d.pg 0), .nilIface])) := fun w h => read_d DB d.pg d.cut d.left d.torn 0 (by omega) w h
    have hsz : (pgGet d.pg 0).size = 1024 := HW.out 0 (by omega)
    obtain ⟨A, hA0⟩ : ∃ A : Array Value, A = (headD d.pg).cells.toArray := ⟨_, rfl⟩
    have hrd : ∀ w, Calls Tryz.prog 24 #[.string (pgGet d.pg 0)] w (Ret w (.agg A)) := fun w => by rw [hA0]; exact reads_g (pgGet d.pg 0) hsz w
    have hA := Lib.hid hA0
    clear hA0 hsz
    have HHH0 : ∃ hh, headD d.pg = hh := ⟨_, rfl⟩
    obtain ⟨hh, hhe⟩ := HHH0
    rw [hhe] at hA
    have HHH := Lib.hid hhe
    clear hhe
    generalize pgGet d.pg 0 = s0 at *
    go_wp2_with fail
    refine (hr0 _ HD2.out).mono ?_
    rintro e w4 ⟨rfl, hg4⟩
    have N4 := Lib.hid (N2.out.gr hg4)
    have HD4 := Lib.hid (HD2.out.gr hg4)
    have HG4 := Lib.hid (HGX.out.trans (GrX.of_gr hg4))
    go_wp2_with (first
      | (go_at_call 24; refine (hrd _).mono ?_; rintro e w5 ⟨rfl, hg5⟩
         have N5 := Lib.hid (N4.out.gr hg5)
         have HD5 := Lib.hid (HD4.out.gr hg5)
         have HG5 := Lib.hid (HG4.out.trans (GrX.of_gr hg5)))
      | (refine wpList_store_head rfl _ _ rfl (w.heap.size + 1) 1 _ _ _ rfl rfl hA.out N5.out.head N5.out.free ?_; intro w6 hw6
         have HN6 := Lib.hid (reHead_of hw6 N5.out))
      | (refine wpList_load_head rfl _ rfl (w.heap.size + 1) 1 _ rfl HN6.out.1.head ?_; intro A3 hA3)
      | (refine wpList_store_head rfl _ _ rfl (w.heap.size + 1) 2018 _ _ _ rfl rfl hA3.out HN6.out.1.saved HN6.out.1.free ?_; intro w7 hw7
         have HN7 := Lib.hid (reSave_of hw7 HN6.out.1)))
    go_ret2
    rw [Opened, HE.out]
    have HPF := HN7.out.1
    rw [← HHH.out] at HPF
    have hgx := HN6.out.2.trans HN7.out.2
    have hgw : GrX (fun k => k = DB ∨ k = w.heap.size + 1) w w7 := (grX_imp HG5.out fun _ h => .inl h).trans (grX_imp hgx fun _ h => .inr h)
    refine ⟨HD5.out.keepX hgx (fun e => by omega), ⟨hgw.1, hgw.2.1, hgw.2.2.1, hgw.2.2.2.1, fun k hk hs => hgw.2.2.2.2 k hk (fun e => e.elim hs (fun e => by omega))⟩, ?_⟩
    exact ⟨w.heap.size + 1, w.heap.size, rfl, HPF, by omega, Nat.le_refl _⟩
  | cons p0 ps0 =>
    have hlen : (p0 :: ps0).length = ps0.length + 1 := rfl
    rw [hlen] at HRP ⊢
    have hln := HLN.out
    rw [hlen] at hln
    go_wp2_with fail
    refine (settle_g DB d (p0 :: ps0) L _ _ w2 HRP.out HRL.out HOP.out HOL.out HLL.out HLP.out HLS.out HLN.out HD2.out HW.out (by omega)).mono ?_
    rintro e w3 ⟨rfl, hd3, hg3⟩
    have HE0 : Hid (openE d.pg = settleE (p0 :: ps0) L) := Lib.hid (by rw [HOE.out, if_neg (by simp)])
    rw [← HE0.out] at hd3 ⊢
    have HD3 := Lib.hid hd3
    have N3 := Lib.hid (N2.out.keepX hg3 hPB hMB)
    have HGX := Lib.hid ((GrX.of_gr (S := fun b => b = DB) HG2.out).trans hg3)
    clear hd3 hg3
    obtain ⟨r3, hr3⟩ : ∃ r3, wrsD d (openE d.pg) = r3 := ⟨_, rfl⟩
    have HE := Lib.hid hr3
    rw [hr3] at HD3 HOW ⊢
    clear hr3
    obtain ⟨ok3, d3⟩ := r3
    cases ok3
    · unfold errD
      go_wp2_with fail
      go_ret2
      rw [Opened, HE.out]
      exact ⟨HD3.out, HGX.out, rfl⟩
    · unfold errD
      have hr0 : ∀ w, DkAt w DB d3 → Calls Tryz.prog 23 #[.pointer (some ⟨DB, 0, none⟩), .int .i64 0] w (Ret w (.tuple #[.string (pgGet d3.pg 0), .nilIface])) := fun w h => read_d DB d3.pg d3.cut d3.left d3.torn 0 (by omega) w h
      have hsz : (pgGet d3.pg 0).size = 1024 := HOW.out 0 (by omega)
      obtain ⟨A, hA0⟩ : ∃ A : Array Value, A = (headD d3.pg).cells.toArray := ⟨_, rfl⟩
      have hrd : ∀ w, Calls Tryz.prog 24 #[.string (pgGet d3.pg 0)] w (Ret w (.agg A)) := fun w => by rw [hA0]; exact reads_g (pgGet d3.pg 0) hsz w
      have hA := Lib.hid hA0
      clear hA0 hsz
      have HHH0 : ∃ hh, headD d3.pg = hh := ⟨_, rfl⟩
      obtain ⟨hh, hhe⟩ := HHH0
      rw [hhe] at hA
      have HHH := Lib.hid hhe
      clear hhe
      generalize pgGet d3.pg 0 = s0 at *
      go_wp2_with fail
      refine (hr0 _ HD3.out).mono ?_
      rintro e w4 ⟨rfl, hg4⟩
      have N4 := Lib.hid (N3.out.gr hg4)
      have HD4 := Lib.hid (HD3.out.gr hg4)
      have HG4 := Lib.hid (HGX.out.trans (GrX.of_gr hg4))
      go_wp2_with (first
        | (go_at_call 24; refine (hrd _).mono ?_; rintro e w5 ⟨rfl, hg5⟩
           have N5 := Lib.hid (N4.out.gr hg5)
           have HD5 := Lib.hid (HD4.out.gr hg5)
           have HG5 := Lib.hid (HG4.out.trans (GrX.of_gr hg5)))
        | (refine wpList_store_head rfl _ _ rfl (w.heap.size + 1) 1 _ _ _ rfl rfl hA.out N5.out.head N5.out.free ?_; intro w6 hw6
           have HN6 := Lib.hid (reHead_of hw6 N5.out))
        | (refine wpList_load_head rfl _ rfl (w.heap.size + 1) 1 _ rfl HN6.out.1.head ?_; intro A3 hA3)
        | (refine wpList_store_head rfl _ _ rfl (w.heap.size + 1) 2018 _ _ _ rfl rfl hA3.out HN6.out.1.saved HN6.out.1.free ?_; intro w7 hw7
           have HN7 := Lib.hid (reSave_of hw7 HN6.out.1)))
      go_ret2
      rw [Opened, HE.out]
      have HPF := HN7.out.1
      rw [← HHH.out] at HPF
      have hgx := HN6.out.2.trans HN7.out.2
      have hgw : GrX (fun k => k = DB ∨ k = w.heap.size + 1) w w7 := (grX_imp HG5.out fun _ h => .inl h).trans (grX_imp hgx fun _ h => .inr h)
      refine ⟨HD5.out.keepX hgx (fun e => by omega), ⟨hgw.1, hgw.2.1, hgw.2.2.1, hgw.2.2.2.1, fun k hk hs => hgw.2.2.2.2 k hk (fun e => e.elim hs (fun e => by omega))⟩, ?_⟩
      exact ⟨w.heap.size + 1, w.heap.size, rfl, HPF, by omega, Nat.le_refl _⟩
end Go.Proofs.YtcdoeninajpbmaaGreatDoor
