/-
  The contract of pager.Open.
-/
import Derived.Test.YtmjkalpjciddbaaMg9
import Derived.Test.YtmjkalpjciddbaaMg5
import Derived.Test.YtmjkalpjciddbaaTnJ
namespace Go.Proofs.Ytmjkalpjciddbaa
open Go Go.RowKit

set_option maxRecDepth 100000 in
theorem built_pager (p : Option Addr) (m : Option Nat) : Try.prog.built 58 [(0, .pointer p), (2, .map m)] = some ((Try.zeroCells58.setIfInBounds 0 (.pointer p)).setIfInBounds 2017 (.map m)) := by kernel_rfl
/-- A new pager's cells, all of noughts. -/
def zeroP : List Value := [.pointer none] ++ (List.replicate 2000 (.bool false) ++ (List.replicate 16 (.int .i64 0) ++ ([.map none] ++ (List.replicate 2000 (.bool false) ++ (List.replicate 16 (.int .i64 0) ++ [.bool false, .int .i64 0])))))
set_option maxRecDepth 100000 in
theorem zeroPager : Try.zeroCells58.toList = zeroP := by kernel_rfl
theorem zeroP_len : zeroP.length = 4036 := by simp only [zeroP, List.length_append, List.length_replicate, List.length_cons, List.length_nil]
theorem zero_size : Try.zeroCells58.size = 4036 := by rw [← Array.length_toList, zeroPager, zeroP_len]
theorem new_at {Z : Array Value} (hZ : Z.toList = zeroP) (DB M : Nat) {k : Nat} {v : Value} (h : zeroP[k]? = some v) (h0 : k ≠ 0) (h1 : k ≠ 2017) : ((Z.setIfInBounds 0 (.pointer (some ⟨DB, 0, none⟩))).setIfInBounds 2017 (.map (some M)))[k]? = some v := by
  rw [Array.getElem?_setIfInBounds_ne (by omega), Array.getElem?_setIfInBounds_ne (by omega), ← Array.getElem?_toList, hZ]
  exact h
theorem pager_new (w : World) (DB M : Nat) (hM : M < w.heap.size) (t : TypeId) (hm : MapAt w M 0 fun _ => none) {Z : Array Value} (hZ : Z.toList = zeroP) :
    PagerAt (w.alloc (.cells ((Z.setIfInBounds 0 (.pointer (some ⟨DB, 0, none⟩))).setIfInBounds 2017 (.map (some M))) t)) w.heap.size DB M 0 head0 head0 (fun _ => none) false 0 := by
  have hs : Z.size = 4036 := by rw [← Array.length_toList, hZ, zeroP_len]
  have h0 : ((Z.setIfInBounds 0 (.pointer (some ⟨DB, 0, none⟩))).setIfInBounds 2017 (.map (some M)))[0]? = some (.pointer (some ⟨DB, 0, none⟩)) := by
    rw [Array.getElem?_setIfInBounds_ne (by omega), Array.getElem?_setIfInBounds_self_of_lt (by omega)]
  have h1 : ((Z.setIfInBounds 0 (.pointer (some ⟨DB, 0, none⟩))).setIfInBounds 2017 (.map (some M)))[2017]? = some (.map (some M)) := by
    rw [Array.getElem?_setIfInBounds_self_of_lt (by rw [Array.size_setIfInBounds]; omega)]
  have hn := fun k v h h0 h1 => new_at hZ DB M (k := k) (v := v) h h0 h1
  generalize (Z.setIfInBounds 0 (.pointer (some ⟨DB, 0, none⟩))).setIfInBounds 2017 (.map (some M)) = C at *
  have hc : ∀ k v, C[k]? = some v → (w.alloc (.cells C t)).cell? ⟨w.heap.size, k, none⟩ = some v := fun k v h => by rw [World.cell?_alloc_new]; exact h
  refine ⟨hc _ _ h0, ⟨fun i hi => ?_, fun i hi => ?_, fun i hi => ?_⟩, hc _ _ h1, ⟨fun i hi => ?_, fun i hi => ?_, fun i hi => ?_⟩, ?_, ?_, fun o => by simp, hm.gr ((Gr.refl w).alloc _), by omega⟩
  all_goals refine hc _ _ (hn _ _ ?_ (by omega) (by omega))
  all_goals simp only [zeroP, List.getElem?_append, List.getElem?_replicate, List.length_cons, List.length_nil, List.length_replicate, head0]
  all_goals (repeat' split)
  all_goals first | omega | rfl | skip
set_option maxRecDepth 100000 in
theorem open_nil (w : World) : Calls Try.prog 5 #[.pointer none] w (Ret w (.tuple #[.pointer none, .iface 56 (.int .i64 7)])) := by
  go_enter Try.func5, Try.ntmps5
  go_wp2_with fail
  go_ret2
  exact Ret.mk rfl (Gr.refl _)
/-- What opening leaves. -/
def Opened (DB : Nat) (d : Dk) (w : World) (e : Ending) (w' : World) : Prop :=
  DkAt w' DB (wrsD d (openE d.pg)).2 ∧ GrX (fun b => b = DB) w w' ∧
    if (wrsD d (openE d.pg)).1 then ∃ PB M, e = .returned (.tuple #[.pointer (some ⟨PB, 0, none⟩), .nilIface]) ∧ PagerAt w' PB DB M 0 (headD (wrsD d (openE d.pg)).2.pg) (headD (wrsD d (openE d.pg)).2.pg) (fun _ => none) false 0 ∧ w.heap.size ≤ PB ∧ w.heap.size ≤ M
    else e = .returned (.tuple #[.pointer none, .iface 56 (.int .i64 14)])
set_option maxRecDepth 100000 in
set_option maxHeartbeats 1600000 in
theorem open_g (DB : Nat) (d : Dk) (w : World) (hd : DkAt w DB d) (hw : d.whole) (hl : -890000 ≤ d.left ∧ d.left ≤ 1000000) :
    Calls Try.prog 5 #[.pointer (some ⟨DB, 0, none⟩)] w (Opened DB d w) := by
  have HD := Lib.hid hd
  have HW := Lib.hid hw
  have hltD := hd.lt
  clear hd hw
  have hmm := fun w => run_makeMap (P := Try.prog) 46 w
  have HN : Hid (PagerAt ((w.alloc (.map #[] 0)).alloc (.cells ((Try.zeroCells58.setIfInBounds 0 (.pointer (some ⟨DB, 0, none⟩))).setIfInBounds 2017 (.map (some w.heap.size))) 58)) (w.heap.size + 1) DB w.heap.size 0 head0 head0 (fun _ => none) false 0) := Lib.hid (by
    have := pager_new (w.alloc (.map #[] 0)) DB w.heap.size (by simp) 58 (MapAt.made w) zeroPager
    simpa using this)
  go_enter Try.func5, Try.ntmps5
  go_wp2_with fail
  generalize ((Try.zeroCells58.setIfInBounds 0 (.pointer (some ⟨DB, 0, none⟩))).setIfInBounds 2017 (.map (some w.heap.size))) = Z at *
  have hg1 : Gr w ((w.alloc (.map #[] 0)).alloc (.cells Z 58)) := ((Gr.refl w).alloc _).alloc _
  generalize (w.alloc (.map #[] 0)).alloc (.cells Z 58) = w1 at *
  have HG1 := Lib.hid hg1
  have HD1 := Lib.hid (HD.out.gr hg1)
  clear hg1
  have hPB : ¬ (fun b => b = DB) (w.heap.size + 1) := fun e => absurd e (by omega)
  have hMB : ¬ (fun b => b = DB) w.heap.size := fun e => absurd e (by omega)
  refine (logged_g DB d w1 HD1.out HW.out).mono ?_
  rintro e w2 ⟨pv, lv, rfl, hrp, hrl, hop, hol, hg2⟩
  obtain ⟨po, pc, rfl⟩ := hrp.form
  have N2 := Lib.hid (HN.out.gr hg2)
  have HD2 := Lib.hid (HD1.out.gr hg2)
  have HG2 := Lib.hid (HG1.out.trans hg2)
  have HRP := Lib.hid hrp
  have HRL := Lib.hid hrl
  have HOP := Lib.hid hop
  have HOL := Lib.hid hol
  have HLL := Lib.hid (logged_len d.pg)
  have HLP := Lib.hid (loggedP_lt d.pg)
  have HLS := Lib.hid (loggedL_sz HW.out)
  have HLN : Hid ((loggedP d.pg).length ≤ 2000) := Lib.hid (by
    have h1 := logPs_len d.pg
    unfold loggedP
    split
    · exact h1
    · exact Nat.zero_le _)
  have HOE : Hid (openE d.pg = if loggedP d.pg = [] then [] else settleE (loggedP d.pg) (loggedL d.pg)) := Lib.hid rfl
  have HOK := Lib.hid (openE_ok HW.out)
  have HOW : Hid ((wrsD d (openE d.pg)).2.whole) := Lib.hid (wrsD_whole _ HW.out HOK.out)
  clear hrp hrl hop hol hg2
  generalize loggedP d.pg = ps at *
  generalize loggedL d.pg = L at *
  cases ps with
  | nil =>
    have HE : Hid (wrsD d (openE d.pg) = (true, d)) := Lib.hid (by rw [HOE.out, if_pos rfl]; rfl)
    have HGX := Lib.hid (GrX.of_gr (S := fun b => b = DB) HG2.out)
    have hr0 : ∀ w, DkAt w DB d → Calls Try.prog 19 #[.pointer (some ⟨DB, 0, none⟩), .int .i64 0] w (Ret w (.tuple #[.string (pgGet d.pg 0), .nilIface])) := fun w h => read_d DB d.pg d.cut d.left d.torn 0 (by omega) w h
    have hsz : (pgGet d.pg 0).size = 1024 := HW.out 0 (by omega)
    obtain ⟨A, hA0⟩ : ∃ A : Array Value, A = (headD d.pg).cells.toArray := ⟨_, rfl⟩
    have hrd : ∀ w, Calls Try.prog 20 #[.string (pgGet d.pg 0)] w (Ret w (.agg A)) := fun w => by rw [hA0]; exact reads_g (pgGet d.pg 0) hsz w
    have hA := Lib.hid hA0
    clear hA0 hsz
    have HHH0 : ∃ hh, headD d.pg = hh := ⟨_, rfl⟩
    obtain ⟨hh, hhe⟩ := HHH0
    rw [hhe] at hA
    have HHH := Lib.hid hhe
    clear hhe
    generalize pgGet d.pg 0 = s0 at *
    go_wp2_with fail
    refine (hr0 _ HD2.out).mono ?_
    rintro e w4 ⟨rfl, hg4⟩
    have N4 := Lib.hid (N2.out.gr hg4)
    have HD4 := Lib.hid (HD2.out.gr hg4)
    have HG4 := Lib.hid (HGX.out.trans (GrX.of_gr hg4))
    go_wp2_with (first
      | (go_at_call 20; refine (hrd _).mono ?_; rintro e w5 ⟨rfl, hg5⟩
         have N5 := Lib.hid (N4.out.gr hg5)
         have HD5 := Lib.hid (HD4.out.gr hg5)
         have HG5 := Lib.hid (HG4.out.trans (GrX.of_gr hg5)))
      | (refine wpList_store_head rfl _ _ rfl (w.heap.size + 1) 1 _ _ _ rfl rfl hA.out N5.out.head N5.out.free ?_; intro w6 hw6
         have HN6 := Lib.hid (reHead_of hw6 N5.out))
      | (refine wpList_load_head rfl _ rfl (w.heap.size + 1) 1 _ rfl HN6.out.1.head ?_; intro A3 hA3)
      | (refine wpList_store_head rfl _ _ rfl (w.heap.size + 1) 2018 _ _ _ rfl rfl hA3.out HN6.out.1.saved HN6.out.1.free ?_; intro w7 hw7
         have HN7 := Lib.hid (reSave_of hw7 HN6.out.1)))
    go_ret2
    rw [Opened, HE.out]
    have HPF := HN7.out.1
    rw [← HHH.out] at HPF
    have hgx := HN6.out.2.trans HN7.out.2
    have hgw : GrX (fun k => k = DB ∨ k = w.heap.size + 1) w w7 := (grX_imp HG5.out fun _ h => .inl h).trans (grX_imp hgx fun _ h => .inr h)
    refine ⟨HD5.out.keepX hgx (fun e => by omega), ⟨hgw.1, hgw.2.1, hgw.2.2.1, hgw.2.2.2.1, fun k hk hs => hgw.2.2.2.2 k hk (fun e => e.elim hs (fun e => by omega))⟩, ?_⟩
    exact ⟨w.heap.size + 1, w.heap.size, rfl, HPF, by omega, Nat.le_refl _⟩
  | cons p0 ps0 =>
    have hlen : (p0 :: ps0).length = ps0.length + 1 := rfl
    rw [hlen] at HRP ⊢
    have hln := HLN.out
    rw [hlen] at hln
    go_wp2_with fail
    refine (settle_g DB d (p0 :: ps0) L _ _ w2 HRP.out HRL.out HOP.out HOL.out HLL.out HLP.out HLS.out HLN.out HD2.out HW.out (by omega)).mono ?_
    rintro e w3 ⟨rfl, hd3, hg3⟩
    have HE0 : Hid (openE d.pg = settleE (p0 :: ps0) L) := Lib.hid (by rw [HOE.out, if_neg (by simp)])
    rw [← HE0.out] at hd3 ⊢
    have HD3 := Lib.hid hd3
    have N3 := Lib.hid (N2.out.keepX hg3 hPB hMB)
    have HGX := Lib.hid ((GrX.of_gr (S := fun b => b = DB) HG2.out).trans hg3)
    clear hd3 hg3
    obtain ⟨r3, hr3⟩ : ∃ r3, wrsD d (openE d.pg) = r3 := ⟨_, rfl⟩
    have HE := Lib.hid hr3
    rw [hr3] at HD3 HOW ⊢
    clear hr3
    obtain ⟨ok3, d3⟩ := r3
    cases ok3
    · unfold errD
      go_wp2_with fail
      go_ret2
      rw [Opened, HE.out]
      exact ⟨HD3.out, HGX.out, rfl⟩
    · unfold errD
      have hr0 : ∀ w, DkAt w DB d3 → Calls Try.prog 19 #[.pointer (some ⟨DB, 0, none⟩), .int .i64 0] w (Ret w (.tuple #[.string (pgGet d3.pg 0), .nilIface])) := fun w h => read_d DB d3.pg d3.cut d3.left d3.torn 0 (by omega) w h
      have hsz : (pgGet d3.pg 0).size = 1024 := HOW.out 0 (by omega)
      obtain ⟨A, hA0⟩ : ∃ A : Array Value, A = (headD d3.pg).cells.toArray := ⟨_, rfl⟩
      have hrd : ∀ w, Calls Try.prog 20 #[.string (pgGet d3.pg 0)] w (Ret w (.agg A)) := fun w => by rw [hA0]; exact reads_g (pgGet d3.pg 0) hsz w
      have hA := Lib.hid hA0
      clear hA0 hsz
      have HHH0 : ∃ hh, headD d3.pg = hh := ⟨_, rfl⟩
      obtain ⟨hh, hhe⟩ := HHH0
      rw [hhe] at hA
      have HHH := Lib.hid hhe
      clear hhe
      generalize pgGet d3.pg 0 = s0 at *
      go_wp2_with fail
      refine (hr0 _ HD3.out).mono ?_
      rintro e w4 ⟨rfl, hg4⟩
      have N4 := Lib.hid (N3.out.gr hg4)
      have HD4 := Lib.hid (HD3.out.gr hg4)
      have HG4 := Lib.hid (HGX.out.trans (GrX.of_gr hg4))
      go_wp2_with (first
        | (go_at_call 20; refine (hrd _).mono ?_; rintro e w5 ⟨rfl, hg5⟩
           have N5 := Lib.hid (N4.out.gr hg5)
           have HD5 := Lib.hid (HD4.out.gr hg5)
           have HG5 := Lib.hid (HG4.out.trans (GrX.of_gr hg5)))
        | (refine wpList_store_head rfl _ _ rfl (w.heap.size + 1) 1 _ _ _ rfl rfl hA.out N5.out.head N5.out.free ?_; intro w6 hw6
           have HN6 := Lib.hid (reHead_of hw6 N5.out))
        | (refine wpList_load_head rfl _ rfl (w.heap.size + 1) 1 _ rfl HN6.out.1.head ?_; intro A3 hA3)
        | (refine wpList_store_head rfl _ _ rfl (w.heap.size + 1) 2018 _ _ _ rfl rfl hA3.out HN6.out.1.saved HN6.out.1.free ?_; intro w7 hw7
           have HN7 := Lib.hid (reSave_of hw7 HN6.out.1)))
      go_ret2
      rw [Opened, HE.out]
      have HPF := HN7.out.1
      rw [← HHH.out] at HPF
      have hgx := HN6.out.2.trans HN7.out.2
      have hgw : GrX (fun k => k = DB ∨ k = w.heap.size + 1) w w7 := (grX_imp HG5.out fun _ h => .inl h).trans (grX_imp hgx fun _ h => .inr h)
      refine ⟨HD5.out.keepX hgx (fun e => by omega), ⟨hgw.1, hgw.2.1, hgw.2.2.1, hgw.2.2.2.1, fun k hk hs => hgw.2.2.2.2 k hk (fun e => e.elim hs (fun e => by omega))⟩, ?_⟩
      exact ⟨w.heap.size + 1, w.heap.size, rfl, HPF, by omega, Nat.le_refl _⟩
end Go.Proofs.Ytmjkalpjciddbaa

/-
  A pager's disk when the power goes off, as plain data.
-/
namespace Go.Proofs.Ytmjkalpjciddbaa
open Go Go.RowKit

def putsP (pg : Nat → ByteArray) (l : List (Nat × ByteArray)) : Nat → ByteArray := l.foldl (fun p x => pgPut p x.1 x.2) pg
theorem wrD_fst (d : Dk) (k : Nat) (s : ByteArray) : (wrD d k s).1 = d.on := by
  unfold wrD
  split
  · rename_i h
    exact h.symm
  · rename_i h
    exact (Bool.not_eq_true _ ▸ h : d.on = false).symm
theorem wrD_pg {d : Dk} (h : d.on = true) (k : Nat) (s : ByteArray) : (wrD d k s).2.pg = pgPut d.pg k s := by unfold wrD; rw [if_pos h]
theorem wrD_cut (d : Dk) (k : Nat) (s : ByteArray) : (wrD d k s).2.cut = d.cut := by
  unfold wrD
  split <;> rfl
theorem wrsD_pg : ∀ (l : List (Nat × ByteArray)) {d : Dk}, (wrsD d l).1 = true → (wrsD d l).2.pg = putsP d.pg l
  | [], _, _ => rfl
  | x :: l, d, h => by
    rw [wrsD_cons] at h ⊢
    cases hon : (wrD d x.1 x.2).1
    · rw [hon] at h
      exact absurd h Bool.false_ne_true
    · rw [hon, if_pos rfl] at h
      rw [if_pos rfl, wrsD_pg l h, wrD_pg (by rw [← wrD_fst d x.1 x.2]; exact hon)]
      rfl
/-- Where a write fails. -/
theorem wrsD_fail : ∀ (l : List (Nat × ByteArray)) {d : Dk}, (wrsD d l).1 = false → ∃ a x b e, l = a ++ x :: b ∧ wrsD d a = (true, e) ∧ (wrsD d l).2.pg = pgPut e.pg x.1 (tearS x.2 (pgGet e.pg x.1) (clampT e.torn))
  | [], _, h => by cases h
  | x :: l, d, h => by
    cases hon : (wrD d x.1 x.2).1
    · refine ⟨[], x, l, d, rfl, rfl, ?_⟩
      rw [wrsD_cons, hon]
      have h2 : d.on = false := by rw [← wrD_fst d x.1 x.2]; exact hon
      show (wrD d x.1 x.2).2.pg = _
      unfold wrD
      rw [h2]
      rfl
    · rw [wrsD_cons, hon, if_pos rfl] at h
      obtain ⟨a, y, b, e, h1, h2, h3⟩ := wrsD_fail l h
      refine ⟨x :: a, y, b, e, by rw [h1]; rfl, ?_, ?_⟩
      · rw [wrsD_cons, hon, if_pos rfl]
        exact h2
      · rw [wrsD_cons, hon, if_pos rfl]
        exact h3
theorem pgGet_other (pg : Nat → ByteArray) {k i : Nat} (h : i ≠ k) (s : ByteArray) : pgGet (pgPut pg k s) i = pgGet pg i := by
  unfold pgGet pgPut
  rw [if_neg h]
theorem puts_out : ∀ (l : List (Nat × ByteArray)) (pg : Nat → ByteArray) (i : Nat), (∀ x ∈ l, x.1 ≠ i) → pgGet (putsP pg l) i = pgGet pg i
  | [], _, _, _ => rfl
  | x :: l, pg, i, h => by
    show pgGet (putsP (pgPut pg x.1 x.2) l) i = _
    rw [puts_out l _ i (fun y hy => h y (by simp [hy])), pgGet_other _ (fun e => h x (by simp) e.symm)]
theorem puts_in : ∀ (l : List (Nat × ByteArray)) (pg : Nat → ByteArray), okE l → (l.map Prod.fst).Nodup → ∀ x ∈ l, pgGet (putsP pg l) x.1 = x.2
  | [], _, _, _, _, h => by cases h
  | y :: l, pg, hl, hn, x, hx => by
    rw [List.map_cons, List.nodup_cons] at hn
    show pgGet (putsP (pgPut pg y.1 y.2) l) x.1 = _
    rcases List.mem_cons.1 hx with rfl | hx
    · rw [puts_out l _ _ (fun z hz e => hn.1 (List.mem_map.2 ⟨z, hz, e⟩)), pgGet_pgPut (hl _ (by simp)).2, if_pos rfl]
    · exact puts_in l _ (fun z hz => hl z (by simp [hz])) hn.2 x hx
theorem putsP_append (pg : Nat → ByteArray) (a b : List (Nat × ByteArray)) : putsP pg (a ++ b) = putsP (putsP pg a) b := List.foldl_append
/-- The pages that rise. -/
def rises (ps : List Nat) : Prop := ps = (List.range 2000).filter ps.contains
theorem rises.nodup {ps : List Nat} (h : rises ps) : ps.Nodup := by
  rw [h]
  exact List.Pairwise.filter _ List.nodup_range
theorem rises.lt {ps : List Nat} (h : rises ps) {k : Nat} (hk : k ∈ ps) : k < 2000 := by
  rw [h] at hk
  exact List.mem_range.1 (List.mem_filter.1 hk).1
theorem rises.len {ps : List Nat} (h : rises ps) : ps.length ≤ 2000 := by
  have := List.length_filter_le ps.contains (List.range 2000)
  rw [← h] at this
  simpa using this
theorem filter_congr' {p q : Nat → Bool} {l : List Nat} (h : ∀ k ∈ l, p k = q k) : l.filter p = l.filter q := List.filter_congr h
theorem pagesF_eq {F : Int → Option ByteArray} (hF : fineF F) : pagesF F = (List.range 2000).filter fun (k : Nat) => k == 0 || (F k).isSome := by
  have e : List.range 2000 = 0 :: (List.range 1999).map Nat.succ := List.range_succ_eq_map
  have h0 : (F ((0 : Nat) : Int)).isSome = false := by
    cases h : F ((0 : Nat) : Int) with
    | none => rfl
    | some s => have := (hF _ _ h).1; omega
  have hR : ∀ k ∈ (List.range 1999).map Nat.succ, k ≠ 0 := fun k hk => by
    obtain ⟨j, _, rfl⟩ := List.mem_map.1 hk
    exact Nat.succ_ne_zero j
  unfold pagesF ksF
  generalize (List.range 1999).map Nat.succ = R at e hR
  generalize List.range 2000 = Q at e
  subst e
  rw [List.filter_cons_of_neg (by rw [h0]; exact Bool.false_ne_true), List.filter_cons_of_pos (by rfl)]
  congr 1
  refine filter_congr' fun k hk => ?_
  have hk0 : (k == 0) = false := by simpa using hR k hk
  rw [hk0, Bool.false_or]
theorem pagesF_mem {F : Int → Option ByteArray} (hF : fineF F) {k : Nat} : k ∈ pagesF F ↔ k < 2000 ∧ (k = 0 ∨ (F k).isSome) := by
  rw [pagesF_eq hF, List.mem_filter, List.mem_range]
  simp
theorem pagesF_rises {F : Int → Option ByteArray} (hF : fineF F) : rises (pagesF F) := by
  unfold rises
  conv => lhs; rw [pagesF_eq hF]
  refine filter_congr' fun k hk => ?_
  rw [Bool.eq_iff_iff, List.contains_iff_mem, pagesF_mem hF]
  have := List.mem_range.1 hk
  simp [this]
theorem zip_map_self {α β : Type} (f : α → β) : ∀ l : List α, l.zip (l.map f) = l.map fun x => (x, f x)
  | [] => rfl
  | x :: l => by rw [List.map_cons, List.zip_cons_cons, zip_map_self f l, List.map_cons]
theorem zip_fst {α β : Type} : ∀ (l : List α) (m : List β), l.length = m.length → (l.zip m).map Prod.fst = l
  | [], _, _ => rfl
  | x :: l, [], h => by cases h
  | x :: l, y :: m, h => by rw [List.zip_cons_cons, List.map_cons, zip_fst l m (Nat.succ.inj h)]
/-- The first two bytes of a note. -/
theorem note_count {ps : List Nat} (h : ps.length < 65536) (l : List (List UInt8)) : fromF (noteF ps l) 0 = (ps.length : Int) := by
  have e : noteF ps l = [] ++ (two8 (ps.length : Int) ++ ((mapF fun i => ps.contains i) ++ sumF (noteHead ps :: l) ++ List.replicate (1024 - (noteHead ps ++ sumF (noteHead ps :: l)).length) 0)) := by
    unfold noteF fillF
    conv => lhs; unfold noteHead
    simp [List.append_assoc, noteHead]
  have := two8_from (ps.length : Int) (by omega) (by omega) [] ((mapF fun i => ps.contains i) ++ sumF (noteHead ps :: l) ++ List.replicate (1024 - (noteHead ps ++ sumF (noteHead ps :: l)).length) 0)
  rw [← e] at this
  exact this
theorem note_bit (ps : List Nat) (l : List (List UInt8)) {k : Nat} (hk : k < 2000) : logBit (noteF ps l) k = ps.contains k := by
  have hq : k / 8 < 250 := by omega
  have e : (noteF ps l).getD (2 + k / 8) 0 = (bits8 (fun i => ps.contains i) (8 * (k / 8)) 8).toUInt8 := by
    unfold noteF fillF
    rw [List.getD_eq_getElem?_getD, List.getElem?_append_left (by rw [List.length_append, noteHead_len]; omega), List.getElem?_append_left (by rw [noteHead_len]; omega)]
    unfold noteHead
    rw [List.getElem?_append_right (by show 2 ≤ _; omega)]
    show (((mapF fun i => ps.contains i)[2 + k / 8 - 2]?).getD 0) = _
    rw [Nat.add_sub_cancel_left]
    simp [mapF, hq]
  have hlt := bits8_lt (fun i => ps.contains i) (8 * (k / 8)) 8
  have hn : (bits8 (fun i => ps.contains i) (8 * (k / 8)) 8).toUInt8.toNat = bits8 (fun i => ps.contains i) (8 * (k / 8)) 8 := by
    show _ % 256 = _
    exact Nat.mod_eq_of_lt hlt
  unfold logBit
  rw [e, hn, bits8_bit _ (8 * (k / 8)) 8 (k % 8) (by omega), show 8 * (k / 8) + k % 8 = k by omega]
  cases ps.contains k <;> rfl
theorem zeros_getD (j : Nat) : zerosB.data.toList.getD j 0 = 0 := by
  rw [zerosB_fill]
  unfold fillF
  rw [List.nil_append, List.getD_eq_getElem?_getD, List.getElem?_replicate]
  split <;> rfl
theorem tear_getD {s old : ByteArray} (hs : s.size = 1024) (_ : old.size = 1024) {n : Nat} (hn : n ≤ 1024) (j : Nat) : (tearS s old n).data.toList.getD j 0 = if j < n then s.data.toList.getD j 0 else old.data.toList.getD j 0 := by
  show ((tearB s old n).toArray.toList).getD j 0 = _
  rw [List.toList_toArray]
  unfold tearB
  have h1 : (s.data.toList.take n).length = n := by rw [List.length_take, ← size_data]; omega
  rw [List.getD_eq_getElem?_getD]
  split
  · rename_i h
    rw [List.getElem?_append_left (by omega), List.getElem?_take_of_lt h, ← List.getD_eq_getElem?_getD]
  · rename_i h
    rw [List.getElem?_append_right (by omega), List.getElem?_drop, h1, show n + (j - n) = j by omega, ← List.getD_eq_getElem?_getD]
theorem logged_none {pg : Nat → ByteArray} (h : logPs pg = []) : loggedP pg = [] := by
  unfold loggedP
  rw [h]
  split <;> rfl
theorem logPs_none {pg : Nat → ByteArray} (h : ∀ j, 2 ≤ j → (pgGet pg 2000).data.toList.getD j 0 = 0) : logPs pg = [] := by
  unfold logPs
  rw [List.filter_eq_nil_iff]
  intro k _ hb
  unfold logBit at hb
  rw [h _ (by omega)] at hb
  simp at hb
theorem logged_zeros {pg : Nat → ByteArray} (h : pgGet pg 2000 = zerosB) : loggedP pg = [] := logged_none (logPs_none fun j _ => by rw [h]; exact zeros_getD j)
theorem noteB_list (ps : List Nat) (L : List ByteArray) : (noteB ps L).data.toList = noteF ps (datas L) := ba_eta _
/-- The log's pages. -/
def logPages (pg : Nat → ByteArray) (L : List ByteArray) : Prop := ∀ i (h : i < L.length), pgGet pg (2001 + i) = L[i]
theorem logLs_of {pg : Nat → ByteArray} {ps : List Nat} {L : List ByteArray} (hl : ps.length = L.length) (hp : logPages pg L) (h : logPs pg = ps) : logLs pg = L := by
  unfold logLs
  rw [h, hl]
  refine List.ext_getElem (by simp) fun i h1 h2 => ?_
  rw [List.getElem_map, List.getElem_range]
  exact hp i h2
theorem logPs_bits {pg : Nat → ByteArray} {ps : List Nat} (hr : rises ps) (h : ∀ k, k < 2000 → logBit (pgGet pg 2000).data.toList k = ps.contains k) : logPs pg = ps := by
  unfold logPs
  rw [filter_congr' (q := ps.contains) fun k hk => h k (List.mem_range.1 hk)]
  exact hr.symm
theorem logged_whole {pg : Nat → ByteArray} {ps : List Nat} {L : List ByteArray} (hr : rises ps) (hl : ps.length = L.length) (hp : logPages pg L) (hn : pgGet pg 2000 = noteB ps L) : loggedP pg = ps ∧ loggedL pg = L := by
  have h1 : logPs pg = ps := logPs_bits hr fun k hk => by rw [hn, noteB_list, note_bit _ _ hk]
  have h2 := logLs_of hl hp h1
  unfold loggedP loggedL
  rw [h1, h2, if_pos hn.symm, if_pos hn.symm]
  exact ⟨rfl, rfl⟩
/-- Where the count in front is not that of the pages, there is no log. -/
theorem logged_count {pg : Nat → ByteArray} (h : loggedP pg ≠ []) : noteB (logPs pg) (logLs pg) = pgGet pg 2000 ∧ fromF (pgGet pg 2000).data.toList 0 = ((logPs pg).length : Int) ∧ logPs pg ≠ [] := by
  have h1 : noteB (logPs pg) (logLs pg) = pgGet pg 2000 := by
    apply Classical.byContradiction
    intro e
    unfold loggedP at h
    rw [if_neg e] at h
    exact h rfl
  refine ⟨h1, ?_, fun e => h (logged_none e)⟩
  rw [← h1, noteB_list]
  exact note_count (by have := logPs_len pg; omega) _
theorem torn_note {pg : Nat → ByteArray} {ps : List Nat} {L : List ByteArray} (hr : rises ps) (hl : ps.length = L.length) (hp : logPages pg L) {t : Nat} (ht : t ≤ 1024) (hn : pgGet pg 2000 = tearS (noteB ps L) zerosB t) : loggedP pg = [] ∨ pgGet pg 2000 = noteB ps L := by
  have hg : ∀ j, (pgGet pg 2000).data.toList.getD j 0 = if j < t then (noteF ps (datas L)).getD j 0 else 0 := fun j => by
    rw [hn, tear_getD (noteB_sz _ _) zerosB_sz ht, noteB_list, zeros_getD]
  by_cases h2 : t < 2
  · refine .inl (logged_none (logPs_none fun j hj => ?_))
    rw [hg, if_neg (by omega)]
  · by_cases h0 : loggedP pg = []
    · exact .inl h0
    · obtain ⟨h1, h3, _⟩ := logged_count h0
      have h4 : fromF (pgGet pg 2000).data.toList 0 = (ps.length : Int) := by
        rw [← note_count (ps := ps) (by have := hr.len; omega) (datas L)]
        unfold fromF
        rw [hg, hg, if_pos (by omega), if_pos (by omega)]
      have h5 : (logPs pg).length = ps.length := by omega
      have h6 : ∀ k, k < 2000 → logBit (pgGet pg 2000).data.toList k = true → ps.contains k = true := fun k hk hb => by
        rw [← note_bit ps (datas L) hk]
        unfold logBit at hb ⊢
        rw [hg] at hb
        split at hb
        · exact hb
        · simp at hb
      have h7 : logPs pg = ps.filter (logBit (pgGet pg 2000).data.toList) := by
        conv => rhs; rw [hr, List.filter_filter]
        refine filter_congr' fun k hk => ?_
        have := h6 k (List.mem_range.1 hk)
        cases hb : logBit (pgGet pg 2000).data.toList k
        · rfl
        · rw [this hb]
          rfl
      have h8 : logPs pg = ps := by
        rw [h7] at h5 ⊢
        exact List.filter_eq_self.2 (List.length_filter_eq_length_iff.1 h5)
      rw [h8, logLs_of hl hp h8] at h1
      exact .inr h1.symm
theorem torn_zero {pg : Nat → ByteArray} {ps : List Nat} {L : List ByteArray} (hr : rises ps) (hl : ps.length = L.length) (hp : logPages pg L) {t : Nat} (ht : t ≤ 1024) (hn : pgGet pg 2000 = tearS zerosB (noteB ps L) t) : loggedP pg = [] ∨ pgGet pg 2000 = noteB ps L := by
  have hg : ∀ j, (pgGet pg 2000).data.toList.getD j 0 = if j < t then 0 else (noteF ps (datas L)).getD j 0 := fun j => by
    rw [hn, tear_getD zerosB_sz (noteB_sz _ _) ht, noteB_list, zeros_getD]
  by_cases h2 : t < 2
  · have h8 : logPs pg = ps := logPs_bits hr fun k hk => by
      rw [← note_bit ps (datas L) hk]
      unfold logBit
      rw [hg, if_neg (by omega)]
    by_cases h0 : loggedP pg = []
    · exact .inl h0
    · obtain ⟨h1, _, _⟩ := logged_count h0
      rw [h8, logLs_of hl hp h8] at h1
      exact .inr h1.symm
  · by_cases h0 : loggedP pg = []
    · exact .inl h0
    · obtain ⟨h1, h3, h4⟩ := logged_count h0
      have h5 : fromF (pgGet pg 2000).data.toList 0 = 0 := by
        unfold fromF
        rw [hg, hg, if_pos (by omega), if_pos (by omega)]
        rfl
      refine absurd (List.length_eq_zero_iff.1 ?_) h4
      omega

/-- What a commit is about: the pages, their texts, and what the disk had. -/
structure Cm (ps : List Nat) (L : List ByteArray) : Prop where
  rise : rises ps
  len : ps.length = L.length
  size : ∀ s ∈ L, s.size = 1024
def newP (ps : List Nat) (L : List ByteArray) (pg0 : Nat → ByteArray) : Nat → ByteArray := putsP pg0 (ps.zip L)
/-- Nothing is committed. -/
def ClsA (pg0 pg : Nat → ByteArray) : Prop := loggedP pg = [] ∧ ∀ k, k < 2000 → pgGet pg k = pgGet pg0 k
/-- It stands in the log. -/
def ClsB (ps : List Nat) (L : List ByteArray) (pg0 pg : Nat → ByteArray) : Prop := logPages pg L ∧ pgGet pg 2000 = noteB ps L ∧ ∀ k, k < 2000 → k ∉ ps → pgGet pg k = pgGet pg0 k
/-- It stands in its places. -/
def ClsC (ps : List Nat) (L : List ByteArray) (pg0 pg : Nat → ByteArray) : Prop := loggedP pg = [] ∧ ∀ k, k < 2000 → pgGet pg k = pgGet (newP ps L pg0) k
theorem zip_mem {ps : List Nat} {L : List ByteArray} {x : Nat × ByteArray} (h : x ∈ ps.zip L) : x.1 ∈ ps ∧ x.2 ∈ L := List.of_mem_zip (show (x.1, x.2) ∈ ps.zip L from h)
theorem Cm.zipOk {ps : List Nat} {L : List ByteArray} (c : Cm ps L) : okE (ps.zip L) := fun x hx => ⟨by have := c.rise.lt (zip_mem hx).1; omega, c.size _ (zip_mem hx).2⟩
theorem newP_out {ps : List Nat} {L : List ByteArray} {pg0 : Nat → ByteArray} {k : Nat} (h : k ∉ ps) : pgGet (newP ps L pg0) k = pgGet pg0 k := puts_out _ _ _ fun _ hx e => h (e ▸ (zip_mem hx).1)
theorem Cm.newP_eq {ps : List Nat} {L : List ByteArray} (c : Cm ps L) {pg0 pg : Nat → ByteArray} {k : Nat} (h : k ∉ ps → pgGet pg k = pgGet pg0 k) : pgGet (newP ps L pg) k = pgGet (newP ps L pg0) k := by
  by_cases hk : k ∈ ps
  · have hf := zip_fst ps L c.len
    have hk2 : k ∈ (ps.zip L).map Prod.fst := by rw [hf]; exact hk
    obtain ⟨x, hx, rfl⟩ := List.mem_map.1 hk2
    have hnd : ((ps.zip L).map Prod.fst).Nodup := by rw [hf]; exact c.rise.nodup
    unfold newP
    rw [puts_in _ _ c.zipOk hnd x hx, puts_in _ _ c.zipOk hnd x hx]
  · rw [newP_out hk, newP_out hk, h hk]
/-- What is settled, or not. -/
theorem settle_crash {ps : List Nat} {L : List ByteArray} (c : Cm ps L) {pg0 : Nat → ByteArray} {d : Dk} (h : ClsB ps L pg0 d.pg) :
    ((wrsD d (settleE ps L)).1 = true → ClsC ps L pg0 (wrsD d (settleE ps L)).2.pg ∧ pgGet (wrsD d (settleE ps L)).2.pg 2000 = zerosB) ∧
    ((wrsD d (settleE ps L)).1 = false → ClsB ps L pg0 (wrsD d (settleE ps L)).2.pg ∨ ClsC ps L pg0 (wrsD d (settleE ps L)).2.pg) := by
  obtain ⟨h1, h2, h3⟩ := h
  have hz2 : ∀ x ∈ ps.zip L, x.1 < 2000 := fun x hx => c.rise.lt (zip_mem hx).1
  constructor
  · intro hon
    rw [wrsD_pg _ hon]
    have e : putsP d.pg (settleE ps L) = pgPut (newP ps L d.pg) 2000 zerosB := by
      unfold settleE
      rw [putsP_append]
      rfl
    rw [e]
    have e0 : pgGet (pgPut (newP ps L d.pg) 2000 zerosB) 2000 = zerosB := by rw [pgGet_pgPut zerosB_sz, if_pos rfl]
    refine ⟨⟨logged_zeros e0, fun k hk => ?_⟩, e0⟩
    rw [pgGet_other _ (by omega)]
    exact c.newP_eq (h3 k hk)
  · intro hoff
    obtain ⟨a, x, b, e, hab, ha, hpg⟩ := wrsD_fail _ hoff
    rw [hpg]
    have hepg : e.pg = putsP d.pg a := by
      have := wrsD_pg a (d := d) (by rw [ha])
      rw [ha] at this
      exact this
    -- the writes to the places, or the last one
    have hcase : (∃ b', ps.zip L = a ++ x :: b') ∨ (a = ps.zip L ∧ x = (2000, zerosB)) := by
      unfold settleE at hab
      rcases List.append_eq_append_iff.1 hab with ⟨m, hm1, hm2⟩ | ⟨m, hm1, hm2⟩
      · cases m with
        | nil =>
          refine .inr ⟨by rw [hm1]; simp, ?_⟩
          rw [List.nil_append, List.cons.injEq] at hm2
          exact hm2.1.symm
        | cons y m =>
          rw [List.cons_append, List.cons.injEq] at hm2
          have := congrArg List.length hm2.2
          simp at this
      · cases m with
        | nil =>
          rw [List.nil_append] at hm2
          rw [List.cons.injEq] at hm2
          exact .inr ⟨by rw [hm1]; simp, hm2.1⟩
        | cons y m =>
          rw [List.cons_append, List.cons.injEq] at hm2
          exact .inl ⟨m, by rw [hm1, hm2.1]⟩
    rcases hcase with ⟨b', hb'⟩ | ⟨rfl, rfl⟩
    · have hx : x ∈ ps.zip L := by rw [hb']; simp
      have hsub : ∀ y ∈ a, y ∈ ps.zip L := fun y hy => by rw [hb']; simp [hy]
      have hx2 := hz2 x hx
      left
      refine ⟨fun i hi => ?_, ?_, fun k hk hks => ?_⟩
      · rw [pgGet_other _ (by omega), hepg, puts_out _ _ _ (fun y hy => by have := hz2 y (hsub y hy); omega)]
        exact h1 i hi
      · rw [pgGet_other _ (by omega), hepg, puts_out _ _ _ (fun y hy => by have := hz2 y (hsub y hy); omega)]
        exact h2
      · rw [pgGet_other _ (fun h' => hks (by rw [h']; exact (zip_mem hx).1)), hepg, puts_out _ _ _ (fun y hy h' => hks (by rw [← h']; exact (zip_mem (hsub y hy)).1))]
        exact h3 k hk hks
    · have he2 : pgGet e.pg 2000 = noteB ps L := by
        rw [hepg, puts_out _ _ _ (fun y hy => by have := hz2 y hy; omega)]
        exact h2
      have hdat : ∀ k, k < 2000 → pgGet e.pg k = pgGet (newP ps L pg0) k := fun k hk => by
        rw [hepg]
        exact c.newP_eq (h3 k hk)
      show ClsB ps L pg0 (pgPut e.pg 2000 (tearS zerosB (pgGet e.pg 2000) (clampT e.torn))) ∨ ClsC ps L pg0 (pgPut e.pg 2000 (tearS zerosB (pgGet e.pg 2000) (clampT e.torn)))
      rw [he2]
      have htn := tearS_sz zerosB_sz (noteB_sz ps L) _ (clampT_le e.torn)
      have hlp : logPages (pgPut e.pg 2000 (tearS zerosB (noteB ps L) (clampT e.torn))) L := fun i hi => by
        rw [pgGet_other _ (by omega), hepg, puts_out _ _ _ (fun y hy => by have := hz2 y hy; omega)]
        exact h1 i hi
      rcases torn_zero c.rise c.len hlp (clampT_le e.torn) (by rw [pgGet_pgPut htn, if_pos rfl]) with h0 | h0
      · exact .inr ⟨h0, fun k hk => by rw [pgGet_other _ (by omega)]; exact hdat k hk⟩
      · refine .inl ⟨hlp, h0, fun k hk hks => ?_⟩
        rw [pgGet_other _ (by omega), hdat k hk, newP_out hks]
/-- A commit, whole or not. -/
theorem commit_crash {ps : List Nat} {L : List ByteArray} (c : Cm ps L) {d : Dk} (h0 : pgGet d.pg 2000 = zerosB) :
    ((wrsD d (logsE ps L ++ settleE ps L)).1 = true → ClsC ps L d.pg (wrsD d (logsE ps L ++ settleE ps L)).2.pg ∧ pgGet (wrsD d (logsE ps L ++ settleE ps L)).2.pg 2000 = zerosB) ∧
    ((wrsD d (logsE ps L ++ settleE ps L)).1 = false → ClsA d.pg (wrsD d (logsE ps L ++ settleE ps L)).2.pg ∨ ClsB ps L d.pg (wrsD d (logsE ps L ++ settleE ps L)).2.pg ∨ ClsC ps L d.pg (wrsD d (logsE ps L ++ settleE ps L)).2.pg) := by
  have hlk : ∀ x ∈ (List.range L.length).map (fun i => (2001 + i, L.getD i ⟨#[]⟩)), 2000 < x.1 := fun x hx => by
    obtain ⟨i, _, rfl⟩ := List.mem_map.1 hx
    show 2000 < 2001 + i
    omega
  have hln : L.length ≤ 2000 := by rw [← c.len]; exact c.rise.len
  have hlok : okE ((List.range L.length).map (fun i => (2001 + i, L.getD i ⟨#[]⟩))) := fun x hx => (logsE_ok (ps := ps) hln c.size) x (by unfold logsE; exact List.mem_append_left _ hx)
  have hpages : ∀ pg, logPages (putsP pg ((List.range L.length).map (fun i => (2001 + i, L.getD i ⟨#[]⟩)))) L := fun pg i hi => by
    have hm : (2001 + i, L[i]) ∈ (List.range L.length).map (fun i => (2001 + i, L.getD i ⟨#[]⟩)) := List.mem_map.2 ⟨i, List.mem_range.2 hi, by rw [List.getD_eq_getElem?_getD, List.getElem?_eq_getElem hi]; rfl⟩
    refine puts_in _ pg hlok ?_ _ hm
    rw [List.map_map]
    show List.Pairwise _ _
    rw [List.pairwise_map]
    refine List.Pairwise.imp (fun {a b} (hab : a ≠ b) => ?_) List.nodup_range
    show 2001 + a ≠ 2001 + b
    omega
  cases hlog : (wrsD d (logsE ps L)).1
  · have e : (wrsD d (logsE ps L ++ settleE ps L)) = (false, (wrsD d (logsE ps L)).2) := by rw [wrsD_append, hlog]; rfl
    rw [e]
    refine ⟨fun h => absurd h Bool.false_ne_true, fun _ => ?_⟩
    obtain ⟨a, x, b, e, hab, ha, hpg⟩ := wrsD_fail _ hlog
    show ClsA d.pg (wrsD d (logsE ps L)).2.pg ∨ _
    rw [hpg]
    have hepg : e.pg = putsP d.pg a := by
      have := wrsD_pg a (d := d) (by rw [ha])
      rw [ha] at this
      exact this
    have hcase : (∃ b', (List.range L.length).map (fun i => (2001 + i, L.getD i ⟨#[]⟩)) = a ++ x :: b') ∨ (a = (List.range L.length).map (fun i => (2001 + i, L.getD i ⟨#[]⟩)) ∧ x = (2000, noteB ps L)) := by
      unfold logsE at hab
      rcases List.append_eq_append_iff.1 hab with ⟨m, hm1, hm2⟩ | ⟨m, hm1, hm2⟩
      · cases m with
        | nil =>
          refine .inr ⟨by rw [hm1]; simp, ?_⟩
          rw [List.nil_append, List.cons.injEq] at hm2
          exact hm2.1.symm
        | cons y m =>
          rw [List.cons_append, List.cons.injEq] at hm2
          have := congrArg List.length hm2.2
          simp at this
      · cases m with
        | nil =>
          rw [List.nil_append] at hm2
          rw [List.cons.injEq] at hm2
          exact .inr ⟨by rw [hm1]; simp, hm2.1⟩
        | cons y m =>
          rw [List.cons_append, List.cons.injEq] at hm2
          exact .inl ⟨m, by rw [hm1, hm2.1]⟩
    rcases hcase with ⟨b', hb'⟩ | ⟨rfl, rfl⟩
    · have hx := hlk x (by rw [hb']; simp)
      have hsub : ∀ y ∈ a, 2000 < y.1 := fun y hy => hlk y (by rw [hb']; simp [hy])
      refine .inl ⟨logged_zeros ?_, fun k hk => ?_⟩
      · rw [pgGet_other _ (by omega), hepg, puts_out _ _ _ (fun y hy => by have := hsub y hy; omega)]
        exact h0
      · rw [pgGet_other _ (by omega), hepg, puts_out _ _ _ (fun y hy => by have := hsub y hy; omega)]
    · have he2 : pgGet e.pg 2000 = zerosB := by
        rw [hepg, puts_out _ _ _ (fun y hy => by have := hlk y hy; omega)]
        exact h0
      have hdat : ∀ k, k < 2000 → pgGet e.pg k = pgGet d.pg k := fun k hk => by rw [hepg, puts_out _ _ _ (fun y hy => by have := hlk y hy; omega)]
      show ClsA d.pg (pgPut e.pg 2000 (tearS (noteB ps L) (pgGet e.pg 2000) (clampT e.torn))) ∨ ClsB ps L d.pg (pgPut e.pg 2000 (tearS (noteB ps L) (pgGet e.pg 2000) (clampT e.torn))) ∨ ClsC ps L d.pg (pgPut e.pg 2000 (tearS (noteB ps L) (pgGet e.pg 2000) (clampT e.torn)))
      rw [he2]
      have htn := tearS_sz (noteB_sz ps L) zerosB_sz _ (clampT_le e.torn)
      have hlp : logPages (pgPut e.pg 2000 (tearS (noteB ps L) zerosB (clampT e.torn))) L := fun i hi => by
        rw [pgGet_other _ (by omega), hepg]
        exact hpages _ i hi
      rcases torn_note c.rise c.len hlp (clampT_le e.torn) (by rw [pgGet_pgPut htn, if_pos rfl]) with h1 | h1
      · exact .inl ⟨h1, fun k hk => by rw [pgGet_other _ (by omega)]; exact hdat k hk⟩
      · refine .inr (.inl ⟨hlp, h1, fun k hk _ => ?_⟩)
        rw [pgGet_other _ (by omega), hdat k hk]
  · have e : (wrsD d (logsE ps L ++ settleE ps L)) = wrsD (wrsD d (logsE ps L)).2 (settleE ps L) := by rw [wrsD_append, hlog]; rfl
    have hB : ClsB ps L d.pg (wrsD d (logsE ps L)).2.pg := by
      rw [wrsD_pg _ hlog]
      unfold logsE
      rw [putsP_append]
      show ClsB ps L d.pg (pgPut (putsP d.pg _) 2000 (noteB ps L))
      refine ⟨fun i hi => ?_, ?_, fun k hk _ => ?_⟩
      · rw [pgGet_other _ (by omega)]
        exact hpages _ i hi
      · rw [pgGet_pgPut (noteB_sz _ _), if_pos rfl]
      · rw [pgGet_other _ (by omega), puts_out _ _ _ (fun y hy => by have := hlk y hy; omega)]
    have := settle_crash c hB
    rw [e]
    exact ⟨this.1, fun h => .inr (this.2 h)⟩
/-- The pages of a commit. -/
theorem commit_cm {c : Ch} (hf : fineF c.F) : Cm (pagesF c.F) (textsF c.h c.F) := ⟨pagesF_rises hf, pages_texts _ _, textsF_sz hf c.h⟩
theorem commit_zip (c : Ch) : (pagesF c.F).zip (textsF c.h c.F) = (0, textB c.h) :: (ksF c.F).map fun (k : Nat) => (k, (c.F k).getD ⟨#[]⟩) := by
  unfold pagesF textsF
  rw [List.zip_cons_cons, zip_map_self]
theorem commit_new {c : Ch} (hf : fineF c.F) (pg : Nat → ByteArray) : pgGet (newP (pagesF c.F) (textsF c.h c.F) pg) 0 = textB c.h ∧ ∀ k : Nat, 1 ≤ k → k < 2000 → pgGet (newP (pagesF c.F) (textsF c.h c.F) pg) k = pageNow pg c.F k := by
  have cm := commit_cm hf
  have hf' := zip_fst _ _ cm.len
  have hnd : (((pagesF c.F).zip (textsF c.h c.F)).map Prod.fst).Nodup := by rw [hf']; exact cm.rise.nodup
  refine ⟨puts_in _ pg cm.zipOk hnd (0, textB c.h) (by rw [commit_zip]; exact List.mem_cons_self), fun k h1 h2 => ?_⟩
  unfold pageNow
  cases hF : c.F (k : Int) with
  | some s =>
    have hm : (k, s) ∈ (pagesF c.F).zip (textsF c.h c.F) := by
      rw [commit_zip]
      refine List.mem_cons_of_mem _ (List.mem_map.2 ⟨k, ksF_mem.2 ⟨h2, by rw [hF]; rfl⟩, by rw [hF]; rfl⟩)
    exact puts_in _ pg cm.zipOk hnd (k, s) hm
  | none =>
    refine newP_out fun hk => ?_
    have := (pagesF_mem hf).1 hk
    rw [hF] at this
    rcases this.2 with h | h
    · omega
    · cases h
theorem head_same {h : Head} (hf : h.fine) {pg : Nat → ByteArray} (e : pgGet pg 0 = textB h) : (headD pg).same h := by
  unfold headD
  rw [e, show (textB h).data.toList = textF h from ba_eta _]
  exact reads_text hf
theorem pageNow_nil (pg : Nat → ByteArray) (k : Nat) : pageNow pg (fun _ => none) k = pgGet pg k := rfl
/-- What a pager has that is opened where it is settled. -/
theorem allT_settled {c : Ch} (hf : c.fine) {pg0 pg : Nat → ByteArray} (h : ∀ k, k < 2000 → pgGet pg k = pgGet (newP (pagesF c.F) (textsF c.h c.F) pg0) k) : allT (.new (headD pg)) pg = allT c pg0 := by
  have hn := commit_new hf.dirty pg0
  refine allT_eq (head_same hf.head (by rw [h 0 (by omega)]; exact hn.1)) fun k h1 h2 => ?_
  show pageNow pg (fun _ => none) k = _
  rw [pageNow_nil, h k h2]
  exact hn.2 k h1 h2
/-- And where nothing is. -/
theorem allT_old {h : Head} (hf : h.fine) {pg0 pg : Nat → ByteArray} (h0 : pgGet pg0 0 = textB h) (e : ∀ k, k < 2000 → pgGet pg k = pgGet pg0 k) : allT (.new (headD pg)) pg = allT (.new h) pg0 := by
  refine allT_eq (head_same hf (by rw [e 0 (by omega)]; exact h0)) fun k h1 h2 => ?_
  show pageNow pg (fun _ => none) k = pageNow pg0 (fun _ => none) k
  rw [pageNow_nil, pageNow_nil, e k h2]
/-- Behind a commit, all is as it was. -/
theorem allT_commit {c : Ch} (hf : c.fine) {pg0 pg : Nat → ByteArray} (h : ∀ k, k < 2000 → pgGet pg k = pgGet (newP (pagesF c.F) (textsF c.h c.F) pg0) k) : allT (.new c.h) pg = allT c pg0 := by
  have hn := commit_new hf.dirty pg0
  refine allT_eq (Head.same.refl _) fun k h1 h2 => ?_
  show pageNow pg (fun _ => none) k = _
  rw [pageNow_nil, h k h2]
  exact hn.2 k h1 h2
end Go.Proofs.Ytmjkalpjciddbaa

/-
  A pager and its disk in memory, together; each act as plain data.
-/
namespace Go.Proofs.Ytmjkalpjciddbaa
open Go Go.RowKit

/-- A pager in block PB, its map in block M, its disk in block DB. -/
structure PgS (w : World) (PB DB M n : Nat) (c : Ch) (sv : Head) (t : Int) (d : Dk) : Prop where
  pg : ∃ n', n' ≤ n ∧ PagerAt w PB DB M n' c.h sv c.F false t
  dk : DkAt w DB d
  ne1 : PB ≠ DB
  ne2 : M ≠ DB
/-- What an act leaves as it was. -/
def PgF (PB DB M M' : Nat) (w w' : World) : Prop := (M' = M ∨ w.heap.size ≤ M') ∧ GrX (fun b => b = PB ∨ b = DB ∨ b = M) w w'
theorem PgF.refl (PB DB M : Nat) (w : World) : PgF PB DB M M w w := ⟨.inl rfl, GrX.refl _ _⟩
theorem PgF.trans {PB DB M M' M'' : Nat} {w w' w'' : World} (h : PgF PB DB M M' w w') (k : PgF PB DB M' M'' w' w'') : PgF PB DB M M'' w w'' := by
  obtain ⟨h1, h2⟩ := h
  obtain ⟨k1, k2⟩ := k
  have hs := h2.2.2.2.1
  refine ⟨?_, k2.1.trans h2.1, k2.2.1.trans h2.2.1, k2.2.2.1.trans h2.2.2.1, Nat.le_trans hs k2.2.2.2.1, fun b hb hnb => ?_⟩
  · rcases k1 with rfl | k1
    · exact h1
    · exact .inr (Nat.le_trans hs k1)
  · refine (k2.2.2.2.2 b (Nat.lt_of_lt_of_le hb hs) fun e => ?_).trans (h2.2.2.2.2 b hb hnb)
    rcases e with e | e | e
    · exact hnb (.inl e)
    · exact hnb (.inr (.inl e))
    · rcases h1 with h1 | h1
      · exact hnb (.inr (.inr (e.trans h1)))
      · omega
theorem PgF.of_gr (PB DB M : Nat) {w w' : World} (g : Gr w w') : PgF PB DB M M w w' := ⟨.inl rfl, GrX.of_gr g⟩
theorem PgF.keeps {PB DB M M' : Nat} {w w' : World} (h : PgF PB DB M M' w w') {b o : Nat} {v : Value} (h1 : b ≠ PB) (h2 : b ≠ DB) (h3 : b ≠ M) (hc : w.cell? ⟨b, o, none⟩ = some v) : w'.cell? ⟨b, o, none⟩ = some v :=
  h.2.keeps (fun e => e.elim h1 fun e => e.elim h2 h3) hc
theorem PgF.size {PB DB M M' : Nat} {w w' : World} (h : PgF PB DB M M' w w') : w.heap.size ≤ w'.heap.size := h.2.2.2.2.1
theorem PgF.off {PB DB M M' : Nat} {w w' : World} (h : PgF PB DB M M' w w') {b : Nat} (hb : b < w.heap.size) (h3 : b ≠ M) : b ≠ M' := by
  rcases h.1 with e | e
  · omega
  · omega
theorem PgS.gr {w w' : World} {PB DB M n : Nat} {c : Ch} {sv : Head} {t : Int} {d : Dk} (h : PgS w PB DB M n c sv t d) (g : Gr w w') : PgS w' PB DB M n c sv t d := by
  obtain ⟨⟨n', h1, h2⟩, h3, h4, h5⟩ := h
  exact ⟨⟨n', h1, h2.gr g⟩, h3.gr g, h4, h5⟩
theorem PgS.mono {w : World} {PB DB M n m : Nat} {c : Ch} {sv : Head} {t : Int} {d : Dk} (h : PgS w PB DB M n c sv t d) (hm : n ≤ m) : PgS w PB DB M m c sv t d := by
  obtain ⟨⟨n', h1, h2⟩, h3, h4, h5⟩ := h
  exact ⟨⟨n', by omega, h2⟩, h3, h4, h5⟩
theorem PgS.lt {w : World} {PB DB M n : Nat} {c : Ch} {sv : Head} {t : Int} {d : Dk} (h : PgS w PB DB M n c sv t d) : PB < w.heap.size ∧ DB < w.heap.size ∧ M < w.heap.size := by
  obtain ⟨⟨n', h1, h2⟩, h3, h4, h5⟩ := h
  exact ⟨h2.lt, h3.lt, h2.dirty.lt⟩
theorem grX_three {PB DB M : Nat} {w w' : World} (h : GrX (fun b => b = PB ∨ b = M) w w') : GrX (fun b => b = PB ∨ b = DB ∨ b = M) w w' := grX_imp h fun _ e => e.elim .inl fun e => .inr (.inr e)
def allocV (c : Ch) : Value := match allocF c.h with | none => .tuple #[.int .i64 0, .iface 56 (.int .i64 12)] | some k => .tuple #[.int .i64 k, .nilIface]
theorem dk_off {PB DB M : Nat} {w w' : World} {d : Dk} (h : DkAt w DB d) (h1 : PB ≠ DB) (h2 : M ≠ DB) (g : GrX (fun b => b = PB ∨ b = M) w w') : DkAt w' DB d := h.keepX g fun e => e.elim (fun e => h1 e.symm) fun e => h2 e.symm
section
variable {w : World} {PB DB M n : Nat} {c : Ch} {sv : Head} {t : Int} {d : Dk}
set_option maxRecDepth 100000 in
theorem alloc_s (h : PgS w PB DB M n c sv t d) (hn : n < 1000000) : Calls Try.prog 39 #[.pointer (some ⟨PB, 0, none⟩)] w fun e w' => e = .returned (allocV c) ∧ PgS w' PB DB M (n + 1) c.alloc sv t d ∧ PgF PB DB M M w w' := by
  obtain ⟨⟨n', h1, h2⟩, h3, h4, h5⟩ := h
  unfold allocV Ch.alloc
  cases ha : allocF c.h with
  | none =>
    refine (alloc_full_pg PB DB M n' c.h sv c.F t w h2 ha).mono ?_
    rintro e w' ⟨rfl, g⟩
    exact ⟨rfl, ⟨⟨n', by omega, h2.gr g⟩, h3.gr g, h4, h5⟩, PgF.of_gr _ _ _ g⟩
  | some k =>
    have hk : k < 2000 := List.mem_range.1 (List.mem_of_find?_eq_some ha)
    refine (alloc_pg PB DB M n' c.h sv c.F t (by omega) w h2 hk ha).mono ?_
    rintro e w' ⟨rfl, p, g⟩
    exact ⟨rfl, ⟨⟨n' + 1, by omega, p⟩, dk_off h3 h4 h5 g, h4, h5⟩, .inl rfl, grX_three g⟩
/-- nil, or that there is no such page. -/
def rangeV (b : Bool) : Value := if b then .nilIface else .iface 56 (.int .i64 2)
set_option maxRecDepth 100000 in
theorem free_s (h : PgS w PB DB M n c sv t d) (k : Int) : Calls Try.prog 31 #[.pointer (some ⟨PB, 0, none⟩), .int .i64 k] w fun e w' => e = .returned (rangeV (inUse c.h k)) ∧ PgS w' PB DB M (n + 1) (c.free k) sv t d ∧ PgF PB DB M M w w' := by
  obtain ⟨⟨n', h1, h2⟩, h3, h4, h5⟩ := h
  unfold Ch.free
  cases hu : inUse c.h k with
  | false =>
    refine (free_bad_pg PB DB M n' c.h sv c.F false t k w h2 hu).mono ?_
    rintro e w' ⟨rfl, g⟩
    exact ⟨rfl, ⟨⟨n', by omega, h2.gr g⟩, h3.gr g, h4, h5⟩, PgF.of_gr _ _ _ g⟩
  | true =>
    obtain ⟨m, rfl, hm⟩ := inUse_iff.1 hu
    refine (free_pg PB DB M n' c.h sv c.F t m w h2 hu).mono ?_
    rintro e w' ⟨rfl, p, g⟩
    exact ⟨rfl, ⟨⟨n', by omega, p⟩, dk_off h3 h4 h5 g, h4, h5⟩, .inl rfl, grX_three g⟩
set_option maxRecDepth 100000 in
theorem write_s (h : PgS w PB DB M n c sv t d) (hn : n < 1000000) (k : Int) (s : ByteArray) (hs : s.size = 1024) : Calls Try.prog 61 #[.pointer (some ⟨PB, 0, none⟩), .int .i64 k, .string s] w fun e w' => e = .returned (rangeV (inUse c.h k)) ∧ PgS w' PB DB M (n + 1) (c.write k s) sv t d ∧ PgF PB DB M M w w' := by
  obtain ⟨⟨n', h1, h2⟩, h3, h4, h5⟩ := h
  unfold Ch.write
  cases hu : inUse c.h k with
  | false =>
    refine (write_bad_pg PB DB M n' c.h sv c.F false t k s w h2 hu).mono ?_
    rintro e w' ⟨rfl, g⟩
    exact ⟨rfl, ⟨⟨n', by omega, h2.gr g⟩, h3.gr g, h4, h5⟩, PgF.of_gr _ _ _ g⟩
  | true =>
    refine (write_pg PB DB M n' c.h sv c.F t k s hs (by omega) w h2 hu).mono ?_
    rintro e w' ⟨rfl, p, g⟩
    exact ⟨rfl, ⟨⟨n' + 1, by omega, p⟩, dk_off h3 h4 h5 g, h4, h5⟩, .inl rfl, grX_three g⟩
set_option maxRecDepth 100000 in
theorem setRoot_s (h : PgS w PB DB M n c sv t d) (i : Nat) (k m : Int) (hi : i < 8) (hk : 0 ≤ k ∧ k < 2000) (hm : 0 ≤ m ∧ m < 65536) : Calls Try.prog 32 #[.pointer (some ⟨PB, 0, none⟩), .int .i64 i, .int .i64 k, .int .i64 m] w fun e w' => e = .returned .nilIface ∧ PgS w' PB DB M n ⟨c.h.setRoot i k m, c.F⟩ sv t d ∧ PgF PB DB M M w w' := by
  obtain ⟨⟨n', h1, h2⟩, h3, h4, h5⟩ := h
  refine (setRoot_pg PB DB M n' c.h sv c.F t i k m hi hk hm w h2).mono ?_
  rintro e w' ⟨rfl, p, g⟩
  exact ⟨rfl, ⟨⟨n', by omega, p⟩, dk_off h3 h4 h5 g, h4, h5⟩, .inl rfl, grX_three g⟩
set_option maxRecDepth 100000 in
theorem read_s (h : PgS w PB DB M n c sv t d) (k : Int) : Calls Try.prog 45 #[.pointer (some ⟨PB, 0, none⟩), .int .i64 k] w (Ret w (if inUse c.h k then .tuple #[.string (pageNow d.pg c.F k.toNat), .nilIface] else .tuple #[.string ⟨#[]⟩, .iface 56 (.int .i64 2)])) := by
  obtain ⟨⟨n', h1, h2⟩, h3, h4, h5⟩ := h
  cases hu : inUse c.h k with
  | false => exact read_bad_pg PB DB M n' c.h sv c.F false t k w h2 hu
  | true =>
    obtain ⟨m, rfl, hm⟩ := inUse_iff.1 hu
    exact read_pg PB DB M n' c.h sv c.F t d.pg d.cut d.left d.torn m w h2 h3 hu
theorem root_s (h : PgS w PB DB M n c sv t d) (k : Nat) (hk : k < 8) : Calls Try.prog 21 #[.pointer (some ⟨PB, 0, none⟩), .int .i64 k] w (Ret w (.tuple #[.int .i64 (c.h.roots k), .int .i64 (c.h.notes k), .nilIface])) := by
  obtain ⟨⟨n', h1, h2⟩, _⟩ := h
  exact root_pg PB DB M n' c.h sv c.F false t k hk w h2
theorem used_s (h : PgS w PB DB M n c sv t d) : Calls Try.prog 16 #[.pointer (some ⟨PB, 0, none⟩)] w (Ret w (.int .i64 (usedN c.h 2000 : Nat))) := by
  obtain ⟨⟨n', h1, h2⟩, _⟩ := h
  exact used_pg PB DB M n' c.h sv c.F false t w h2
end
end Go.Proofs.Ytmjkalpjciddbaa

/-
  What acts of a pager leave as it was; nodes that are written.
-/
namespace Go.Proofs.Ytmjkalpjciddbaa
open Go Go.RowKit

/-- Of all pages in use but these: in use, and as they were. -/
structure Fr (pg : Nat → ByteArray) (S : List Nat) (c c' : Ch) : Prop where
  fine : c'.fine
  keep : ∀ k, 1 ≤ k → k < 2000 → c.h.used k = true → k ∉ S → c'.h.used k = true ∧ pageNow pg c'.F k = pageNow pg c.F k
  roots : c'.h.roots = c.h.roots
  notes : c'.h.notes = c.h.notes
theorem Fr.refl {pg : Nat → ByteArray} {c : Ch} (h : c.fine) (S : List Nat) : Fr pg S c c := ⟨h, fun _ _ _ hu _ => ⟨hu, rfl⟩, rfl, rfl⟩
theorem Fr.trans {pg : Nat → ByteArray} {S S' : List Nat} {c c1 c2 : Ch} (h : Fr pg S c c1) (h' : Fr pg S' c1 c2) (hs : ∀ k ∈ S', k ∈ S ∨ c.h.used k = false) : Fr pg S c c2 :=
  ⟨h'.fine, fun k h1 h2 hu hn => by
    obtain ⟨a1, a2⟩ := h.keep k h1 h2 hu hn
    obtain ⟨b1, b2⟩ := h'.keep k h1 h2 a1 (fun hm => by
      rcases hs k hm with e | e
      · exact hn e
      · rw [e] at hu; cases hu)
    exact ⟨b1, b2.trans a2⟩, h'.roots.trans h.roots, h'.notes.trans h.notes⟩
theorem Fr.wide {pg : Nat → ByteArray} {S S' : List Nat} {c c' : Ch} (h : Fr pg S c c') (hs : ∀ k ∈ S, k ∈ S' ∨ c.h.used k = false) : Fr pg S' c c' :=
  ⟨h.fine, fun k h1 h2 hu hn => h.keep k h1 h2 hu fun hm => by
    rcases hs k hm with e | e
    · exact hn e
    · rw [e] at hu
      exact Bool.noConfusion hu, h.roots, h.notes⟩
/-- A page that is in use. -/
def InU (c : Ch) (p : Nat) : Prop := 1 ≤ p ∧ p < 2000 ∧ c.h.used p = true
theorem InU.inUse {c : Ch} {p : Nat} (h : InU c p) : inUse c.h (p : Int) = true := inUse_iff.2 ⟨p, rfl, h.1, h.2.1, h.2.2⟩
theorem write_eq {c : Ch} {p : Nat} (h : InU c p) (s : ByteArray) : c.write (p : Nat) s = ⟨c.h, setF c.F p (some s)⟩ := by
  unfold Ch.write
  rw [if_pos h.inUse]
theorem free_eq {c : Ch} {p : Nat} (h : InU c p) : c.free (p : Nat) = ⟨c.h.put p false, setF c.F p none⟩ := by
  unfold Ch.free
  rw [if_pos h.inUse]
  rfl
theorem now_set {pg : Nat → ByteArray} {F : Int → Option ByteArray} {p : Nat} {s : ByteArray} : pageNow pg (setF F (p : Nat) (some s)) p = s := by
  unfold pageNow setF
  rw [if_pos rfl]
theorem now_other {pg : Nat → ByteArray} {F : Int → Option ByteArray} {p k : Nat} (h : k ≠ p) (o : Option ByteArray) : pageNow pg (setF F (p : Nat) o) k = pageNow pg F k := by
  unfold pageNow setF
  rw [if_neg (by omega)]
theorem write_fr {pg : Nat → ByteArray} {c : Ch} {p : Nat} (hc : c.fine) (h : InU c p) {s : ByteArray} (hs : s.size = 1024) : Fr pg [p] c (c.write (p : Nat) s) ∧ InU (c.write (p : Nat) s) p ∧ pageNow pg (c.write (p : Nat) s).F p = s := by
  refine ⟨⟨hc.write_fine _ hs, ?_, ?_, ?_⟩, ?_, ?_⟩
  · intro k h1 h2 hu hn
    rw [write_eq h]
    exact ⟨hu, now_other (by simpa using hn) _⟩
  · rw [write_eq h]
  · rw [write_eq h]
  · rw [write_eq h]
    exact h
  · rw [write_eq h]
    exact now_set
theorem free_fr {pg : Nat → ByteArray} {c : Ch} {p : Nat} (hc : c.fine) (h : InU c p) : Fr pg [p] c (c.free (p : Nat)) := by
  refine ⟨hc.free_fine _, ?_, ?_, ?_⟩
  · intro k h1 h2 hu hn
    rw [free_eq h]
    refine ⟨?_, now_other (by simpa using hn) _⟩
    show (if k = p then false else c.h.used k) = true
    rw [if_neg (by simpa using hn)]
    exact hu
  · rw [free_eq h]; rfl
  · rw [free_eq h]; rfl
theorem alloc_eq {c : Ch} {q : Nat} (h : allocF c.h = some q) : c.alloc = ⟨c.h.put q true, setF c.F q (some zerosB)⟩ := by
  unfold Ch.alloc
  rw [h]
theorem alloc_fr {pg : Nat → ByteArray} {c : Ch} {q : Nat} (hc : c.fine) (h : allocF c.h = some q) : Fr pg [] c c.alloc ∧ InU c.alloc q ∧ c.h.used q = false ∧ 1 ≤ q ∧ q < 2000 := by
  obtain ⟨h1, h2, h3, _⟩ := allocF_some hc.head h
  refine ⟨⟨hc.alloc_fine, ?_, ?_, ?_⟩, ⟨h1, h2, ?_⟩, h3, h1, h2⟩
  · intro k k1 k2 hu _
    have hne : k ≠ q := fun e => by rw [e, h3] at hu; cases hu
    rw [alloc_eq h]
    refine ⟨?_, now_other hne _⟩
    show (if k = q then true else c.h.used k) = true
    rw [if_neg hne]
    exact hu
  · rw [alloc_eq h]; rfl
  · rw [alloc_eq h]; rfl
  · rw [alloc_eq h]
    show (if q = q then true else c.h.used q) = true
    rw [if_pos rfl]
theorem Fr.inU {pg : Nat → ByteArray} {S : List Nat} {c c' : Ch} (h : Fr pg S c c') {k : Nat} (hk : InU c k) (hn : k ∉ S) : InU c' k := ⟨hk.1, hk.2.1, (h.keep k hk.1 hk.2.1 hk.2.2 hn).1⟩
theorem Fr.hasN {pg : Nat → ByteArray} {S : List Nat} {c c' : Ch} (h : Fr pg S c c') {leaf : Bool} {p : Nat} {l : List En} (hk : HasN c pg leaf p l) (hn : p ∉ S) : HasN c' pg leaf p l :=
  ⟨h.inU hk.1 hn, (h.keep p hk.1.1 hk.1.2.1 hk.1.2.2 hn).2.trans hk.2⟩
theorem T.lays_used {c : Ch} {pg : Nat → ByteArray} : {d : Nat} → {t : T d} → t.lays c pg → ∀ k ∈ t.pages, InU c k
  | 0, t, h, k, hk => by
    unfold T.pages at hk
    rw [List.mem_singleton.1 hk]
    exact h.1
  | d + 1, t, h, k, hk => by
    unfold T.pages at hk
    rcases List.mem_cons.1 hk with e | hk
    · rw [e]
      exact h.1.1
    · obtain ⟨x, hx, hk⟩ := List.mem_flatMap.1 hk
      exact T.lays_used (h.2 x hx) k hk
theorem T.lays_fr {pg : Nat → ByteArray} {S : List Nat} {c c' : Ch} (g : Fr pg S c c') : {d : Nat} → {t : T d} → t.lays c pg → (∀ k ∈ t.pages, k ∉ S) → t.lays c' pg
  | 0, t, h, hn => g.hasN h (hn _ (by unfold T.pages; exact List.mem_singleton.2 rfl))
  | d + 1, t, h, hn => ⟨g.hasN h.1 (hn _ (by unfold T.pages; exact List.mem_cons_self)), fun x hx => T.lays_fr g (h.2 x hx) fun k hk => hn k (by
    unfold T.pages
    exact List.mem_cons_of_mem _ (List.mem_flatMap.2 ⟨x, hx, hk⟩))⟩
theorem T.pg_mem : {d : Nat} → (t : T d) → t.pg ∈ t.pages
  | 0, t => by unfold T.pages T.pg; exact List.mem_singleton.2 rfl
  | d + 1, t => by unfold T.pages T.pg; exact List.mem_cons_self
end Go.Proofs.Ytmjkalpjciddbaa

/-
  What is put in leaves a tree a tree: its pages are its own.
-/
namespace Go.Proofs.Ytmjkalpjciddbaa
open Go Go.RowKit

structure PutOk {X : Type} (pg : Nat → ByteArray) (pgf : X → Nat) (pgs : X → List Nat) (lay : Ch → X → Prop) (ok : X → Prop) (p : Nat) (c : Ch) (S : List Nat) (r : Res X) : Prop where
  fr : Fr pg S c r.1
  page : pgf r.2.1 = p
  lays : lay r.1 r.2.1
  fits : ok r.2.1
  sub : ∀ k ∈ pgs r.2.1, k ∈ S ∨ c.h.used k = false
  nd : (pgs r.2.1).Nodup
  more : ∀ m, r.2.2 = some (some m) → lay r.1 m.2 ∧ ok m.2 ∧ m.1.size ≤ 60 ∧ (∀ k ∈ pgs m.2, k ∈ S ∨ c.h.used k = false) ∧ (pgs r.2.1 ++ pgs m.2).Nodup
section
variable {X : Type} {pg : Nat → ByteArray}
def nPages (pgs : X → List Nat) (n : Nat × List (ByteArray × X)) : List Nat := n.1 :: n.2.flatMap fun x => pgs x.2
def nLays (pg : Nat → ByteArray) (en : ByteArray × X → En) (leaf : Bool) (lay : Ch → X → Prop) (c : Ch) (n : Nat × List (ByteArray × X)) : Prop := HasN c pg leaf n.1 (n.2.map en) ∧ ∀ x ∈ n.2, lay c x.2
def nOk (en : ByteArray × X → En) (leaf : Bool) (ok : X → Prop) (n : Nat × List (ByteArray × X)) : Prop := OkN leaf (n.2.map en) ∧ ∀ x ∈ n.2, ok x.2
theorem split_ok {en : ByteArray × X → En} {leaf : Bool} {pgs : X → List Nat} {lay : Ch → X → Prop} {ok : X → Prop}
    (hfr : ∀ (c c' : Ch) S x, Fr pg S c c' → lay c x → (∀ k ∈ pgs x, k ∉ S) → lay c' x) (hus : ∀ (c : Ch) x, lay c x → ∀ k ∈ pgs x, InU c k) (hkey : ∀ x, (en x).key = x.1)
    {c : Ch} {p : Nat} {l old : List (ByteArray × X)} (hc : c.fine) (hp : InU c p) (hl : ∀ x ∈ l, lay c x.2 ∧ ok x.2) (he : ∀ e ∈ l.map en, e.ok leaf) (hne : l ≠ []) (hb : bytesE leaf (l.map en) ≤ 1400)
    (hnd : (nPages pgs (p, l)).Nodup) (hold : nLays pg en leaf lay c (p, old)) (holdo : nOk en leaf ok (p, old)) (holdn : (nPages pgs (p, old)).Nodup) (holds : ∀ k ∈ nPages pgs (p, old), k ∈ nPages pgs (p, l)) :
    PutOk pg Prod.fst (nPages pgs) (nLays pg en leaf lay) (nOk en leaf ok) p c (nPages pgs (p, l)) (splitL en leaf c p l old) := by
  have hnp : ∀ x ∈ l, ∀ k ∈ pgs x.2, k ≠ p := fun x hx k hk e => by
    have := (List.nodup_cons.1 hnd).1
    exact this (List.mem_flatMap.2 ⟨x, hx, by rw [← e]; exact hk⟩)
  by_cases hfit : bytesE leaf (l.map en) ≤ 1024
  · have e : splitL en leaf c p l old = (c.write p (pageE leaf (l.map en)), (p, l), some none) := by
      unfold splitL
      rw [if_pos hfit]
    obtain ⟨w1, w2, w3⟩ := write_fr (pg := pg) hc hp (pageE_size he hfit)
    rw [e]
    refine ⟨w1.wide fun k hk => .inl ?_, rfl, ⟨⟨w2, w3⟩, fun x hx => hfr _ _ _ _ w1 (hl x hx).1 fun k hk hm => hnp x hx k hk (by simpa using hm)⟩, ⟨⟨by simpa using hne, hfit, he⟩, fun x hx => (hl x hx).2⟩, fun k hk => .inl hk, hnd, fun m hm => by cases hm⟩
    rw [List.mem_singleton.1 hk]
    exact List.mem_cons_self
  · cases ha : allocF c.h with
    | none =>
      have e : splitL en leaf c p l old = (c, (p, old), none) := by
        unfold splitL
        rw [if_neg hfit, ha]
      rw [e]
      exact ⟨Fr.refl hc _, rfl, hold, holdo, fun k hk => .inl (holds k hk), holdn, fun m hm => by cases hm⟩
    | some q =>
      obtain ⟨k, hk⟩ : ∃ k, cutE leaf (l.map en) = k := ⟨_, rfl⟩
      have e : splitL en leaf c p l old = ((c.alloc.write p (pageE leaf ((l.map en).take k))).write q (pageE leaf ((l.map en).drop k)), (p, l.take k), some (some (keyOf (l.drop k), (q, l.drop k)))) := by
        unfold splitL
        rw [if_neg hfit, ha]
        simp only [hk]
      obtain ⟨b1, b2, b3, b4⟩ := cutE_bounds he (by omega) hb
      rw [hk] at b1 b2 b3 b4
      rw [List.length_map] at b2
      obtain ⟨a1, a2, a3, a4, a5⟩ := alloc_fr (pg := pg) hc ha
      have het : ∀ e ∈ (l.map en).take k, e.ok leaf := fun e h => he e (List.mem_of_mem_take h)
      have hed : ∀ e ∈ (l.map en).drop k, e.ok leaf := fun e h => he e (List.mem_of_mem_drop h)
      have hpq : p ≠ q := fun e => by rw [← e, hp.2.2] at a3; cases a3
      obtain ⟨w1, w2, w3⟩ := write_fr (pg := pg) a1.fine (a1.inU hp (by simp)) (pageE_size het b3)
      have hq2 := w1.inU a2 (by simpa using hpq.symm)
      obtain ⟨v1, v2, v3⟩ := write_fr (pg := pg) w1.fine hq2 (pageE_size hed b4)
      have hfw : Fr pg [p] c (c.alloc.write p (pageE leaf ((l.map en).take k))) := (a1.wide (S' := [p]) (fun k hk => absurd hk (by simp))).trans w1 fun k hk => .inl hk
      have hfv : Fr pg [p] c ((c.alloc.write p (pageE leaf ((l.map en).take k))).write q (pageE leaf ((l.map en).drop k))) := hfw.trans v1 fun k hk => .inr (by rw [List.mem_singleton.1 hk]; exact a3)
      have hlay : ∀ x ∈ l, lay ((c.alloc.write p (pageE leaf ((l.map en).take k))).write q (pageE leaf ((l.map en).drop k))) x.2 := fun x hx => hfr _ _ _ _ hfv (hl x hx).1 fun k hk hm => hnp x hx k hk (by simpa using hm)
      have hqn : ∀ x ∈ l, q ∉ pgs x.2 := fun x hx hm => by
        have := (hus _ _ (hl x hx).1 q hm).2.2
        rw [a3] at this
        cases this
      have hsplit : l.flatMap (fun x => pgs x.2) = (l.take k).flatMap (fun x => pgs x.2) ++ (l.drop k).flatMap (fun x => pgs x.2) := by
        rw [← List.flatMap_append, List.take_append_drop]
      have hall : ((nPages pgs (p, l.take k)) ++ (nPages pgs (q, l.drop k))).Nodup := by
        unfold nPages at hnd ⊢
        simp only at hnd ⊢
        rw [hsplit] at hnd
        have h1 : ((p :: (l.take k).flatMap (fun x => pgs x.2)) ++ (l.drop k).flatMap (fun x => pgs x.2)).Nodup := by rw [List.cons_append]; exact hnd
        rw [List.nodup_append] at h1 ⊢
        obtain ⟨g1, g2, g3⟩ := h1
        refine ⟨g1, List.nodup_cons.2 ⟨fun hm => ?_, g2⟩, fun a ha b hb => ?_⟩
        · obtain ⟨x, hx, hm⟩ := List.mem_flatMap.1 hm
          exact hqn x (List.mem_of_mem_drop hx) hm
        · rcases List.mem_cons.1 hb with e | hb
          · rw [e]
            intro e2
            rw [e2] at ha
            rcases List.mem_cons.1 ha with e3 | ha
            · exact hpq e3.symm
            · obtain ⟨x, hx, hm⟩ := List.mem_flatMap.1 ha
              exact hqn x (List.mem_of_mem_take hx) hm
          · exact g3 a ha b hb
      have hnt : l.take k ≠ [] := fun e => by
        have := congrArg List.length e
        rw [List.length_take, List.length_nil] at this
        omega
      have hndr : l.drop k ≠ [] := fun e => by
        have := congrArg List.length e
        rw [List.length_drop, List.length_nil] at this
        omega
      rw [e]
      refine ⟨hfv.wide fun j hj => .inl ?_, rfl, ⟨?_, fun x hx => hlay x (List.mem_of_mem_take hx)⟩, ⟨⟨?_, ?_, ?_⟩, fun x hx => (hl x (List.mem_of_mem_take hx)).2⟩, fun j hj => .inl ?_, (List.nodup_append.1 hall).1, fun m hm => ?_⟩
      · rw [List.mem_singleton.1 hj]
        exact List.mem_cons_self
      · show HasN _ pg leaf p ((l.take k).map en)
        rw [List.map_take]
        exact v1.hasN ⟨w2, w3⟩ (by simpa using hpq)
      · simpa using hnt
      · show bytesE leaf ((l.take k).map en) ≤ 1024
        rw [List.map_take]
        exact b3
      · show ∀ e ∈ (l.take k).map en, e.ok leaf
        rw [List.map_take]
        exact het
      · unfold nPages at hj ⊢
        rcases List.mem_cons.1 hj with e | hj
        · rw [e]
          exact List.mem_cons_self
        · refine List.mem_cons_of_mem _ ?_
          rw [hsplit]
          exact List.mem_append_left _ hj
      · injection hm with hm
        injection hm with hm
        subst hm
        have g1 : HasN ((c.alloc.write p (pageE leaf ((l.map en).take k))).write q (pageE leaf ((l.map en).drop k))) pg leaf q ((l.drop k).map en) := by
          rw [List.map_drop]
          exact ⟨v2, v3⟩
        have g2 : OkN leaf ((l.drop k).map en) := by
          rw [List.map_drop]
          exact ⟨by rw [← List.map_drop]; simpa using hndr, b4, hed⟩
        refine ⟨⟨g1, fun x hx => hlay x (List.mem_of_mem_drop hx)⟩, ⟨g2, fun x hx => (hl x (List.mem_of_mem_drop hx)).2⟩, ?_, fun j hj => ?_, hall⟩
        · unfold keyOf
          cases hd : l.drop k with
          | nil => exact absurd hd hndr
          | cons x r =>
            have hx : x ∈ l := List.mem_of_mem_drop (i := k) (by rw [hd]; exact List.mem_cons_self)
            have := (he (en x) (List.mem_map_of_mem hx)).key
            rw [hkey] at this
            simpa using this
        · unfold nPages at hj ⊢
          rcases List.mem_cons.1 hj with e | hj
          · rw [e]
            exact .inr a3
          · refine .inl (List.mem_cons_of_mem _ ?_)
            rw [hsplit]
            exact List.mem_append_right _ hj
end
end Go.Proofs.Ytmjkalpjciddbaa

/-
  What is put in leaves a tree a tree: by induction.
-/
namespace Go.Proofs.Ytmjkalpjciddbaa
open Go Go.RowKit

theorem at_split {α : Type} : ∀ {l : List α} {k : Nat} {x : α}, l[k]? = some x → ∃ l1 l2, l = l1 ++ x :: l2 ∧ l1.length = k
  | [], k, x, h => by simp at h
  | a :: l, 0, x, h => ⟨[], l, by simpa using h, rfl⟩
  | a :: l, k + 1, x, h => by
    obtain ⟨l1, l2, e, hk⟩ := at_split (l := l) (k := k) (x := x) (by simpa using h)
    exact ⟨a :: l1, l2, by rw [e]; rfl, by rw [List.length_cons, hk]⟩
theorem set_mid {α : Type} (x y : α) (l2 : List α) : ∀ l1 : List α, (l1 ++ x :: l2).set l1.length y = l1 ++ y :: l2
  | [] => rfl
  | a :: l1 => by
    have := set_mid x y l2 l1
    simp only [List.cons_append, List.length_cons, List.set_cons_succ, this]
theorem insert_mid {α : Type} (m y : α) (l2 : List α) : ∀ l1 : List α, (l1 ++ y :: l2).insertIdx (l1.length + 1) m = l1 ++ y :: m :: l2
  | [] => by simp
  | a :: l1 => by
    have := insert_mid m y l2 l1
    simp only [List.cons_append, List.length_cons, List.insertIdx_succ_cons, this]
theorem erase_mid {α : Type} (x : α) (l2 : List α) : ∀ l1 : List α, (l1 ++ x :: l2).eraseIdx l1.length = l1 ++ l2
  | [] => rfl
  | a :: l1 => by
    have := erase_mid x l2 l1
    simp only [List.cons_append, List.length_cons, List.eraseIdx_cons_succ, this]
theorem sumE_mem {leaf : Bool} : ∀ {l : List En} {e : En}, e ∈ l → e.sz leaf ≤ sumE leaf l
  | a :: l, e, h => by
    rw [sumE_cons]
    rcases List.mem_cons.1 h with e1 | h
    · rw [e1]; omega
    · have := sumE_mem (leaf := leaf) h
      omega
theorem mem_putL {l : List (ByteArray × ByteArray)} {key item : ByteArray} {x : ByteArray × ByteArray} (h : x ∈ putL l key item) : x ∈ l ∨ x = (key, item) := by
  unfold putL at h
  split at h
  · rcases List.mem_or_eq_of_mem_set h with h | h
    · exact .inl h
    · exact .inr h
  · rw [List.mem_insertIdx (by have := searchE_le (l.map Prod.fst) key; simpa using this)] at h
    exact h.elim .inr .inl
theorem putL_ne {l : List (ByteArray × ByteArray)} {key item : ByteArray} (h : l ≠ []) : putL l key item ≠ [] := by
  have h0 := List.length_pos_iff.2 h
  unfold putL
  split
  · intro e
    have := congrArg List.length e
    rw [List.length_set, List.length_nil] at this
    omega
  · intro e
    have := congrArg List.length e
    rw [List.length_insertIdx, List.length_nil] at this
    split at this <;> omega
theorem sumE_set {leaf : Bool} {y : En} : ∀ (l : List En) (i : Nat), sumE leaf (l.set i y) ≤ sumE leaf l + y.sz leaf
  | [], i => by simp [sumE]
  | a :: l, 0 => by
    rw [List.set_cons_zero, sumE_cons, sumE_cons]
    omega
  | a :: l, i + 1 => by
    have := sumE_set (leaf := leaf) (y := y) l i
    rw [List.set_cons_succ, sumE_cons, sumE_cons]
    omega
theorem sumE_insert {leaf : Bool} {y : En} : ∀ (l : List En) (i : Nat), sumE leaf (l.insertIdx i y) ≤ sumE leaf l + y.sz leaf
  | l, 0 => by
    rw [List.insertIdx_zero, sumE_cons]
    omega
  | [], i + 1 => by simp [sumE]
  | a :: l, i + 1 => by
    have := sumE_insert (leaf := leaf) (y := y) l i
    rw [List.insertIdx_succ_cons, sumE_cons, sumE_cons]
    omega
theorem map_insertIdx' {α β : Type} (f : α → β) (y : α) : ∀ (l : List α) (i : Nat), (l.insertIdx i y).map f = (l.map f).insertIdx i (f y)
  | l, 0 => by simp
  | [], i + 1 => by simp
  | a :: l, i + 1 => by simp [map_insertIdx' f y l i]
theorem putL_bytes {l : List (ByteArray × ByteArray)} {key item : ByteArray} : bytesE true ((putL l key item).map enL) ≤ bytesE true (l.map enL) + (enL (key, item)).sz true := by
  unfold putL bytesE
  split
  · rw [List.map_set]
    have := sumE_set (leaf := true) (y := enL (key, item)) (l.map enL) (searchE (l.map Prod.fst) key)
    omega
  · rw [map_insertIdx']
    have := sumE_insert (leaf := true) (y := enL (key, item)) (l.map enL) (searchE (l.map Prod.fst) key)
    omega
/-- The same, in other words. -/
theorem PutOk.turn {X : Type} {pg : Nat → ByteArray} {pgf pgf' : X → Nat} {pgs pgs' : X → List Nat} {lay lay' : Ch → X → Prop} {ok ok' : X → Prop} {p : Nat} {c : Ch} {S S' : List Nat} {r : Res X}
    (h : PutOk pg pgf pgs lay ok p c S r) (h1 : ∀ x, pgf x = pgf' x) (h2 : ∀ x, pgs x = pgs' x) (h3 : ∀ c x, lay c x → lay' c x) (h4 : ∀ x, ok x → ok' x) (h5 : ∀ k ∈ S, k ∈ S' ∨ c.h.used k = false) : PutOk pg pgf' pgs' lay' ok' p c S' r :=
  ⟨h.fr.wide h5, (h1 _).symm.trans h.page, h3 _ _ h.lays, h4 _ h.fits, fun k hk => (h.sub k (by rw [h2]; exact hk)).elim (h5 k) .inr, by rw [← h2]; exact h.nd, fun m hm => by
    obtain ⟨m1, m2, m3, m4, m5⟩ := h.more m hm
    exact ⟨h3 _ _ m1, h4 _ m2, m3, fun k hk => (m4 k (by rw [h2]; exact hk)).elim (h5 k) .inr, by rw [← h2, ← h2]; exact m5⟩⟩
/-- What was done ahead. -/
theorem PutOk.after {X : Type} {pg : Nat → ByteArray} {pgf : X → Nat} {pgs : X → List Nat} {lay : Ch → X → Prop} {ok : X → Prop} {p : Nat} {c0 c : Ch} {S0 S : List Nat} {r : Res X}
    (h : PutOk pg pgf pgs lay ok p c S r) (h0 : Fr pg S0 c0 c) (hS : ∀ k ∈ S, k ∈ S0 ∨ c0.h.used k = false) (hus : ∀ (c : Ch) x, lay c x → ∀ k ∈ pgs x, InU c k) : PutOk pg pgf pgs lay ok p c0 S0 r := by
  have key : ∀ k, 1 ≤ k → k < 2000 → k ∈ S ∨ c.h.used k = false → k ∈ S0 ∨ c0.h.used k = false := fun k k1 k2 hk => by
    rcases hk with hk | hk
    · exact hS k hk
    · by_cases h1 : k ∈ S0
      · exact .inl h1
      · cases h2 : c0.h.used k with
        | false => exact .inr rfl
        | true =>
          have := (h0.keep k k1 k2 h2 h1).1
          rw [hk] at this
          cases this
  exact ⟨h0.trans h.fr hS, h.page, h.lays, h.fits, fun k hk => key k (hus _ _ h.lays k hk).1 (hus _ _ h.lays k hk).2.1 (h.sub k hk), h.nd, fun m e => by
    obtain ⟨m1, m2, m3, m4, m5⟩ := h.more m e
    exact ⟨m1, m2, m3, fun k hk => key k (hus _ _ m1 k hk).1 (hus _ _ m1 k hk).2.1 (m4 k hk), m5⟩⟩
theorem flat_nil {α β : Type} (l : List α) : l.flatMap (fun _ => ([] : List β)) = [] := by
  induction l with
  | nil => rfl
  | cons a l ih => rw [List.flatMap_cons, ih]; rfl
theorem nPages_nil {X : Type} (n : Nat × List (ByteArray × X)) : nPages (fun _ => []) n = [n.1] := by
  unfold nPages
  rw [flat_nil]
theorem mid_nodup {p : Nat} {a x b m : List Nat} {U : Nat → Prop} (h : (p :: (a ++ (x ++ b))).Nodup) (hm : m.Nodup) (hs : ∀ k ∈ m, k ∈ x ∨ ¬ U k) (hu : ∀ k ∈ p :: (a ++ b), U k) : (p :: (a ++ (m ++ b))).Nodup := by
  obtain ⟨n1, n2⟩ := List.nodup_cons.1 h
  obtain ⟨n3, n4, n5⟩ := List.nodup_append.1 n2
  obtain ⟨n6, n7, n8⟩ := List.nodup_append.1 n4
  refine List.nodup_cons.2 ⟨fun hp => ?_, List.nodup_append.2 ⟨n3, List.nodup_append.2 ⟨hm, n7, fun i hi j hj e => ?_⟩, fun i hi j hj e => ?_⟩⟩
  · rcases List.mem_append.1 hp with hp | hp
    · exact n1 (List.mem_append_left _ hp)
    rcases List.mem_append.1 hp with hp | hp
    · rcases hs p hp with hp | hp
      · exact n1 (List.mem_append_right _ (List.mem_append_left _ hp))
      · exact hp (hu p List.mem_cons_self)
    · exact n1 (List.mem_append_right _ (List.mem_append_right _ hp))
  · subst e
    rcases hs i hi with h | h
    · exact n8 i h i hj rfl
    · exact h (hu i (List.mem_cons_of_mem _ (List.mem_append_right _ hj)))
  · subst e
    rcases List.mem_append.1 hj with hj | hj
    · rcases hs i hj with h | h
      · exact n5 i hi i (List.mem_append_left _ h) rfl
      · exact h (hu i (List.mem_cons_of_mem _ (List.mem_append_left _ hi)))
    · exact n5 i hi i (List.mem_append_right _ hj) rfl
theorem putT_ok {pg : Nat → ByteArray} {key item : ByteArray} (hk : key.size ≤ 60) (hi : item.size ≤ 100) : ∀ {d : Nat} {c : Ch} {t : T d}, c.fine → t.lays c pg → t.okT → t.pages.Nodup →
    PutOk pg T.pg T.pages (fun c (t : T d) => t.lays c pg) T.okT t.pg c t.pages (putT c t key item)
  | 0, c, t, hc, hl, ho, hn => by
    have ha := split_ok (X := ByteArray) (pg := pg) (en := enL) (leaf := true) (pgs := fun _ => []) (lay := fun _ _ => True) (ok := fun _ => True) (fun _ _ _ _ _ _ _ => trivial) (fun _ _ _ _ h => absurd h (by simp)) (fun _ => rfl)
      (c := c) (p := Prod.fst t) (l := putL (Prod.snd t) key item) (old := Prod.snd t) hc hl.1 (fun _ _ => ⟨trivial, trivial⟩)
      (fun e he => by
        obtain ⟨x, hx, rfl⟩ := List.mem_map.1 he
        rcases mem_putL hx with h | h
        · exact ho.2.2 _ (List.mem_map_of_mem h)
        · rw [h]
          exact ⟨hk, hi, by show 0 < 2000; omega, fun _ => rfl, fun h => by cases h⟩)
      (putL_ne (fun e => ho.1 (by rw [e]; rfl)))
      (by
        have h1 := putL_bytes (l := Prod.snd t) (key := key) (item := item)
        have h2 := ho.2.1
        have h3 : (enL (key, item)).sz true ≤ 162 := En.sz_le ⟨hk, hi, by show 0 < 2000; omega, fun _ => rfl, fun h => by cases h⟩
        omega)
      (by rw [nPages_nil]; simp) ⟨hl, fun _ _ => trivial⟩ ⟨ho, fun _ _ => trivial⟩ (by rw [nPages_nil]; simp) (fun k h => by rw [nPages_nil] at h ⊢; exact h)
    exact ha.turn (fun _ => rfl) (fun x => nPages_nil x) (fun _ _ h => h.1) (fun _ h => h.1) (fun k h => .inl (by rw [nPages_nil] at h; exact h))
  | d + 1, c, t, hc, hl, ho, hn => by
    obtain ⟨p, l⟩ : Nat × List (ByteArray × T d) := t
    have hne : l.map Prod.fst ≠ [] := fun e => ho.1.1 (by
      have : l = [] := List.map_eq_nil_iff.1 e
      show l.map enN = []
      rw [this]
      rfl)
    have hdl := downE_lt hne key
    rw [List.length_map] at hdl
    obtain ⟨x, hx⟩ : ∃ x, l[downE (l.map Prod.fst) key]? = some x := ⟨_, List.getElem?_eq_getElem hdl⟩
    obtain ⟨l1, l2, hle, hk1⟩ := at_split hx
    have hxm : x ∈ l := by rw [hle]; simp
    have hpn : (p :: (l1.flatMap (fun y => y.2.pages) ++ (x.2.pages ++ l2.flatMap fun y => y.2.pages))).Nodup := by
      have h : (p :: l.flatMap fun y => y.2.pages).Nodup := hn
      rw [hle, List.flatMap_append, List.flatMap_cons] at h
      exact h
    obtain ⟨n1, n2⟩ := List.nodup_cons.1 hpn
    obtain ⟨n3, n4, n5⟩ := List.nodup_append.1 n2
    obtain ⟨n6, n7, n8⟩ := List.nodup_append.1 n4
    have hlx : ∀ y ∈ l, y.2.lays c pg := hl.2
    have hox : ∀ y ∈ l, y.2.okT := ho.2
    have hpu : InU c p := hl.1.1
    have hnode : HasN c pg false p (l.map enN) := hl.1
    have hokn : OkN false (l.map enN) := ho.1
    have ih := putT_ok (pg := pg) hk hi hc (hlx x hxm) (hox x hxm) n6
    have hS : ∀ k ∈ x.2.pages, k ∈ p :: l.flatMap (fun y => y.2.pages) := fun k h => List.mem_cons_of_mem _ (List.mem_flatMap.2 ⟨x, hxm, h⟩)
    have hoth : ∀ y, y ∈ l1 ∨ y ∈ l2 → y ∈ l ∧ ∀ k ∈ y.2.pages, k ∉ x.2.pages := fun y hy => by
      rcases hy with hy | hy
      · refine ⟨by rw [hle]; exact List.mem_append_left _ hy, fun k h1 h2 => n5 k (List.mem_flatMap.2 ⟨y, hy, h1⟩) k (List.mem_append_left _ h2) rfl⟩
      · refine ⟨by rw [hle]; exact List.mem_append_right _ (List.mem_cons_of_mem _ hy), fun k h1 h2 => n8 k h2 k (List.mem_flatMap.2 ⟨y, hy, h1⟩) rfl⟩
    have husd : ∀ k ∈ p :: (l1.flatMap (fun y => y.2.pages) ++ l2.flatMap fun y => y.2.pages), InU c k := fun k h => by
      rcases List.mem_cons.1 h with e | h
      · rw [e]; exact hpu
      · rcases List.mem_append.1 h with h | h
        · obtain ⟨y, hy, h⟩ := List.mem_flatMap.1 h
          exact T.lays_used (hlx y (hoth y (.inl hy)).1) k h
        · obtain ⟨y, hy, h⟩ := List.mem_flatMap.1 h
          exact T.lays_used (hlx y (hoth y (.inr hy)).1) k h
    have hpx : p ∉ x.2.pages := fun h => n1 (List.mem_append_right _ (List.mem_append_left _ h))
    rcases hr : putT c x.2 key item with ⟨c1, u, r⟩
    rw [hr] at ih
    have hfr := ih.fr
    have hpg : u.pg = x.2.pg := ih.page
    have hlu : u.lays c1 pg := ih.lays
    have hou : u.okT := ih.fits
    have hsu : ∀ k ∈ u.pages, k ∈ x.2.pages ∨ c.h.used k = false := ih.sub
    have hnu : u.pages.Nodup := ih.nd
    have hmo := ih.more
    simp only at hfr hmo
    have hset : l.set (downE (l.map Prod.fst) key) (x.1, u) = l1 ++ (x.1, u) :: l2 := by rw [← hk1, hle, set_mid]
    have hins : ∀ m, (l1 ++ (x.1, u) :: l2).insertIdx (downE (l.map Prod.fst) key + 1) m = l1 ++ (x.1, u) :: m :: l2 := fun m => by rw [← hk1, insert_mid]
    have hmap : (l1 ++ (x.1, u) :: l2).map enN = l.map enN := by
      rw [hle]
      simp only [List.map_append, List.map_cons]
      have : enN (x.1, u) = enN x := by
        unfold enN
        rw [hpg]
      rw [this]
    have hlo : ∀ y, y ∈ l1 ∨ y ∈ l2 → y.2.lays c1 pg ∧ y.2.okT := fun y hy => ⟨T.lays_fr hfr (hlx y (hoth y hy).1) (hoth y hy).2, hox y (hoth y hy).1⟩
    have hn1 : HasN c1 pg false p (l.map enN) := hfr.hasN hnode hpx
    -- the new list, of so many in the place of one
    have hnd1 : ∀ ms : List (ByteArray × T d), (ms.flatMap fun y => y.2.pages).Nodup → (∀ y ∈ ms, ∀ k ∈ y.2.pages, k ∈ x.2.pages ∨ c.h.used k = false) → (nPages T.pages (p, l1 ++ (ms ++ l2))).Nodup := fun ms h1 h2 => by
      unfold nPages
      simp only
      rw [List.flatMap_append, List.flatMap_append]
      refine mid_nodup (U := fun k => c.h.used k = true) hpn h1 (fun k h => ?_) (fun k h => (husd k h).2.2)
      obtain ⟨y, hy, h⟩ := List.mem_flatMap.1 h
      rcases h2 y hy k h with e | e
      · exact .inl e
      · exact .inr (by rw [e]; simp)
    have hsub1 : ∀ ms : List (ByteArray × T d), (∀ y ∈ ms, ∀ k ∈ y.2.pages, k ∈ x.2.pages ∨ c.h.used k = false) → ∀ k ∈ nPages T.pages (p, l1 ++ (ms ++ l2)), k ∈ (p :: l.flatMap fun y => y.2.pages) ∨ c.h.used k = false := fun ms h2 k h => by
      unfold nPages at h
      simp only at h
      rcases List.mem_cons.1 h with e | h
      · exact .inl (by rw [e]; exact List.mem_cons_self)
      · rw [List.flatMap_append, List.flatMap_append] at h
        rcases List.mem_append.1 h with h | h
        · obtain ⟨y, hy, h⟩ := List.mem_flatMap.1 h
          exact .inl (List.mem_cons_of_mem _ (List.mem_flatMap.2 ⟨y, (hoth y (.inl hy)).1, h⟩))
        rcases List.mem_append.1 h with h | h
        · obtain ⟨y, hy, h⟩ := List.mem_flatMap.1 h
          rcases h2 y hy k h with e | e
          · exact .inl (hS k e)
          · exact .inr e
        · obtain ⟨y, hy, h⟩ := List.mem_flatMap.1 h
          exact .inl (List.mem_cons_of_mem _ (List.mem_flatMap.2 ⟨y, (hoth y (.inr hy)).1, h⟩))
    have hu1 : ∀ y ∈ [(x.1, u)], ∀ k ∈ y.2.pages, k ∈ x.2.pages ∨ c.h.used k = false := fun y hy k h => by
      rw [List.mem_singleton.1 hy] at h
      exact hsu k h
    have hndu : (nPages T.pages (p, l1 ++ (x.1, u) :: l2)).Nodup := hnd1 [(x.1, u)] (by simpa using hnu) hu1
    have hsubu : ∀ k ∈ nPages T.pages (p, l1 ++ (x.1, u) :: l2), k ∈ (p :: l.flatMap fun y => y.2.pages) ∨ c.h.used k = false := hsub1 [(x.1, u)] hu1
    have hlayu : ∀ y ∈ l1 ++ (x.1, u) :: l2, y.2.lays c1 pg ∧ y.2.okT := fun y hy => by
      rcases List.mem_append.1 hy with h | h
      · exact hlo y (.inl h)
      rcases List.mem_cons.1 h with e | h
      · rw [e]; exact ⟨hlu, hou⟩
      · exact hlo y (.inr h)
    have hpu1 : InU c1 p := hn1.1
    have hold : nLays pg enN false (fun c (t : T d) => t.lays c pg) c1 (p, l1 ++ (x.1, u) :: l2) := ⟨by
      show HasN c1 pg false p ((l1 ++ (x.1, u) :: l2).map enN)
      rw [hmap]
      exact hn1, fun y hy => (hlayu y hy).1⟩
    have holdo : nOk enN false (fun t : T d => t.okT) (p, l1 ++ (x.1, u) :: l2) := ⟨by
      show OkN false ((l1 ++ (x.1, u) :: l2).map enN)
      rw [hmap]
      exact hokn, fun y hy => (hlayu y hy).2⟩
    have hus : ∀ (c : Ch) (t : T d), t.lays c pg → ∀ k ∈ t.pages, InU c k := fun c t h => T.lays_used h
    have husn : ∀ (c : Ch) (n : Nat × List (ByteArray × T d)), nLays pg enN false (fun c (t : T d) => t.lays c pg) c n → ∀ k ∈ nPages T.pages n, InU c k := fun c n h k hk => by
      unfold nPages at hk
      rcases List.mem_cons.1 hk with e | hk
      · rw [e]; exact h.1.1
      · obtain ⟨y, hy, hk⟩ := List.mem_flatMap.1 hk
        exact hus c _ (h.2 y hy) k hk
    have hfw : Fr pg (p :: l.flatMap fun y => y.2.pages) c c1 := hfr.wide fun k h => .inl (hS k h)
    have huf : InU c1 u.pg := T.lays_used hlu _ (T.pg_mem u)
    cases r with
    | none =>
      have e0 : putT (d := d + 1) c (p, l) key item = (c1, (p, l1 ++ (x.1, u) :: l2), none) := by
        refine (putT.eq_2 c key item d ((p, l) : Nat × List (ByteArray × T d))).trans ?_
        simp only [hx, hr, hset]
        rfl
      rw [e0]
      exact ⟨hfw, rfl, hold, holdo, hsubu, hndu, fun m hm => by cases hm⟩
    | some r =>
      cases r with
      | none =>
        have e0 : putT (d := d + 1) c (p, l) key item = splitL (X := T d) enN false c1 p (l1 ++ (x.1, u) :: l2) (l1 ++ (x.1, u) :: l2) := by
          refine (putT.eq_2 c key item d ((p, l) : Nat × List (ByteArray × T d))).trans ?_
          simp only [hx, hr, hset]
          rfl
        rw [e0]
        have ha := split_ok (X := T d) (pg := pg) (en := enN) (leaf := false) (pgs := T.pages) (lay := fun c (t : T d) => t.lays c pg) (ok := T.okT) (fun c c' S t g h hn => T.lays_fr g h hn) hus (fun _ => rfl)
          (c := c1) (p := p) (l := l1 ++ (x.1, u) :: l2) (old := l1 ++ (x.1, u) :: l2) hfr.fine hpu1 hlayu holdo.1.2.2 (by simp) (by have := holdo.1.2.1; simp only at this; omega) hndu hold holdo hndu (fun k h => h)
        exact ha.after hfw hsubu husn
      | some m =>
        obtain ⟨m1, m2, m3, m4, m5⟩ := hmo m rfl
        have e0 : putT (d := d + 1) c (p, l) key item = splitL (X := T d) enN false c1 p (l1 ++ (x.1, u) :: m :: l2) (l1 ++ (x.1, u) :: l2) := by
          refine (putT.eq_2 c key item d ((p, l) : Nat × List (ByteArray × T d))).trans ?_
          simp only [hx, hr, hset, hins]
          rfl
        rw [e0]
        have hum : ∀ y ∈ [(x.1, u), m], ∀ k ∈ y.2.pages, k ∈ x.2.pages ∨ c.h.used k = false := fun y hy k h => by
          rcases List.mem_cons.1 hy with e | hy
          · rw [e] at h
            exact hsu k h
          · rw [List.mem_singleton.1 hy] at h
            exact m4 k h
        have hndm : (nPages T.pages (p, l1 ++ (x.1, u) :: m :: l2)).Nodup := hnd1 [(x.1, u), m] (by simpa using m5) hum
        have hsubm : ∀ k ∈ nPages T.pages (p, l1 ++ (x.1, u) :: m :: l2), k ∈ (p :: l.flatMap fun y => y.2.pages) ∨ c.h.used k = false := hsub1 [(x.1, u), m] hum
        have hlaym : ∀ y ∈ l1 ++ (x.1, u) :: m :: l2, y.2.lays c1 pg ∧ y.2.okT := fun y hy => by
          rcases List.mem_append.1 hy with h | h
          · exact hlo y (.inl h)
          rcases List.mem_cons.1 h with e | h
          · rw [e]; exact ⟨hlu, hou⟩
          rcases List.mem_cons.1 h with e | h
          · rw [e]; exact ⟨m1, m2⟩
          · exact hlo y (.inr h)
        have hmp : InU c1 m.2.pg := T.lays_used m1 _ (T.pg_mem m.2)
        have hem : (enN m).ok false := ⟨m3, by show (0 : Nat) ≤ 100; omega, hmp.2.1, fun h => (by cases h), fun _ => rfl⟩
        have heo := holdo.1.2.2
        simp only [List.map_append, List.map_cons] at heo
        have hbm : bytesE false ((l1 ++ (x.1, u) :: m :: l2).map enN) ≤ 1400 := by
          have h1 := holdo.1.2.1
          have h2 := En.sz_le hem
          simp only [List.map_append, List.map_cons, bytesE, sumE_append, sumE_cons] at h1 ⊢
          omega
        have ha := split_ok (X := T d) (pg := pg) (en := enN) (leaf := false) (pgs := T.pages) (lay := fun c (t : T d) => t.lays c pg) (ok := T.okT) (fun c c' S t g h hn => T.lays_fr g h hn) hus (fun _ => rfl)
          (c := c1) (p := p) (l := l1 ++ (x.1, u) :: m :: l2) (old := l1 ++ (x.1, u) :: l2) hfr.fine hpu1 hlaym (fun e he => by
            simp only [List.map_append, List.map_cons] at he
            rcases List.mem_append.1 he with h | h
            · exact heo e (List.mem_append_left _ h)
            rcases List.mem_cons.1 h with h | h
            · exact heo e (List.mem_append_right _ (by rw [h]; exact List.mem_cons_self))
            rcases List.mem_cons.1 h with h | h
            · rw [h]; exact hem
            · exact heo e (List.mem_append_right _ (List.mem_cons_of_mem _ h))) (by simp) hbm hndm hold holdo hndu (fun k h => by
            unfold nPages at h ⊢
            simp only [List.flatMap_append, List.flatMap_cons, List.mem_cons, List.mem_append] at h ⊢
            rcases h with h | h | h | h
            · exact .inl h
            · exact .inr (.inl h)
            · exact .inr (.inr (.inl h))
            · exact .inr (.inr (.inr (.inr h))))
        exact ha.after hfw hsubm husn
end Go.Proofs.Ytmjkalpjciddbaa

/-
  What is taken out leaves a tree a tree.
-/
namespace Go.Proofs.Ytmjkalpjciddbaa
open Go Go.RowKit

def T.kidsLay (c : Ch) (pg : Nat → ByteArray) : {d : Nat} → T d → Prop
  | 0, _ => True
  | _ + 1, t => ∀ x ∈ Prod.snd t, x.2.lays c pg
def T.kidsOk : {d : Nat} → T d → Prop
  | 0, _ => True
  | _ + 1, t => ∀ x ∈ Prod.snd t, x.2.okT
theorem T.lays_iff {c : Ch} {pg : Nat → ByteArray} : {d : Nat} → {t : T d} → (t.lays c pg ↔ HasN c pg (isLeaf d) t.pg t.ents ∧ t.kidsLay c pg)
  | 0, t => ⟨fun h => ⟨h, trivial⟩, fun h => h.1⟩
  | d + 1, t => Iff.rfl
theorem T.okT_iff : {d : Nat} → {t : T d} → (t.okT ↔ OkN (isLeaf d) t.ents ∧ t.kidsOk)
  | 0, t => ⟨fun h => ⟨h, trivial⟩, fun h => h.1⟩
  | d + 1, t => Iff.rfl
theorem T.pages_eq : {d : Nat} → (t : T d) → t.pages = t.pg :: t.pages.tail
  | 0, t => by unfold T.pages T.pg; rfl
  | d + 1, t => by unfold T.pages T.pg; rfl
theorem T.kids_fr {pg : Nat → ByteArray} {S : List Nat} {c c' : Ch} (g : Fr pg S c c') : {d : Nat} → {t : T d} → t.kidsLay c pg → (∀ k ∈ t.pages.tail, k ∉ S) → t.kidsLay c' pg
  | 0, t, h, hn => trivial
  | d + 1, t, h, hn => fun x hx => T.lays_fr g (h x hx) fun k hk => hn k (by
    unfold T.pages
    exact List.mem_flatMap.2 ⟨x, hx, hk⟩)
theorem meet_pages : {d : Nat} → (a : T d) → (k : ByteArray) → (b : T d) → (a.meet k b).pages = a.pages ++ b.pages.tail
  | 0, a, k, b => by unfold T.pages T.meet; rfl
  | d + 1, a, k, b => by
    obtain ⟨p, l⟩ : Nat × List (ByteArray × T d) := a
    obtain ⟨q, m⟩ : Nat × List (ByteArray × T d) := b
    show (p :: (l ++ reKey k m).flatMap fun x => x.2.pages) = (p :: l.flatMap fun x => x.2.pages) ++ m.flatMap fun x => x.2.pages
    rw [List.cons_append, List.flatMap_append]
    cases m <;> rfl
theorem meet_pg : {d : Nat} → (a : T d) → (k : ByteArray) → (b : T d) → (a.meet k b).pg = a.pg
  | 0, a, k, b => rfl
  | d + 1, a, k, b => rfl
theorem meet_kids {c : Ch} {pg : Nat → ByteArray} : {d : Nat} → {a : T d} → {k : ByteArray} → {b : T d} → a.kidsLay c pg → b.kidsLay c pg → (a.meet k b).kidsLay c pg
  | 0, a, k, b, _, _ => trivial
  | d + 1, a, k, b, ha, hb => fun x hx => by
    obtain ⟨p, l⟩ : Nat × List (ByteArray × T d) := a
    obtain ⟨q, m⟩ : Nat × List (ByteArray × T d) := b
    have hx : x ∈ l ++ reKey k m := hx
    rcases List.mem_append.1 hx with h | h
    · exact ha x h
    · cases m with
      | nil => cases h
      | cons y r =>
        rcases List.mem_cons.1 h with e | h
        · rw [e]
          exact hb y List.mem_cons_self
        · exact hb x (List.mem_cons_of_mem _ h)
/-- The entries of two nodes as one. -/
def meetE (leaf : Bool) (a : List En) (k : ByteArray) (b : List En) : List En := a ++ (if leaf then b else reKeyE k b)
theorem meet_ents : {d : Nat} → (a : T d) → (k : ByteArray) → (b : T d) → (a.meet k b).ents = meetE (isLeaf d) a.ents k b.ents
  | 0, a, k, b => by
    obtain ⟨p, l⟩ : Nat × List (ByteArray × ByteArray) := a
    obtain ⟨q, m⟩ : Nat × List (ByteArray × ByteArray) := b
    show (l ++ m).map enL = l.map enL ++ m.map enL
    rw [List.map_append]
  | d + 1, a, k, b => by
    obtain ⟨p, l⟩ : Nat × List (ByteArray × T d) := a
    obtain ⟨q, m⟩ : Nat × List (ByteArray × T d) := b
    show (l ++ reKey k m).map enN = l.map enN ++ reKeyE k (m.map enN)
    rw [List.map_append]
    cases m <;> rfl
theorem meet_ok : {d : Nat} → {a : T d} → {k : ByteArray} → {b : T d} → a.okT → b.okT → k.size ≤ 60 → bytesE (isLeaf d) (a.meet k b).ents ≤ 1024 → (a.meet k b).okT
  | 0, a, k, b, ha, hb, hk, hs => by
    obtain ⟨p, l⟩ : Nat × List (ByteArray × ByteArray) := a
    obtain ⟨q, m⟩ : Nat × List (ByteArray × ByteArray) := b
    refine ⟨fun e => ha.1 ?_, hs, fun e he => ?_⟩
    · have : (l ++ m).map enL = [] := e
      rw [List.map_append] at this
      exact (List.append_eq_nil_iff.1 this).1
    · have he : e ∈ (l ++ m).map enL := he
      rw [List.map_append] at he
      rcases List.mem_append.1 he with h | h
      · exact ha.2.2 e h
      · exact hb.2.2 e h
  | d + 1, a, k, b, ha, hb, hk, hs => by
    obtain ⟨p, l⟩ : Nat × List (ByteArray × T d) := a
    obtain ⟨q, m⟩ : Nat × List (ByteArray × T d) := b
    have ha1 : OkN false (l.map enN) := ha.1
    have hb1 : OkN false (m.map enN) := hb.1
    refine ⟨⟨fun e => ha1.1 ?_, hs, fun e he => ?_⟩, fun x hx => ?_⟩
    · have : (l ++ reKey k m).map enN = [] := e
      rw [List.map_append] at this
      exact (List.append_eq_nil_iff.1 this).1
    · have he : e ∈ (l ++ reKey k m).map enN := he
      rw [List.map_append] at he
      rcases List.mem_append.1 he with h | h
      · exact ha1.2.2 e h
      · cases m with
        | nil => cases h
        | cons y r =>
          rcases List.mem_cons.1 h with e1 | h
          · rw [e1]
            have := hb1.2.2 (enN y) List.mem_cons_self
            exact ⟨hk, this.item, this.page, this.isL, this.node⟩
          · exact hb1.2.2 e (List.mem_cons_of_mem _ h)
    · have hx : x ∈ l ++ reKey k m := hx
      rcases List.mem_append.1 hx with h | h
      · exact ha.2 x h
      · cases m with
        | nil => cases h
        | cons y r =>
          rcases List.mem_cons.1 h with e | h
          · rw [e]
            exact hb.2 y List.mem_cons_self
          · exact hb.2 x (List.mem_cons_of_mem _ h)
/-- What taking out leaves. -/
structure DropOk (pg : Nat → ByteArray) {d : Nat} (c : Ch) (t : T d) (r : Ch × T d) : Prop where
  fr : Fr pg t.pages c r.1
  page : r.2.pg = t.pg
  lays : r.2.lays r.1 pg
  fits : r.2.ents ≠ [] → r.2.okT
  sub : ∀ k ∈ r.2.pages, k ∈ t.pages
  nd : r.2.pages.Nodup
theorem sumE_sub {leaf : Bool} {a b : List En} (h : a.Sublist b) : sumE leaf a ≤ sumE leaf b := by
  induction h with
  | slnil => exact Nat.le_refl _
  | cons x _ ih => rw [sumE_cons]; omega
  | cons_cons x _ ih => rw [sumE_cons, sumE_cons]; omega
theorem bytes_nil (leaf : Bool) : bytesE leaf [] ≤ 1024 := by
  unfold bytesE sumE
  simp
end Go.Proofs.Ytmjkalpjciddbaa

/-
  A page is read as what was written.
-/
namespace Go.Proofs.Ytmjkalpjciddbaa
open Go Go.RowKit

/-- Of all blocks that are not v's: as they were, and not those of v'. -/
def Moved (v v' : Value) (w w' : World) : Prop := w.heap.size ≤ w'.heap.size ∧ ∀ k, k < w.heap.size → v.ownBlock ≠ some k → v'.ownBlock ≠ some k ∧ w'.heap[k]? = w.heap[k]?
theorem Moved.keeps {v v' : Value} {w w' : World} (h : Moved v v' w w') {k o : Nat} {u : Value} (hv : v.ownBlock ≠ some k) (hc : w.cell? ⟨k, o, none⟩ = some u) : w'.cell? ⟨k, o, none⟩ = some u :=
  (World.cell?_of_block (h.2 k (lt_of_cell hc) hv).2).trans hc
/-- 'append(l, e)'. -/
theorem append_ent {a0 w : World} {ops : Array Oper} {rest : List Oper} {o : Oper} {a : Act} {Q : Exit → Act → World → Prop} (hgd : o.guard = none) (s x : Operand)
    (ho : o.op = .call { callee := .builtin .append, args := #[s, x], argTypes := #[82, 82] }) (v : Value) (us : List En) (e : En) (hs : a.eval s = v) (hown : OwnE a0 w v us) (B : Nat) (hB : w.heap.size = B) (hx : a.eval x = .slice (some ⟨B, 0, none⟩) 1 1) (hl : us.length ≤ 100000) (hg : Gr a0 w)
    (h : ∀ v' w', OwnE a0 w' v' (us ++ [e]) → Gr a0 w' → Moved v v' w w' → wpList Try.prog ops Q rest (a.put o.dst v') w') : wpList Try.prog ops Q (o :: rest) a (w.alloc (.cells #[.string e.key, .string e.item, .int .i64 (e.page : Int)] 72)) := by
  obtain ⟨i0, hinf, hz0, hz1, hz2⟩ := info_entry_parts
  subst hB
  refine wpList_append_own_at _ hgd s x 82 ho a0.heap.size 72 i0 (.agg #[.string ⟨#[]⟩, .string ⟨#[]⟩, .int .i64 0]) 3 40 Try.underlying82 hinf hz0 hz1 hz2 rfl (by decide) v us.length (cellsE us) hs (hown.alloc _) ⟨w.heap.size, 0, none⟩ 1 1 e.cells hx rfl ?_ e.cells_one (by unfold maxLen; omega) (by omega) (by have := hg.size; simp; omega)
    (fun v' w' h1 h2 _ h4 => h v' w' (ownE_snoc h1) (gr_grown (hg.alloc _) h2 (ownBlock_ge hown)) ⟨by have := h2.size; simp at this; omega, fun k hk hne => ⟨fun e1 => by
      rcases h4 with h4 | h4
      · exact hne (h4.symm.trans e1)
      · rw [h4] at e1
        have := Option.some.inj e1
        simp at this
        omega, (h2.block k (by simp; omega) (fun e1 => hne e1.symm)).trans (Below.heap_alloc _ _ _ hk)⟩⟩)
  intro j u hj
  rw [add_lit3, World.cell?_alloc_new, Nat.zero_add]
  simpa [En.cells] using hj
theorem ext_part (s : ByteArray) (a b c : List UInt8) (h : s.data.toList = a ++ (b ++ c)) : s.extract a.length (a.length + b.length) = ⟨b.toArray⟩ := by
  apply bytes_ext
  rw [ByteArray.data_extract, Array.toList_extract, h]
  show ((a ++ (b ++ c)).drop a.length).take (a.length + b.length - a.length) = b
  rw [List.drop_left, Nat.add_sub_cancel_left, List.take_left]
theorem ext_rest (s : ByteArray) (a c : List UInt8) (h : s.data.toList = a ++ c) : s.extract a.length s.size = ⟨c.toArray⟩ := by
  apply bytes_ext
  rw [ByteArray.data_extract, Array.toList_extract, h]
  have hs : s.size = a.length + c.length := by rw [size_data, h, List.length_append]
  show ((a ++ c).drop a.length).take (s.size - a.length) = c
  rw [List.drop_left, hs, Nat.add_sub_cancel_left, List.take_length]
theorem get_at (s : ByteArray) (j : Nat) (hj : j < s.size) (l : List UInt8) (h : s.data.toList = l) (hl : j < l.length) : s[j] = l[j] := by
  rw [get_data s j hj]
  subst h
  rfl
/-- What is left of a page's text behind so many entries. -/
def leftE (leaf : Bool) (l : List En) (i : Nat) : ByteArray := ⟨(restE leaf (l.drop i) ++ List.replicate (1024 - bytesE leaf l) 0).toArray⟩
theorem leftE_data (leaf : Bool) (l : List En) (i : Nat) : (leftE leaf l i).data.toList = restE leaf (l.drop i) ++ List.replicate (1024 - bytesE leaf l) 0 := by
  unfold leftE
  simp
theorem leftE_next (leaf : Bool) (l : List En) (i : Nat) (h : i < l.length) : (leftE leaf l i).data.toList = (l[i]).txt leaf ++ (leftE leaf l (i + 1)).data.toList := by
  rw [leftE_data, leftE_data, ← List.append_assoc]
  congr 1
  unfold restE
  rw [List.drop_eq_getElem_cons h, List.flatMap_cons]
theorem leftE_size (leaf : Bool) (l : List En) (i : Nat) (hok : ∀ e ∈ l, e.ok leaf) (hb : bytesE leaf l ≤ 1024) : (leftE leaf l i).size ≤ 1021 := by
  rw [size_data, leftE_data, List.length_append, restE_len (fun e he => hok e (List.mem_of_mem_drop he)), List.length_replicate]
  have := sumE_sub (leaf := leaf) (List.drop_sublist i l)
  unfold bytesE at *
  omega
theorem eta_ba (s : ByteArray) : (⟨s.data.toList.toArray⟩ : ByteArray) = s := bytes_ext (by simp)
/-- A tree in memory: its pager, and its root. -/
structure TreeAt (w : World) (TP PB root : Nat) : Prop where
  p : w.cell? ⟨TP, 0, none⟩ = some (.pointer (some ⟨PB, 0, none⟩))
  r : w.cell? ⟨TP, 1, none⟩ = some (.int .i64 (root : Int))
theorem TreeAt.gr {w w' : World} {TP PB root : Nat} (h : TreeAt w TP PB root) (g : Gr w w') : TreeAt w' TP PB root := ⟨g.keeps h.p, g.keeps h.r⟩
theorem TreeAt.pg {w w' : World} {TP PB DB M M' root : Nat} (h : TreeAt w TP PB root) (g : PgF PB DB M M' w w') (h1 : TP ≠ PB) (h2 : TP ≠ DB) (h3 : TP ≠ M) : TreeAt w' TP PB root := ⟨g.keeps h1 h2 h3 h.p, g.keeps h1 h2 h3 h.r⟩
end Go.Proofs.Ytmjkalpjciddbaa
