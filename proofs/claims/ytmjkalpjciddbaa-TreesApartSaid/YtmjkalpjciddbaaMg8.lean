/-
  The contracts of pager.settle and of (*Pager).logs.
-/
import Derived.Test.YtmjkalpjciddbaaMg4
import Derived.Test.YtmjkalpjciddbaaMg5
import Derived.Deep.RegionHeld3
import Derived.Carry
namespace Go.Proofs.Ytmjkalpjciddbaa
open Go Go.RowKit

/-- A disk in memory, as plain data. -/
def DkAt (w : World) (B : Nat) (d : Dk) : Prop := DiskAt w B d.pg d.cut d.left d.torn
theorem DkAt.gr {w w' : World} {B : Nat} {d : Dk} (h : DkAt w B d) (g : Gr w w') : DkAt w' B d := DiskAt.gr h g
theorem DkAt.keepX {S : Nat → Prop} {w w' : World} {B : Nat} {d : Dk} (h : DkAt w B d) (g : GrX S w w') (hs : ¬ S B) : DkAt w' B d := DiskAt.keepX h g hs
theorem DkAt.lt {w : World} {B : Nat} {d : Dk} (h : DkAt w B d) : B < w.heap.size := lt_of_cell h.2.1
/-- What a write answers. -/
def errD (b : Bool) : Value := if b then .nilIface else .iface 56 (.int .i64 14)
theorem write_dk (B : Nat) (d : Dk) (k : Nat) (s : ByteArray) (w : World) (hk : k < 4001) (hs : s.size = 1024) (hw : d.whole) (hl : -1000000 ≤ d.left ∧ d.left ≤ 1000000) (h : DkAt w B d) :
    Calls Try.prog 35 #[.pointer (some ⟨B, 0, none⟩), .int .i64 k, .string s] w fun e w' => e = .returned (errD (wrD d k s).1) ∧ DkAt w' B (wrD d k s).2 ∧ GrX (fun b => b = B) w w' := by
  unfold wrD
  split
  · rename_i hon
    refine (write_on B d.pg d.cut d.left d.torn k hk s hs hon (by omega) w h).mono ?_
    rintro e w' ⟨rfl, h1, h2⟩
    exact ⟨rfl, h1, GrX.of_grown h2 rfl⟩
  · rename_i hon
    refine (write_off B d.pg d.cut d.left d.torn k hk s hs (Bool.not_eq_true _ ▸ hon : d.on = false) (hw k hk) w h).mono ?_
    rintro e w' ⟨rfl, h1, h2⟩
    exact ⟨rfl, h1, GrX.of_grown h2 rfl⟩
/-- A slice does not lie in this block. -/
def OffV (v : Value) (B : Nat) : Prop := ∀ b off n c, v = .slice (some ⟨b, off, none⟩) n c → b ≠ B
theorem RowV.wrote {α : Type} {enc : α → Value} {w w' : World} {v : Value} {xs : List α} {B : Nat} (h : RowV enc w v xs) (ho : OffV v B) (g : GrX (fun b => b = B) w w') : RowV enc w' v xs := h.keepX g ho
theorem fill0 (w : World) : Calls Try.prog 36 #[.string ⟨#[]⟩] w (Ret w (.string zerosB)) := by
  have := fill_g ⟨#[]⟩ (by decide) w
  have e : (⟨(fillF (⟨#[]⟩ : ByteArray).data.toList).toArray⟩ : ByteArray) = zerosB := data_ext (by rw [zerosB_fill, ba_eta])
  rw [e] at this
  exact this
set_option maxRecDepth 100000 in
set_option maxHeartbeats 1600000 in
theorem settle_g (B : Nat) (d : Dk) (ps : List Nat) (L : List ByteArray) (pv lv : Value) (w : World) (hp : RowV natV w pv ps) (hl : RowV Value.string w lv L) (hpB : OffV pv B) (hlB : OffV lv B) (hlen : ps.length = L.length) (hps : ∀ k ∈ ps, k < 2000) (hsz : ∀ s ∈ L, s.size = 1024) (hn : ps.length ≤ 2000)
    (hd : DkAt w B d) (hw : d.whole) (hlf : -900000 ≤ d.left ∧ d.left ≤ 1000000) :
    Calls Try.prog 18 #[.pointer (some ⟨B, 0, none⟩), pv, lv] w fun e w' => e = .returned (errD (wrsD d (settleE ps L)).1) ∧ DkAt w' B (wrsD d (settleE ps L)).2 ∧ GrX (fun b => b = B) w w' := by
  obtain ⟨po, pc, rfl⟩ := hp.form
  obtain ⟨lo, lc, rfl⟩ := hl.form
  have HP := Lib.hid hp
  have HL := Lib.hid hl
  have HPB := Lib.hid hpB
  have HLB := Lib.hid hlB
  have HW := Lib.hid hw
  have HD := Lib.hid hd
  have HPS := Lib.hid hps
  have HSZ := Lib.hid hsz
  have hzl : (ps.zip L).length = ps.length := by rw [List.length_zip]; omega
  have hok : okE (ps.zip L) := fun x hx => by
    obtain ⟨h1, h2⟩ := List.of_mem_zip (show (x.1, x.2) ∈ ps.zip L from hx)
    exact ⟨by have := hps _ h1; omega, hsz _ h2⟩
  have HOK := Lib.hid hok
  have HLN := Lib.hid hlen
  clear hp hl hpB hlB hw hd hps hsz hok hlen
  go_enter Try.func18, Try.ntmps18
  go_wp2_with fail
  go_loopw [12] (fun kv w' => ∃ (i : Nat) (e : Dk), i ≤ ps.length ∧ kv = .int .i64 i ∧ wrsD d ((ps.zip L).take i) = (true, e) ∧ DkAt w' B e ∧ GrX (fun b => b = B) w w') (fun kv _ => ps.length - (intOf kv).toNat)
  case atStart => exact ⟨0, d, Nat.zero_le _, rfl, rfl, HD.out, GrX.refl _ _⟩
  case round =>
    obtain ⟨i, e, hi, rfl, he, hde, hg⟩ := hrel
    have HE := Lib.hid he
    have hew : e.whole := by
      have := wrsD_whole ((ps.zip L).take i) HW.out (fun x hx => HOK.out x (List.mem_of_mem_take hx))
      rw [he] at this
      exact this
    have hel : d.left - i ≤ e.left ∧ e.left ≤ d.left := by
      have h3 := wrsD_left ((ps.zip L).take i) d
      rw [he] at h3
      have h4 : d.left - (((ps.zip L).take i).length : Int) ≤ e.left ∧ e.left ≤ d.left := h3
      rw [List.length_take] at h4
      omega
    have HEW := Lib.hid hew
    have HDE := Lib.hid hde
    clear he hew hde
    by_cases hlt : i < ps.length
    · obtain ⟨b, off, rfl, hc⟩ := (HP.out.wrote HPB.out hg).at hlt
      obtain ⟨b2, off2, rfl, hc2⟩ := (HL.out.wrote HLB.out hg).at (i := i) (by rw [← HLN.out]; exact hlt)
      have c0 := hc i hlt
      have hlt2 : i < L.length := by rw [← HLN.out]; exact hlt
      have c1 := hc2 i hlt2
      have hiz : i < (ps.zip L).length := by omega
      have hx : (ps.zip L)[i] = (ps[i], L[i]) := by rw [List.getElem_zip]
      have HX := Lib.hid hx
      have hk := HPS.out _ (List.getElem_mem hlt)
      have hs := HSZ.out _ (List.getElem_mem hlt2)
      have HNX : Hid (∀ e', (wrD e ps[i] L[i]).1 = true → (wrD e ps[i] L[i]).2 = e' → wrsD d ((ps.zip L).take (i + 1)) = (true, e')) := Lib.hid fun e' h1 h2 => by
        have := wrsD_next hiz HE.out (by rw [HX.out]; exact h1)
        rw [this, HX.out]
        show (true, (wrD e ps[i] L[i]).2) = _
        rw [h2]
      have HST : Hid ((wrD e ps[i] L[i]).1 = false → wrsD d (settleE ps L) = (false, (wrD e ps[i] L[i]).2)) := Lib.hid fun h1 => by
        have := wrsD_stop (m := [(2000, zerosB)]) hiz HE.out (by rw [HX.out]; exact h1)
        rw [HX.out] at this
        exact this
      unfold natV at c0
      clear hc hc2 hx
      generalize ps[i] = k at *
      generalize L[i] = s at *
      go_wp2_with fail
      refine (write_dk B e k s _ (by omega) hs HEW.out (by omega) HDE.out).mono ?_
      rintro e1 w1 ⟨rfl, hd1, hg1⟩
      have HD1 := Lib.hid hd1
      have hgg := hg.trans hg1
      cases hon : (wrD e k s).1
      · have HSS := Lib.hid (HST.out hon)
        clear hd1 hon
        unfold errD
        go_wp2_with fail
        go_ret
        rw [HSS.out]
        exact ⟨rfl, HD1.out, hgg⟩
      · have HNN := Lib.hid (HNX.out _ hon rfl)
        clear hd1 hon
        unfold errD
        go_wp2_with fail
        go_roundw
        case rel =>
          exact ⟨i + 1, _, by omega, by go_num, HNN.out, HD1.out, hgg⟩
        case measure =>
          simp [intOf]
          omega
    · obtain rfl : i = ps.length := by omega
      have hall : (ps.zip L).take ps.length = ps.zip L := List.take_of_length_le (by omega)
      have HFIN : Hid (wrsD d (settleE ps L) = wrD e 2000 zerosB) := Lib.hid (by
        unfold settleE
        have := HE.out
        rw [hall] at this
        rw [wrsD_append, this, if_pos rfl, wrsD_cons]
        show (if (wrD e 2000 zerosB).1 then wrsD (wrD e 2000 zerosB).2 [] else (false, (wrD e 2000 zerosB).2)) = _
        cases h : (wrD e 2000 zerosB).1
        · exact Prod.ext h.symm rfl
        · exact Prod.ext h.symm rfl)
      clear hall
      go_wp2_with fail
      refine (fill0 _).mono ?_
      rintro e1 w1 ⟨rfl, hg1⟩
      have HDE1 := Lib.hid (HDE.out.gr hg1)
      go_wp2_with fail
      refine (write_dk B e 2000 zerosB _ (by omega) zerosB_sz HEW.out (by omega) HDE1.out).mono ?_
      rintro e2 w2 ⟨rfl, hd2, hg2⟩
      have HD2 := Lib.hid hd2
      clear hd2
      go_wp2_with fail
      go_ret
      rw [HFIN.out]
      exact ⟨rfl, HD2.out, (hg.trans (GrX.of_gr hg1)).trans hg2⟩
end Go.Proofs.Ytmjkalpjciddbaa

/-
  The contracts of a pager's Root, SetRoot, Used, Alloc.
-/
namespace Go.Proofs.Ytmjkalpjciddbaa
open Go Go.RowKit

theorem results_tmp3 {P : Program} {fn : Func} {a b c : Nat} {tmps : Array Value} {w : World} (hr : fn.results = #[ResultVar.tmp a, ResultVar.tmp b, ResultVar.tmp c]) :
    (results fn tmps).run P w = .ok (.tuple #[tmps.getD a undef, tmps.getD b undef, tmps.getD c undef]) w := by
  simp [results, hr]
set_option maxRecDepth 100000 in
set_option maxHeartbeats 1600000 in
theorem root_bad_pg (PB DB M n : Nat) (h sv : Head) (F : Int → Option ByteArray) (down : Bool) (times : Int) (k : Int) (hk : k < 0 ∨ 8 ≤ k) (w : World) (_ : PagerAt w PB DB M n h sv F down times) :
    Calls Try.prog 21 #[.pointer (some ⟨PB, 0, none⟩), .int .i64 k] w (Ret w (.tuple #[.int .i64 0, .int .i64 0, .iface 56 (.int .i64 2)])) := by
  go_enter Try.func21, Try.ntmps21
  go_wp2_with fail
  all_goals first | omega | skip
  all_goals
    refine bodyPost_ret (results_tmp3 rfl) rfl ?_
    exact Ret.mk rfl (Gr.refl _)
set_option maxRecDepth 100000 in
set_option maxHeartbeats 1600000 in
theorem root_pg (PB DB M n : Nat) (h sv : Head) (F : Int → Option ByteArray) (down : Bool) (times : Int) (k : Nat) (hk : k < 8) (w : World) (p : PagerAt w PB DB M n h sv F down times) :
    Calls Try.prog 21 #[.pointer (some ⟨PB, 0, none⟩), .int .i64 k] w (Ret w (.tuple #[.int .i64 (h.roots k), .int .i64 (h.notes k), .nilIface])) := by
  have c0 := p.head.root k hk
  have c1 := p.head.note k hk
  clear p
  generalize h.roots k = r0 at *
  generalize h.notes k = r1 at *
  go_enter Try.func21, Try.ntmps21
  go_wp2_with fail
  go_region
  all_goals
    go_wp2_with fail
    refine bodyPost_ret (results_tmp3 rfl) rfl ?_
    refine Ret.mk rfl ?_
    repeat (with_reducible first | refine Gr.drew ?_ | refine Gr.alloc ?_ _)
    exact Gr.refl _
set_option maxRecDepth 100000 in
set_option maxHeartbeats 1600000 in
theorem setRoot_bad_pg (PB DB M n : Nat) (h sv : Head) (F : Int → Option ByteArray) (down : Bool) (times : Int) (i k t : Int) (hk : i < 0 ∨ 8 ≤ i ∨ k < 0 ∨ 2000 ≤ k ∨ t < 0 ∨ 65536 ≤ t) (w : World) (_ : PagerAt w PB DB M n h sv F down times) :
    Calls Try.prog 32 #[.pointer (some ⟨PB, 0, none⟩), .int .i64 i, .int .i64 k, .int .i64 t] w (Ret w (.iface 56 (.int .i64 2))) := by
  go_enter Try.func32, Try.ntmps32
  go_wp2_with fail
  all_goals first | omega | skip
  all_goals
    go_ret
    exact Ret.mk rfl (Gr.refl _)
set_option maxRecDepth 100000 in
set_option maxHeartbeats 1600000 in
theorem setRoot_pg (PB DB M n : Nat) (h sv : Head) (F : Int → Option ByteArray) (times : Int) (i : Nat) (k t : Int) (hi : i < 8) (hk : 0 ≤ k ∧ k < 2000) (ht : 0 ≤ t ∧ t < 65536) (w : World) (p : PagerAt w PB DB M n h sv F false times) :
    Calls Try.prog 32 #[.pointer (some ⟨PB, 0, none⟩), .int .i64 i, .int .i64 k, .int .i64 t] w fun e w' => e = .returned .nilIface ∧ PagerAt w' PB DB M n (h.setRoot i k t) sv F false times ∧ GrX (fun b => b = PB ∨ b = M) w w' := by
  have c0 := p.head.root i hi
  have c1 := p.head.note i hi
  have cd := p.down
  have z0 := p.free (2001 + i)
  have z1 := p.free (2009 + i)
  have P := Lib.hid p
  clear p
  go_enter Try.func32, Try.ntmps32
  go_wp2_with fail
  all_goals first | omega | skip
  go_region
  all_goals
    go_wp2_with fail
    go_ret
    refine ⟨rfl, PagerAt.gr (w := (w.setCell ⟨PB, 2001 + i, none⟩ (.int .i64 k)).setCell ⟨PB, 2009 + i, none⟩ (.int .i64 t)) ?_ ?_, ?_⟩
    · exact (P.out.putRoot hi k).putNote hi t
    · exact (Gr.refl _).drew
    · exact ((GrX.setCell _ _ (.inl rfl)).trans (GrX.setCell _ _ (.inl rfl))).trans (GrX.drew _)
end Go.Proofs.Ytmjkalpjciddbaa

/-
  The contracts of a pager's Used and Alloc.
-/
namespace Go.Proofs.Ytmjkalpjciddbaa
open Go Go.RowKit

theorem run_index_used (A : Array Value) (i : Nat) (hi : i < 2000) (b : Bool) (hA : A[i]? = some (.bool b)) (W : World) : (Instr.index 42 (.agg A) (.int .i64 i)).run Try.prog W = .ok (.bool b) W := by
  have h2 : (i : Int) < 2000 := by omega
  have h3 : ¬ 2000 ≤ i := by omega
  simp [Instr.index, run_underlying Try.underlying42, asIntOf, part, Try.isAgg4, Try.sizeOf4, go_sem, hA]
  intro h4
  exact absurd h4 h3
theorem info_used : (Try.prog.info? 42).map (·.size) = some 2000 := by kernel_rfl
def usedCells (h : Head) : List Value := (List.range 2000).map fun i => Value.bool (h.used i)
theorem usedCells_len (h : Head) : (usedCells h).length = 2000 := by rw [usedCells, List.length_map, List.length_range]
theorem usedCells_at (h : Head) {i : Nat} (hi : i < 2000) : (usedCells h).toArray[i]? = some (.bool (h.used i)) := by
  rw [List.getElem?_toArray, usedCells, List.getElem?_map, List.getElem?_range hi]
  rfl
theorem HeadAt.usedRange {w : World} {B o : Nat} {h : Head} (a : HeadAt w B o h) : w.rangeAt B o (usedCells h) := fun j v hv => by
  have hj : j < 2000 := by
    have := (List.getElem?_eq_some_iff.1 hv).1
    rw [usedCells_len] at this
    exact this
  have := usedCells_at h hj
  rw [List.getElem?_toArray, hv] at this
  rw [a.used j hj, this]
set_option maxRecDepth 100000 in
set_option maxHeartbeats 1600000 in
theorem used_pg (PB DB M n : Nat) (h sv : Head) (F : Int → Option ByteArray) (down : Bool) (times : Int) (w : World) (p : PagerAt w PB DB M n h sv F down times) :
    Calls Try.prog 16 #[.pointer (some ⟨PB, 0, none⟩)] w (Ret w (.int .i64 (usedN h 2000 : Nat))) := by
  have hrg := p.head.usedRange
  have HRG := Lib.hid hrg
  clear hrg p
  have hix := fun (i : Nat) (hi : i < 2000) => run_index_used (usedCells h).toArray i hi (h.used i) (usedCells_at h hi)
  have hul := usedCells_len h
  generalize hcs : usedCells h = cs at *
  have HIX := Lib.hid hix
  clear hcs hix
  have h0 : ∀ N, N = 0 → usedN h N = 0 := fun N e => by subst e; rfl
  have HUL := Lib.hid hul
  clear hul
  go_enter Try.func16, Try.ntmps16
  go_wp2_with (refine wpList_load_mid rfl 42 _ rfl PB 1 rfl _ _ HRG.out Try.underlying42 rfl (by rw [info_used, HUL.out]) ?_)
  try go_frame
  clear HRG HUL
  generalize cs.toArray = A at *
  go_loopw [11, 3] (fun kv nv w' => ∃ i : Nat, i ≤ 2000 ∧ kv = .int .i64 i ∧ nv = .int .i64 (usedN h i : Nat) ∧ w' = w) (fun kv _ _ => 2000 - (intOf kv).toNat)
  case atStart => exact ⟨0, Nat.zero_le _, rfl, rfl, rfl⟩
  case round =>
    obtain ⟨i, hi, rfl, rfl, rfl⟩ := hrel
    have hle := usedN_le h i
    by_cases hlt : i < 2000
    · have hx := HIX.out i hlt
      have HN : Hid (usedN h (i + 1) = usedN h i + if h.used i then 1 else 0) := Lib.hid rfl
      generalize usedN h i = u0 at *
      cases hu : h.used i
      · rw [hu] at hx
        have HU := Lib.hid hu
        clear hu
        go_wp2_with fail
        refine ⟨⟨i + 1, by omega, by go_num, ?_, trivial⟩, by simp [intOf]; omega⟩
        rw [HN.out, HU.out]
        rfl
      · rw [hu] at hx
        have HU := Lib.hid hu
        clear hu
        go_wp2_with fail
        refine ⟨⟨i + 1, by omega, by go_num, ?_, trivial⟩, by simp [intOf]; omega⟩
        rw [HN.out, HU.out]
        rfl
    · obtain rfl : i = 2000 := by omega
      go_wp2_with fail
      go_ret
      exact Ret.mk rfl (Gr.refl _)
theorem allocF_first {h : Head} {k : Nat} (hk : k < 2000) (h1 : ∀ j, j < k → h.used j = true) (h2 : h.used k = false) : allocF h = some k := by
  unfold allocF
  have e : List.range 2000 = List.range k ++ k :: List.range' (k + 1) (1999 - k) := by
    rw [List.range_eq_range', List.range_eq_range', show 2000 = k + (1999 - k + 1) by omega, ← List.range'_append_1, List.range'_succ]
    simp
  rw [e, List.find?_append, List.find?_eq_none.2 (fun j hj => by rw [h1 j (List.mem_range.1 hj)]; decide), Option.none_or, List.find?_cons_of_pos (by rw [h2]; rfl)]
theorem allocF_none {h : Head} (h1 : ∀ j, j < 2000 → h.used j = true) : allocF h = none :=
  List.find?_eq_none.2 fun j hj => by rw [h1 j (List.mem_range.1 hj)]; decide
def idxF (h : Head) : Int := match allocF h with | none => -1 | some k => k
set_option maxRecDepth 100000 in
set_option maxHeartbeats 1600000 in
theorem index_b (B : Nat) (h : Head) (w : World) (a : HeadAt w B 1 h) :
    Calls Try.prog 60 #[.slice (some ⟨B, 1, none⟩) 2000 2000, .bool false] w (Ret w (.int .i64 (idxF h))) := by
  have HA := Lib.hid a
  clear a
  go_enter Try.func60, Try.ntmps60
  go_wp2_with fail
  go_loopw [8] (fun kv w' => ∃ i : Nat, i ≤ 2000 ∧ kv = .int .i64 i ∧ (∀ j, j < i → h.used j = true) ∧ w' = w) (fun kv _ => 2000 - (intOf kv).toNat)
  case atStart => exact ⟨0, Nat.zero_le _, rfl, fun j hj => absurd hj (Nat.not_lt_zero _), rfl⟩
  case round =>
    obtain ⟨i, hi, rfl, hj, rfl⟩ := hrel
    have HJ := Lib.hid hj
    clear hj
    by_cases hlt : i < 2000
    · have c0 := HA.out.used i hlt
      cases hu : h.used i
      · rw [hu] at c0
        have HI : Hid (idxF h = (i : Int)) := Lib.hid (by unfold idxF; rw [allocF_first hlt HJ.out hu])
        clear hu
        go_wp2_with fail
        go_ret
        rw [HI.out]
        exact Ret.mk rfl (Gr.refl _)
      · rw [hu] at c0
        have HJ1 : Hid (∀ j, j < i + 1 → h.used j = true) := Lib.hid fun j hj => by
          rcases Nat.lt_or_ge j i with h1 | h1
          · exact HJ.out j h1
          · obtain rfl : j = i := by omega
            exact hu
        clear hu
        go_wp2_with fail
        refine ⟨⟨i + 1, by omega, by go_num, HJ1.out, trivial⟩, by simp [intOf]; omega⟩
    · obtain rfl : i = 2000 := by omega
      have HI : Hid (idxF h = -1) := Lib.hid (by unfold idxF; rw [allocF_none HJ.out])
      go_wp2_with fail
      go_ret
      rw [HI.out]
      exact Ret.mk rfl (Gr.refl _)
set_option maxRecDepth 100000 in
set_option maxHeartbeats 1600000 in
theorem alloc_full_pg (PB DB M n : Nat) (h sv : Head) (F : Int → Option ByteArray) (times : Int) (w : World) (p : PagerAt w PB DB M n h sv F false times) (ha : allocF h = none) :
    Calls Try.prog 39 #[.pointer (some ⟨PB, 0, none⟩)] w (Ret w (.tuple #[.int .i64 0, .iface 56 (.int .i64 12)])) := by
  have cd := p.down
  have hix := index_b PB h w p.head
  have HI : idxF h = -1 := by unfold idxF; rw [ha]
  rw [HI] at hix
  have HIX := Lib.hid hix
  clear hix HI ha p
  go_enter Try.func39, Try.ntmps39
  go_wp2_with fail
  refine HIX.out.mono ?_
  rintro e w1 ⟨rfl, hg1⟩
  go_wp2_with fail
  go_ret2
  exact Ret.mk rfl hg1
set_option maxRecDepth 100000 in
set_option maxHeartbeats 3200000 in
theorem alloc_pg (PB DB M n : Nat) (h sv : Head) (F : Int → Option ByteArray) (times : Int) (hn : n < 1000000) (w : World) (p : PagerAt w PB DB M n h sv F false times) {k : Nat} (hk : k < 2000) (ha : allocF h = some k) :
    Calls Try.prog 39 #[.pointer (some ⟨PB, 0, none⟩)] w fun e w' => e = .returned (.tuple #[.int .i64 k, .nilIface]) ∧ PagerAt w' PB DB M (n + 1) (h.put k true) sv (setF F k (some zerosB)) false times ∧ GrX (fun b => b = PB ∨ b = M) w w' := by
  have cd := p.down
  have hix := index_b PB h w p.head
  have HI : idxF h = k := by unfold idxF; rw [ha]
  rw [HI] at hix
  have HIX := Lib.hid hix
  have P := Lib.hid p
  clear hix HI ha p
  go_enter Try.func39, Try.ntmps39
  go_wp2_with fail
  refine HIX.out.mono ?_
  rintro e w1 ⟨rfl, hg1⟩
  have P1 := Lib.hid (P.out.gr hg1)
  have c0 := P1.out.head.used k hk
  have z0 := P1.out.free (1 + k)
  have P2 := Lib.hid (P1.out.put hk true)
  have c1 := P2.out.map
  have hst := fun w2 (hg : Gr (w1.setCell ⟨PB, 1 + k, none⟩ (.bool true)).drew w2) => (P2.out.gr ((Gr.refl _).drew.trans hg)).dirty.storeF hn (k := (k : Int)) (by omega) zerosB (by rw [zerosB_sz]; omega)
  go_wp2_with fail
  go_region_with (first
    | (go_at_call 36; refine (fill0 _).mono ?_; rintro e w2 ⟨rfl, hg2⟩; have k0 := hg2.keeps ((Gr.refl _).drew.keeps c1); obtain ⟨w5, hmu, hM5, hg5⟩ := hst w2 hg2; have HM5 := Lib.hid hM5; have HG2 := Lib.hid hg2; clear hM5))
  all_goals
    go_wp2_with fail
    go_ret2
    exact ⟨rfl, (P2.out.gr ((Gr.refl _).drew.trans HG2.out)).remap hg5 HM5.out, ((((GrX.of_gr hg1).trans (GrX.setCell _ _ (.inl rfl))).trans (GrX.drew _)).trans (GrX.of_gr HG2.out)).trans (GrX.of_grown hg5 (.inr rfl))⟩
end Go.Proofs.Ytmjkalpjciddbaa

/-
  The contract of a pager's Rollback.
-/
namespace Go.Proofs.Ytmjkalpjciddbaa
open Go Go.RowKit

/-- Another head is written into it. -/
theorem PagerAt.reHead {w : World} {PB DB M n : Nat} {h sv : Head} {F : Int → Option ByteArray} {down : Bool} {times : Int} (p : PagerAt w PB DB M n h sv F down times) (g : Head) : PagerAt (w.setCells PB 1 g.cells) PB DB M n g sv F down times := by
  have gx : GrX (fun k => k = PB) w (w.setCells PB 1 g.cells) := setCells_block PB g.cells 1 w
  have hM : ¬ (fun k => k = PB) M := fun e => p.ne e.symm
  exact ⟨cell_setCells_far p.disk g (by omega), p.head.over p.free g, cell_setCells_far p.map g (by omega), p.saved.overFar 1 g (by omega), cell_setCells_far p.down g (by omega), cell_setCells_far p.times g (by omega), fun o => by rw [World.frozen?_setCells]; exact p.free o, p.dirty.keepX gx hM, p.ne⟩
/-- Its head is written over the one that is saved. -/
theorem PagerAt.reSave {w : World} {PB DB M n : Nat} {h sv : Head} {F : Int → Option ByteArray} {down : Bool} {times : Int} (p : PagerAt w PB DB M n h sv F down times) (g : Head) : PagerAt (w.setCells PB 2018 g.cells) PB DB M n h g F down times := by
  have gx : GrX (fun k => k = PB) w (w.setCells PB 2018 g.cells) := setCells_block PB g.cells 2018 w
  have hM : ¬ (fun k => k = PB) M := fun e => p.ne e.symm
  exact ⟨cell_setCells_far p.disk g (by omega), p.head.overFar 2018 g (by omega), cell_setCells_far p.map g (by omega), p.saved.over p.free g, cell_setCells_far p.down g (by omega), cell_setCells_far p.times g (by omega), fun o => by rw [World.frozen?_setCells]; exact p.free o, p.dirty.keepX gx hM, p.ne⟩
/-- Another map is its. -/
theorem PagerAt.reMap {w : World} {PB DB M n : Nat} {h sv : Head} {F : Int → Option ByteArray} {down : Bool} {times : Int} (p : PagerAt w PB DB M n h sv F down times) {M' n' : Nat} {F' : Int → Option ByteArray} (hM : MapAt w M' n' F') (hne : PB ≠ M') : PagerAt (w.setCell ⟨PB, 2017, none⟩ (.map (some M'))) PB DB M' n' h sv F' down times :=
  ⟨cell_off (by omega) p.disk, p.head.far _ _ (by omega), World.cell?_setCell_same _ _ _ p.map, p.saved.far _ _ (by omega), cell_off (by omega) p.down, cell_off (by omega) p.times, fun o => by simpa using p.free o, hM.far hne _ _, hne⟩
/-- A head is loaded: its value under a name. -/
theorem wpList_load_head {ops : Array Oper} {rest : List Oper} {op : Oper} {a : Act} {w : World} {Q : Exit → Act → World → Prop} (hgd : op.guard = none) (x : Operand) (ho : op.op = .load 45 x) (b o : Nat) (h : Head)
    (hx : a.eval x = .pointer (some ⟨b, o, none⟩)) (ha : HeadAt w b o h) (hk : ∀ A : Array Value, Hid (A = h.cells.toArray) → wpList Try.prog ops Q rest (a.put op.dst (.agg A)) w) : wpList Try.prog ops Q (op :: rest) a w :=
  wpList_load_mid hgd 45 x ho b o hx _ _ ha.range Try.underlying45 rfl (by rw [info_head, Head.cells_len]) (hk _ (Lib.hid rfl))
/-- A head is stored: the world under a name. -/
theorem wpList_store_head {ops : Array Oper} {rest : List Oper} {op : Oper} {a : Act} {w : World} {Q : Exit → Act → World → Prop} (hgd : op.guard = none) (x y : Operand) (ho : op.op = .store 45 x y) (b o : Nat) (h h0 : Head) (A : Array Value)
    (hx : a.eval x = .pointer (some ⟨b, o, none⟩)) (hy : a.eval y = .agg A) (hv : A = h.cells.toArray) (ha : HeadAt w b o h0) (hf : ∀ j, w.frozen? ⟨b, j, none⟩ = false)
    (hk : ∀ w', Hid (w' = w.setCells b o h.cells) → wpList Try.prog ops Q rest (a.put op.dst undef) w') : wpList Try.prog ops Q (op :: rest) a w := by
  subst hv
  refine wpList_store_mid hgd 45 x y ho b o _ hx hy ?_ (by rw [info_head, Head.arr_len]) (all_oneCell_toArray (Head.cells_one _)) ?_
  · rw [Head.arr_len]
    exact ha.there hf
  · exact hk _ (Lib.hid rfl)
theorem reHead_of {w w' : World} {PB DB M n : Nat} {h sv : Head} {F : Int → Option ByteArray} {down : Bool} {times : Int} {g : Head} (hw : Hid (w' = w.setCells PB 1 g.cells)) (p : PagerAt w PB DB M n h sv F down times) : PagerAt w' PB DB M n g sv F down times ∧ GrX (fun k => k = PB) w w' := by
  rw [hw.out]
  exact ⟨p.reHead g, setCells_block PB g.cells 1 w⟩
theorem reSave_of {w w' : World} {PB DB M n : Nat} {h sv : Head} {F : Int → Option ByteArray} {down : Bool} {times : Int} {g : Head} (hw : Hid (w' = w.setCells PB 2018 g.cells)) (p : PagerAt w PB DB M n h sv F down times) : PagerAt w' PB DB M n h g F down times ∧ GrX (fun k => k = PB) w w' := by
  rw [hw.out]
  exact ⟨p.reSave g, setCells_block PB g.cells 2018 w⟩
end Go.Proofs.Ytmjkalpjciddbaa
