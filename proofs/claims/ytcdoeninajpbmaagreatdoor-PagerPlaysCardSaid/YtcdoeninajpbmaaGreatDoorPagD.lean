/-
  The contracts of pager.settle and of (*Pager).logs.
-/
import Derived.Test.YtcdoeninajpbmaaGreatDoorPagK
import Derived.Test.YtcdoeninajpbmaaGreatDoorPagA
namespace Go.Proofs.YtcdoeninajpbmaaGreatDoor
open Go Go.RowKit

/-- A disk in memory, as plain data. -/
def DkAt (w : World) (B : Nat) (d : Dk) : Prop := DiskAt w B d.pg d.cut d.left d.torn
theorem DkAt.gr {w w' : World} {B : Nat} {d : Dk} (h : DkAt w B d) (g : Gr w w') : DkAt w' B d := DiskAt.gr h g
theorem DkAt.keepX {S : Nat → Prop} {w w' : World} {B : Nat} {d : Dk} (h : DkAt w B d) (g : GrX S w w') (hs : ¬ S B) : DkAt w' B d := DiskAt.keepX h g hs
theorem DkAt.lt {w : World} {B : Nat} {d : Dk} (h : DkAt w B d) : B < w.heap.size := lt_of_cell h.2.1
/-- What a write answers. -/
def errD (b : Bool) : Value := if b then .nilIface else .iface 33 (.int .i64 14)
theorem write_dk (B : Nat) (d : Dk) (k : Nat) (s : ByteArray) (w : World) (hk : k < 4001) (hs : s.size = 1024) (hw : d.whole) (hl : -1000000 ≤ d.left ∧ d.left ≤ 1000000) (h : DkAt w B d) :
    Calls Tryz.prog 37 #[.pointer (some ⟨B, 0, none⟩), .int .i64 k, .string s] w fun e w' => e = .returned (errD (wrD d k s).1) ∧ DkAt w' B (wrD d k s).2 ∧ GrX (fun b => b = B) w w' := by
  unfold wrD
  split
  · rename_i hon
    refine (write_on B d.pg d.cut d.left d.torn k hk s hs hon (by omega) w h).mono ?_
    rintro e w' ⟨rfl, h1, h2⟩
    exact ⟨rfl, h1, GrX.of_grown h2 rfl⟩
  · rename_i hon
    refine (write_off B d.pg d.cut d.left d.torn k hk s hs (Bool.not_eq_true _ ▸ hon : d.on = false) (hw k hk) w h).mono ?_
    rintro e w' ⟨rfl, h1, h2⟩
    exact ⟨rfl, h1, GrX.of_grown h2 rfl⟩
/-- A slice does not lie in this block. -/
def OffV (v : Value) (B : Nat) : Prop := ∀ b off n c, v = .slice (some ⟨b, off, none⟩) n c → b ≠ B
theorem RowV.wrote {α : Type} {enc : α → Value} {w w' : World} {v : Value} {xs : List α} {B : Nat} (h : RowV enc w v xs) (ho : OffV v B) (g : GrX (fun b => b = B) w w') : RowV enc w' v xs := h.keepX g ho
theorem fill0 (w : World) : Calls Tryz.prog 29 #[.string ⟨#[]⟩] w (Ret w (.string zerosB)) := by
  have := fill_g ⟨#[]⟩ (by decide) w
  have e : (⟨(fillF (⟨#[]⟩ : ByteArray).data.toList).toArray⟩ : ByteArray) = zerosB := data_ext (by rw [zerosB_fill, ba_eta])
  rw [e] at this
  exact this
set_option maxRecDepth 100000 in
set_option maxHeartbeats 1600000 in
theorem settle_g (B : Nat) (d : Dk) (ps : List Nat) (L : List ByteArray) (pv lv : Value) (w : World) (hp : RowV natV w pv ps) (hl : RowV Value.string w lv L) (hpB : OffV pv B) (hlB : OffV lv B) (hlen : ps.length = L.length) (hps : ∀ k ∈ ps, k < 2000) (hsz : ∀ s ∈ L, s.size = 1024) (hn : ps.length ≤ 2000)
    (hd : DkAt w B d) (hw : d.whole) (hlf : -900000 ≤ d.left ∧ d.left ≤ 1000000) :
    Calls Tryz.prog 22 #[.pointer (some ⟨B, 0, none⟩), pv, lv] w fun e w' => e = .returned (errD (wrsD d (settleE ps L)).1) ∧ DkAt w' B (wrsD d (settleE ps L)).2 ∧ GrX (fun b => b = B) w w' := by
  obtain ⟨po, pc, rfl⟩ := hp.form
  obtain ⟨lo, lc, rfl⟩ := hl.form
  have HP := Lib.hid hp
  have HL := Lib.hid hl
  have HPB := Lib.hid hpB
  have HLB := Lib.hid hlB
  have HW := Lib.hid hw
  have HD := Lib.hid hd
  have HPS := Lib.hid hps
  have HSZ := Lib.hid hsz
  have hzl : (ps.zip L).length = ps.length := by rw [List.length_zip]; omega
  have hok : okE (ps.zip L) := fun x hx => by
    obtain ⟨h1, h2⟩ := List.of_mem_zip (show (x.1, x.2) ∈ ps.zip L from hx)
    exact ⟨by have := hps _ h1; omega, hsz _ h2⟩
  have HOK := Lib.hid hok
  have HLN := Lib.hid hlen
  clear hp hl hpB hlB hw hd hps hsz hok hlen
  go_enter Tryz.func22, Tryz.ntmps22
  go_wp2_with fail
  go_loopw [12] (fun kv w' => ∃ (i : Nat) (e : Dk), i ≤ ps.length ∧ kv = .int .i64 i ∧ wrsD d ((ps.zip L).take i) = (true, e) ∧ DkAt w' B e ∧ GrX (fun b => b = B) w w') (fun kv _ => ps.length - (intOf kv).toNat)
  case atStart => exact ⟨0, d, Nat.zero_le _, rfl, rfl, HD.out, GrX.refl _ _⟩
  case round =>
    obtain ⟨i, e, hi, rfl, he, hde, hg⟩ := hrel
    have HE := Lib.hid he
    have hew : e.whole := by
      have := wrsD_whole ((ps.zip L).take i) HW.out (fun x hx => HOK.out x (List.mem_of_mem_take hx))
      rw [he] at this
      exact this
    have hel : d.left - i ≤ e.left ∧ e.left ≤ d.left := by
      have h3 := wrsD_left ((ps.zip L).take i) d
      rw [he] at h3
      have h4 : d.left - (((ps.zip L).take i).length : Int) ≤ e.left ∧ e.left ≤ d.left := h3
      rw [List.length_take] at h4
      omega
    have HEW := Lib.hid hew
    have HDE := Lib.hid hde
    clear he hew hde
    by_cases hlt : i < ps.length
    · obtain ⟨b, off, rfl, hc⟩ := (HP.out.wrote HPB.out hg).at hlt
      obtain ⟨b2, off2, rfl, hc2⟩ := (HL.out.wrote HLB.out hg).at (i := i) (by rw [← HLN.out]; exact hlt)
      have c0 := hc i hlt
      have hlt2 : i < L.length := by rw [← HLN.out]; exact hlt
      have c1 := hc2 i hlt2
      have hiz : i < (ps.zip L).length := by omega
      have hx : (ps.zip L)[i] = (ps[i], L[i]) := by rw [List.getElem_zip]
      have HX := Lib.hid hx
      have hk := HPS.out _ (List.getElem_mem hlt)
      have hs := HSZ.out _ (List.getElem_mem hlt2)
      have HNX : Hid (∀ e', (wrD e ps[i] L[i]).1 = true → (wrD e ps[i] L[i]).2 = e' → wrsD d ((ps.zip L).take (i + 1)) = (true, e')) := Lib.hid fun e' h1 h2 => by
        have := wrsD_next hiz HE.out (by rw [HX.out]; exact h1)
        rw [this, HX.out]
        show (true, (wrD e ps[i] L[i]).2) = _
        rw [h2]
      have HST : Hid ((wrD e ps[i] L[i]).1 = false → wrsD d (settleE ps L) = (false, (wrD e ps[i] L[i]).2)) := Lib.hid fun h1 => by
        have := wrsD_stop (m := [(2000, zerosB)]) hiz HE.out (by rw [HX.out]; exact h1)
        rw [HX.out] at this
        exact this
      unfold natV at c0
      clear hc hc2 hx
      generalize ps[i] = k at *
      generalize L[i] = s at *
      go_wp2_with fail
      refine (write_dk B e k s _ (by omega) hs HEW.out (by omega) HDE.out).mono ?_
      rintro e1 w1 ⟨rfl, hd1, hg1⟩
      have HD1 := Lib.hid hd1
      have hgg := hg.trans hg1
      cases hon : (wrD e k s).1
      · have HSS := Lib.hid (HST.out hon)
        clear hd1 hon
        unfold errD
        go_wp2_with fail
        go_ret
        rw [HSS.out]
        exact ⟨rfl, HD1.out, hgg⟩
      · have HNN := Lib.hid (HNX.out _ hon rfl)
        clear hd1 hon
        unfold errD
        go_wp2_with fail
        go_roundw
        case rel =>
          exact ⟨i + 1, _, by omega, by go_num, HNN.out, HD1.out, hgg⟩
        case measure =>
          simp [intOf]
          omega
    · obtain rfl : i = ps.length := by omega
      have hall : (ps.zip L).take ps.length = ps.zip L := List.take_of_length_le (by omega)
      have HFIN : Hid (wrsD d (settleE ps L) = wrD e 2000 zerosB) := Lib.hid (by
        unfold settleE
        have := HE.out
        rw [hall] at this
        rw [wrsD_append, this, if_pos rfl, wrsD_cons]
        show (if (wrD e 2000 zerosB).1 then wrsD (wrD e 2000 zerosB).2 [] else (false, (wrD e 2000 zerosB).2)) = _
        cases h : (wrD e 2000 zerosB).1
        · exact Prod.ext h.symm rfl
        · exact Prod.ext h.symm rfl)
      clear hall
      go_wp2_with fail
      refine (fill0 _).mono ?_
      rintro e1 w1 ⟨rfl, hg1⟩
      have HDE1 := Lib.hid (HDE.out.gr hg1)
      go_wp2_with fail
      refine (write_dk B e 2000 zerosB _ (by omega) zerosB_sz HEW.out (by omega) HDE1.out).mono ?_
      rintro e2 w2 ⟨rfl, hd2, hg2⟩
      have HD2 := Lib.hid hd2
      clear hd2
      go_wp2_with fail
      go_ret
      rw [HFIN.out]
      exact ⟨rfl, HD2.out, (hg.trans (GrX.of_gr hg1)).trans hg2⟩
set_option maxRecDepth 100000 in
set_option maxHeartbeats 1600000 in
theorem logs_g (PB B : Nat) (d : Dk) (ps : List Nat) (L : List ByteArray) (pv lv : Value) (w : World) (hpg : w.cell? ⟨PB, 0, none⟩ = some (.pointer (some ⟨B, 0, none⟩))) (hne : PB ≠ B) (hp : RowV natV w pv ps) (hl : RowV Value.string w lv L) (hpB : OffV pv B) (hlB : OffV lv B) (hps : ∀ k ∈ ps, k < 2000) (hsz : ∀ s ∈ L, s.size = 1024) (hn : L.length ≤ 2000) (hpn : ps.length ≤ 2000)
    (hd : DkAt w B d) (hw : d.whole) (hlf : -900000 ≤ d.left ∧ d.left ≤ 1000000) :
    Calls Tryz.prog 35 #[.pointer (some ⟨PB, 0, none⟩), pv, lv] w fun e w' => e = .returned (errD (wrsD d (logsE ps L)).1) ∧ DkAt w' B (wrsD d (logsE ps L)).2 ∧ GrX (fun b => b = B) w w' := by
  obtain ⟨po, pc, rfl⟩ := hp.form
  obtain ⟨lo, lc, rfl⟩ := hl.form
  have HP := Lib.hid hp
  have HL := Lib.hid hl
  have HPB := Lib.hid hpB
  have HLB := Lib.hid hlB
  have HW := Lib.hid hw
  have HD := Lib.hid hd
  have HPS := Lib.hid hps
  have HSZ := Lib.hid hsz
  have HPG := Lib.hid hpg
  obtain ⟨E, hE⟩ : ∃ E, (List.range L.length).map (fun i => (2001 + i, L.getD i ⟨#[]⟩)) = E := ⟨_, rfl⟩
  have hzl : E.length = L.length := by rw [← hE]; simp
  have hok : okE E := fun x hx => (logsE_ok (ps := ps) hn hsz) x (by unfold logsE; rw [hE]; exact List.mem_append_left _ hx)
  have HOK := Lib.hid hok
  have HEE := Lib.hid hE
  clear hp hl hpB hlB hw hd hps hsz hok hpg hE
  go_enter Tryz.func35, Tryz.ntmps35
  go_wp2_with fail
  go_loopw [12] (fun kv w' => ∃ (i : Nat) (e : Dk), i ≤ L.length ∧ kv = .int .i64 i ∧ wrsD d (E.take i) = (true, e) ∧ DkAt w' B e ∧ GrX (fun b => b = B) w w') (fun kv _ => L.length - (intOf kv).toNat)
  case atStart => exact ⟨0, d, Nat.zero_le _, rfl, rfl, HD.out, GrX.refl _ _⟩
  case round =>
    obtain ⟨i, e, hi, rfl, he, hde, hg⟩ := hrel
    have HE := Lib.hid he
    have hew : e.whole := by
      have := wrsD_whole (E.take i) HW.out (fun x hx => HOK.out x (List.mem_of_mem_take hx))
      rw [he] at this
      exact this
    have hel : d.left - i ≤ e.left ∧ e.left ≤ d.left := by
      have h3 := wrsD_left (E.take i) d
      rw [he] at h3
      have h4 : d.left - ((E.take i).length : Int) ≤ e.left ∧ e.left ≤ d.left := h3
      rw [List.length_take] at h4
      omega
    have HEW := Lib.hid hew
    have HDE := Lib.hid hde
    have cp := hg.keeps hne HPG.out
    clear he hew hde
    by_cases hlt : i < L.length
    · obtain ⟨b2, off2, rfl, hc2⟩ := (HL.out.wrote HLB.out hg).at hlt
      have c1 := hc2 i hlt
      have hiz : i < E.length := by omega
      have hx : E[i] = (2001 + i, L[i]) := by
        simp only [← HEE.out, List.getElem_map, List.getElem_range]
        rw [List.getD_eq_getElem?_getD, List.getElem?_eq_getElem hlt]
        rfl
      have HX := Lib.hid hx
      have hs := HSZ.out _ (List.getElem_mem hlt)
      have HNX : Hid (∀ e', (wrD e (2001 + i) L[i]).1 = true → (wrD e (2001 + i) L[i]).2 = e' → wrsD d (E.take (i + 1)) = (true, e')) := Lib.hid fun e' h1 h2 => by
        have := wrsD_next hiz HE.out (by rw [HX.out]; exact h1)
        rw [this, HX.out]
        show (true, (wrD e (2001 + i) L[i]).2) = _
        rw [h2]
      have HST : Hid ((wrD e (2001 + i) L[i]).1 = false → wrsD d (logsE ps L) = (false, (wrD e (2001 + i) L[i]).2)) := Lib.hid fun h1 => by
        have := wrsD_stop (m := [(2000, noteB ps L)]) hiz HE.out (by rw [HX.out]; exact h1)
        rw [HX.out, ← HEE.out] at this
        exact this
      clear hc2 hx
      generalize L[i] = s at *
      have hwr := fun w (h : DkAt w B e) => write_dk B e (2001 + i) s w (by omega) hs HEW.out (by omega) h
      rw [show ((2001 + i : Nat) : Int) = 2001 + (i : Int) by omega] at hwr
      go_wp2_with fail
      refine (hwr _ HDE.out).mono ?_
      rintro e1 w1 ⟨rfl, hd1, hg1⟩
      have HD1 := Lib.hid hd1
      have hgg := hg.trans hg1
      cases hon : (wrD e (2001 + i) s).1
      · have HSS := Lib.hid (HST.out hon)
        clear hd1 hon
        unfold errD
        go_wp2_with fail
        go_ret
        rw [HSS.out]
        exact ⟨rfl, HD1.out, hgg⟩
      · have HNN := Lib.hid (HNX.out _ hon rfl)
        clear hd1 hon
        unfold errD
        go_wp2_with fail
        go_roundw
        case rel => exact ⟨i + 1, _, by omega, by go_num, HNN.out, HD1.out, hgg⟩
        case measure =>
          simp [intOf]
          omega
    · obtain rfl : i = L.length := by omega
      have hall : E.take L.length = E := List.take_of_length_le (by omega)
      have HFIN : Hid (wrsD d (logsE ps L) = wrD e 2000 (noteB ps L)) := Lib.hid (by
        unfold logsE
        have := HE.out
        rw [hall] at this
        rw [HEE.out, wrsD_append, this, if_pos rfl, wrsD_cons]
        show (if (wrD e 2000 (noteB ps L)).1 then wrsD (wrD e 2000 (noteB ps L)).2 [] else (false, (wrD e 2000 (noteB ps L)).2)) = _
        cases h : (wrD e 2000 (noteB ps L)).1
        · exact Prod.ext h.symm rfl
        · exact Prod.ext h.symm rfl)
      clear hall
      have hnt := fun W (g : Gr wr W) => note_g ps L (.slice po ps.length pc) (.slice lo L.length lc) W ((HP.out.wrote HPB.out hg).gr g) ((HL.out.wrote HLB.out hg).gr g) (by omega) (fun i h => HPS.out _ (List.getElem_mem h)) (by omega) (fun i h => by have := HSZ.out _ (List.getElem_mem h); omega)
      have hns := noteB_sz ps L
      have hnb : (⟨(noteF ps (datas L)).toArray⟩ : ByteArray) = noteB ps L := rfl
      rw [hnb] at hnt
      clear hnb
      generalize noteB ps L = nb at *
      have hwr := fun W (g : Gr wr W) => write_dk B e 2000 nb W (by omega) hns HEW.out (by omega) (HDE.out.gr g)
      go_wp2_with fail
      go_region_with (first
        | (go_at_call 36; refine (hnt _ (by
              repeat (with_reducible first | refine Gr.drew ?_ | refine Gr.alloc ?_ _)
              exact Gr.refl _)).mono ?_; rintro e1 w1 ⟨rfl, hg1⟩; first | (have k0 := hg1.keeps (show World.cell? _ _ = some (.pointer (some ⟨B, 0, none⟩)) by simpa using cp)) | skip)
        | (go_at_call 37; refine (hwr _ (by
              refine Gr.trans ?_ hg1
              repeat (with_reducible first | refine Gr.drew ?_ | refine Gr.alloc ?_ _)
              exact Gr.refl _)).mono ?_; rintro e2 w2 ⟨rfl, hd2, hg2⟩))
      all_goals
        have HD2 := Lib.hid hd2
        clear hd2
        go_wp2_with fail
        go_ret
        rw [HFIN.out]
        refine ⟨rfl, HD2.out.gr ?_, ?_⟩
        · repeat (with_reducible first | refine Gr.drew ?_ | refine Gr.alloc ?_ _)
          exact Gr.refl _
        · refine hg.trans (GrX.trans (GrX.of_gr ?_) (GrX.trans hg2 (GrX.of_gr ?_)))
          · refine Gr.trans ?_ hg1
            repeat (with_reducible first | refine Gr.drew ?_ | refine Gr.alloc ?_ _)
            exact Gr.refl _
          · repeat (with_reducible first | refine Gr.drew ?_ | refine Gr.alloc ?_ _)
            exact Gr.refl _
end Go.Proofs.YtcdoeninajpbmaaGreatDoor
