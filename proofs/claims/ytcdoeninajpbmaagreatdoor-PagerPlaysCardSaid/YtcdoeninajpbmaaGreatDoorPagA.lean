/-
  A pager in memory; the contracts of right, Read, Write, Free, Root, SetRoot.
-/
import Derived.Test.YtcdoeninajpbmaaGreatDoorPagN
import Derived.Test.YtcdoeninajpbmaaGreatDoorMapD
namespace Go.Proofs.YtcdoeninajpbmaaGreatDoor
open Go Go.RowKit

/-- A pager in block PB; its disk is in block DB, its map of what is changed in block M. -/
structure PagerAt (w : World) (PB DB M n : Nat) (h sv : Head) (F : Int → Option ByteArray) (down : Bool) (times : Int) : Prop where
  disk : w.cell? ⟨PB, 0, none⟩ = some (.pointer (some ⟨DB, 0, none⟩))
  head : HeadAt w PB 1 h
  map : w.cell? ⟨PB, 2017, none⟩ = some (.map (some M))
  saved : HeadAt w PB 2018 sv
  down : w.cell? ⟨PB, 4034, none⟩ = some (.bool down)
  times : w.cell? ⟨PB, 4035, none⟩ = some (.int .i64 times)
  free : ∀ o, w.frozen? ⟨PB, o, none⟩ = false
  dirty : MapAt w M n F
  ne : PB ≠ M
theorem PagerAt.gr {w w' : World} {PB DB M n : Nat} {h sv : Head} {F : Int → Option ByteArray} {down : Bool} {times : Int} (p : PagerAt w PB DB M n h sv F down times) (g : Gr w w') : PagerAt w' PB DB M n h sv F down times :=
  ⟨g.keeps p.disk, p.head.gr g, g.keeps p.map, p.saved.gr g, g.keeps p.down, g.keeps p.times, fun o => (g.frozen o (lt_of_cell p.disk)).trans (p.free o), p.dirty.gr g, p.ne⟩
theorem PagerAt.keepX {S : Nat → Prop} {w w' : World} {PB DB M n : Nat} {h sv : Head} {F : Int → Option ByteArray} {down : Bool} {times : Int} (p : PagerAt w PB DB M n h sv F down times) (g : GrX S w w') (h1 : ¬ S PB) (h2 : ¬ S M) : PagerAt w' PB DB M n h sv F down times :=
  ⟨g.keeps h1 p.disk, p.head.keepX g h1, g.keeps h1 p.map, p.saved.keepX g h1, g.keeps h1 p.down, g.keeps h1 p.times, fun o => (g.frozen o (lt_of_cell p.disk) h1).trans (p.free o), p.dirty.keepX g h2, p.ne⟩
theorem PagerAt.lt {w : World} {PB DB M n : Nat} {h sv : Head} {F : Int → Option ByteArray} {down : Bool} {times : Int} (p : PagerAt w PB DB M n h sv F down times) : PB < w.heap.size := lt_of_cell p.disk
/-- Its map is written. -/
theorem PagerAt.remap {w w' : World} {PB DB M n n' : Nat} {h sv : Head} {F F' : Int → Option ByteArray} {down : Bool} {times : Int} (p : PagerAt w PB DB M n h sv F down times) (g : w.grownBy w' (some M)) (hm : MapAt w' M n' F') : PagerAt w' PB DB M n' h sv F' down times := by
  have gx : GrX (fun k => k = M) w w' := GrX.of_grown g rfl
  have h1 : ¬ (fun k => k = M) PB := p.ne
  exact ⟨gx.keeps h1 p.disk, p.head.keepX gx h1, gx.keeps h1 p.map, p.saved.keepX gx h1, gx.keeps h1 p.down, gx.keeps h1 p.times, fun o => (gx.frozen o (lt_of_cell p.disk) h1).trans (p.free o), hm, p.ne⟩
theorem MapAt.far {w : World} {M n : Nat} {F : Int → Option ByteArray} (h : MapAt w M n F) {B : Nat} (hne : B ≠ M) (o : Nat) (u : Value) : MapAt (w.setCell ⟨B, o, none⟩ u) M n F := h.block (Below.heap_setCell _ _ _ _ (fun e => hne e.symm))
theorem PagerAt.put {w : World} {PB DB M n : Nat} {h sv : Head} {F : Int → Option ByteArray} {down : Bool} {times : Int} (p : PagerAt w PB DB M n h sv F down times) {k : Nat} (hk : k < 2000) (b : Bool) : PagerAt (w.setCell ⟨PB, 1 + k, none⟩ (.bool b)) PB DB M n (h.put k b) sv F down times :=
  ⟨cell_off (by omega) p.disk, p.head.put hk b, cell_off (by omega) p.map, p.saved.far _ _ (by omega), cell_off (by omega) p.down, cell_off (by omega) p.times, fun o => by simpa using p.free o, p.dirty.far p.ne _ _, p.ne⟩
theorem PagerAt.putRoot {w : World} {PB DB M n : Nat} {h sv : Head} {F : Int → Option ByteArray} {down : Bool} {times : Int} (p : PagerAt w PB DB M n h sv F down times) {k : Nat} (hk : k < 8) (r : Int) : PagerAt (w.setCell ⟨PB, 2001 + k, none⟩ (.int .i64 r)) PB DB M n (h.putRoot k r) sv F down times :=
  ⟨cell_off (by omega) p.disk, p.head.putRoot hk r, cell_off (by omega) p.map, p.saved.far _ _ (by omega), cell_off (by omega) p.down, cell_off (by omega) p.times, fun o => by simpa using p.free o, p.dirty.far p.ne _ _, p.ne⟩
theorem PagerAt.putNote {w : World} {PB DB M n : Nat} {h sv : Head} {F : Int → Option ByteArray} {down : Bool} {times : Int} (p : PagerAt w PB DB M n h sv F down times) {k : Nat} (hk : k < 8) (r : Int) : PagerAt (w.setCell ⟨PB, 2009 + k, none⟩ (.int .i64 r)) PB DB M n (h.putNote k r) sv F down times :=
  ⟨cell_off (by omega) p.disk, p.head.putNote hk r, cell_off (by omega) p.map, p.saved.far _ _ (by omega), cell_off (by omega) p.down, cell_off (by omega) p.times, fun o => by simpa using p.free o, p.dirty.far p.ne _ _, p.ne⟩
theorem PagerAt.goDown {w : World} {PB DB M n : Nat} {h sv : Head} {F : Int → Option ByteArray} {down : Bool} {times : Int} (p : PagerAt w PB DB M n h sv F down times) (b : Bool) : PagerAt (w.setCell ⟨PB, 4034, none⟩ (.bool b)) PB DB M n h sv F b times :=
  ⟨cell_off (by omega) p.disk, p.head.far _ _ (by omega), cell_off (by omega) p.map, p.saved.far _ _ (by omega), World.cell?_setCell_same _ _ _ p.down, cell_off (by omega) p.times, fun o => by simpa using p.free o, p.dirty.far p.ne _ _, p.ne⟩
theorem PagerAt.tick {w : World} {PB DB M n : Nat} {h sv : Head} {F : Int → Option ByteArray} {down : Bool} {times : Int} (p : PagerAt w PB DB M n h sv F down times) (t : Int) : PagerAt (w.setCell ⟨PB, 4035, none⟩ (.int .i64 t)) PB DB M n h sv F down t :=
  ⟨cell_off (by omega) p.disk, p.head.far _ _ (by omega), cell_off (by omega) p.map, p.saved.far _ _ (by omega), cell_off (by omega) p.down, World.cell?_setCell_same _ _ _ p.times, fun o => by simpa using p.free o, p.dirty.far p.ne _ _, p.ne⟩
/-- Is there such a page, in use? -/
def inUse (h : Head) (k : Int) : Bool := decide (1 ≤ k) && decide (k < 2000) && h.used k.toNat
def rightV (h : Head) (down : Bool) (k : Int) : Value := if inUse h k then if down then .iface 33 (.int .i64 6) else .nilIface else .iface 33 (.int .i64 2)
theorem rightV_no {h : Head} {down : Bool} {k : Int} (hu : inUse h k = false) : rightV h down k = .iface 33 (.int .i64 2) := by
  unfold rightV
  rw [hu]
  rfl
theorem rightV_down {h : Head} {k : Int} (hu : inUse h k = true) : rightV h true k = .iface 33 (.int .i64 6) := by
  unfold rightV
  rw [hu]
  rfl
theorem rightV_ok {h : Head} {k : Int} (hu : inUse h k = true) : rightV h false k = .nilIface := by
  unfold rightV
  rw [hu]
  rfl
theorem inUse_iff {h : Head} {k : Int} : inUse h k = true ↔ ∃ m : Nat, k = m ∧ 1 ≤ m ∧ m < 2000 ∧ h.used m = true := by
  unfold inUse
  constructor
  · intro e
    simp only [Bool.and_eq_true, decide_eq_true_eq] at e
    exact ⟨k.toNat, by omega, by omega, by omega, e.2⟩
  · rintro ⟨m, rfl, h1, h2, h3⟩
    simp only [Bool.and_eq_true, decide_eq_true_eq]
    exact ⟨⟨by omega, by omega⟩, by simpa using h3⟩
set_option maxRecDepth 100000 in
set_option maxHeartbeats 1600000 in
theorem right_pg (PB DB M n : Nat) (h sv : Head) (F : Int → Option ByteArray) (down : Bool) (times : Int) (k : Int) (w : World) (p : PagerAt w PB DB M n h sv F down times) :
    Calls Tryz.prog 31 #[.pointer (some ⟨PB, 0, none⟩), .int .i64 k] w (Ret w (rightV h down k)) := by
  have P := Lib.hid p
  have cd := p.down
  clear p
  by_cases hk : 1 ≤ k ∧ k < 2000
  · obtain ⟨m, rfl⟩ := Int.eq_ofNat_of_zero_le (show 0 ≤ k by omega)
    have hm : m < 2000 := by omega
    have c0 := P.out.head.used m hm
    have hiu : inUse h (m : Int) = h.used m := by
      unfold inUse
      rw [decide_eq_true hk.1, decide_eq_true hk.2]
      simp
    have hv : Hid (rightV h down (m : Int) = if h.used m then if down then .iface 33 (.int .i64 6) else .nilIface else .iface 33 (.int .i64 2)) := Lib.hid (by unfold rightV; rw [hiu])
    clear hiu
    rw [hv.out]
    generalize h.used m = u at *
    obtain ⟨hk1, hk2⟩ := hk
    cases u <;> cases down <;>
      (go_enter Tryz.func31, Tryz.ntmps31
       go_wp2_with fail
       all_goals first | omega | skip
       all_goals
         go_ret
         exact Ret.mk rfl (Gr.refl _))
  · have hu : inUse h k = false := by
      rw [Bool.eq_false_iff]
      intro e
      obtain ⟨m, rfl, h1, h2, _⟩ := inUse_iff.1 e
      omega
    rw [rightV_no hu]
    clear hu
    go_enter Tryz.func31, Tryz.ntmps31
    go_wp2_with fail
    all_goals first | omega | skip
    all_goals
      go_ret
      exact Ret.mk rfl (Gr.refl _)
/-- What a page has now. -/
def pageNow (pg : Nat → ByteArray) (F : Int → Option ByteArray) (k : Nat) : ByteArray := match F k with | some s => s | none => pgGet pg k
set_option maxRecDepth 100000 in
set_option maxHeartbeats 1600000 in
theorem read_bad_pg (PB DB M n : Nat) (h sv : Head) (F : Int → Option ByteArray) (down : Bool) (times : Int) (k : Int) (w : World) (p : PagerAt w PB DB M n h sv F down times) (hu : inUse h k = false) :
    Calls Tryz.prog 19 #[.pointer (some ⟨PB, 0, none⟩), .int .i64 k] w (Ret w (.tuple #[.string ⟨#[]⟩, .iface 33 (.int .i64 2)])) := by
  have P := Lib.hid p
  have HU := Lib.hid hu
  clear p hu
  go_enter Tryz.func19, Tryz.ntmps19
  go_wp2_with fail
  refine (right_pg PB DB M n h sv F down times k w P.out).mono ?_
  rintro e w1 ⟨rfl, hg1⟩
  rw [rightV_no HU.out]
  go_wp2_with fail
  go_ret2
  exact Ret.mk rfl hg1
set_option maxRecDepth 100000 in
set_option maxHeartbeats 1600000 in
theorem read_pg (PB DB M n : Nat) (h sv : Head) (F : Int → Option ByteArray) (times : Int) (pg : Nat → ByteArray) (cut : Bool) (left torn : Int) (k : Nat) (w : World) (p : PagerAt w PB DB M n h sv F false times) (d : DiskAt w DB pg cut left torn) (hu : inUse h k = true) :
    Calls Tryz.prog 19 #[.pointer (some ⟨PB, 0, none⟩), .int .i64 k] w (Ret w (.tuple #[.string (pageNow pg F k), .nilIface])) := by
  obtain ⟨m, hm, hm1, hm2, hm3⟩ := inUse_iff.1 hu
  obtain rfl : k = m := by omega
  have P := Lib.hid p
  have HD := Lib.hid d
  have HU := Lib.hid hu
  clear p d hu hm hm3
  go_enter Tryz.func19, Tryz.ntmps19
  go_wp2_with fail
  refine (right_pg PB DB M n h sv F false times k w P.out).mono ?_
  rintro e w1 ⟨rfl, hg1⟩
  rw [rightV_ok HU.out]
  have P1 := Lib.hid (P.out.gr hg1)
  have HD1 := Lib.hid (HD.out.gr hg1)
  have c0 := P1.out.disk
  have c1 := P1.out.map
  have hl := P1.out.dirty.look (k := (k : Int)) (by omega)
  cases hF : F (k : Int) with
  | none =>
    rw [hF] at hl
    simp only [Option.isSome_none, Option.getD_none] at hl
    have HV : Hid (pageNow pg F k = pgGet pg k) := Lib.hid (by unfold pageNow; rw [hF])
    clear hF
    go_wp2_with fail
    refine (read_d DB pg cut left torn k (by omega) w1 HD1.out).mono ?_
    rintro e w2 ⟨rfl, hg2⟩
    go_wp2_with fail
    go_ret2
    refine Ret.mk ?_ (hg1.trans hg2)
    rw [HV.out]
    rfl
  | some s =>
    rw [hF] at hl
    simp only [Option.isSome_some, Option.getD_some] at hl
    have HV : Hid (pageNow pg F k = s) := Lib.hid (by unfold pageNow; rw [hF])
    clear hF
    go_wp2_with fail
    go_ret2
    refine Ret.mk ?_ hg1
    rw [HV.out]
    rfl
set_option maxRecDepth 100000 in
set_option maxHeartbeats 1600000 in
theorem write_bad_pg (PB DB M n : Nat) (h sv : Head) (F : Int → Option ByteArray) (down : Bool) (times : Int) (k : Int) (s : ByteArray) (w : World) (p : PagerAt w PB DB M n h sv F down times) (hu : inUse h k = false) :
    Calls Tryz.prog 12 #[.pointer (some ⟨PB, 0, none⟩), .int .i64 k, .string s] w (Ret w (.iface 33 (.int .i64 2))) := by
  have P := Lib.hid p
  have HU := Lib.hid hu
  clear p hu
  go_enter Tryz.func12, Tryz.ntmps12
  go_wp2_with fail
  refine (right_pg PB DB M n h sv F down times k w P.out).mono ?_
  rintro e w1 ⟨rfl, hg1⟩
  rw [rightV_no HU.out]
  go_wp2_with fail
  go_ret
  exact Ret.mk rfl hg1
set_option maxRecDepth 100000 in
set_option maxHeartbeats 1600000 in
theorem write_len_pg (PB DB M n : Nat) (h sv : Head) (F : Int → Option ByteArray) (times : Int) (k : Int) (s : ByteArray) (hs : s.size ≠ 1024) (w : World) (p : PagerAt w PB DB M n h sv F false times) (hu : inUse h k = true) :
    Calls Tryz.prog 12 #[.pointer (some ⟨PB, 0, none⟩), .int .i64 k, .string s] w (Ret w (.iface 33 (.int .i64 1))) := by
  have P := Lib.hid p
  have HU := Lib.hid hu
  clear p hu
  have hs' : ((s.size : Int) != 1024) = true := by simp; omega
  go_enter Tryz.func12, Tryz.ntmps12
  go_wp2_with fail
  refine (right_pg PB DB M n h sv F false times k w P.out).mono ?_
  rintro e w1 ⟨rfl, hg1⟩
  rw [rightV_ok HU.out]
  go_wp2_with fail
  go_ret
  exact Ret.mk rfl hg1
set_option maxRecDepth 100000 in
set_option maxHeartbeats 1600000 in
theorem write_pg (PB DB M n : Nat) (h sv : Head) (F : Int → Option ByteArray) (times : Int) (k : Int) (s : ByteArray) (hs : s.size = 1024) (hn : n < 1000000) (w : World) (p : PagerAt w PB DB M n h sv F false times) (hu : inUse h k = true) :
    Calls Tryz.prog 12 #[.pointer (some ⟨PB, 0, none⟩), .int .i64 k, .string s] w fun e w' => e = .returned .nilIface ∧ PagerAt w' PB DB M (n + 1) h sv (setF F k (some s)) false times ∧ GrX (fun b => b = PB ∨ b = M) w w' := by
  have hkr : -9223372036854775808 ≤ k ∧ k ≤ 9223372036854775807 := by
    obtain ⟨m, hm, hm1, hm2, hm3⟩ := inUse_iff.1 hu
    omega
  have P := Lib.hid p
  have HU := Lib.hid hu
  have HKR := Lib.hid hkr
  clear p hu hkr
  have hs' : ((s.size : Int) != 1024) = false := by simp; omega
  go_enter Tryz.func12, Tryz.ntmps12
  go_wp2_with fail
  refine (right_pg PB DB M n h sv F false times k w P.out).mono ?_
  rintro e w1 ⟨rfl, hg1⟩
  rw [rightV_ok HU.out]
  have P1 := Lib.hid (P.out.gr hg1)
  have c1 := P1.out.map
  obtain ⟨w2, hupd, hma, hgM⟩ := P1.out.dirty.storeF hn HKR.out s (by omega)
  have HP2 := Lib.hid (P1.out.remap hgM hma)
  have HG := Lib.hid hgM
  clear hma hgM
  go_wp2_with fail
  go_ret
  exact ⟨rfl, HP2.out, (GrX.of_gr hg1).trans (GrX.of_grown HG.out (.inr rfl))⟩
set_option maxRecDepth 100000 in
set_option maxHeartbeats 1600000 in
theorem free_bad_pg (PB DB M n : Nat) (h sv : Head) (F : Int → Option ByteArray) (down : Bool) (times : Int) (k : Int) (w : World) (p : PagerAt w PB DB M n h sv F down times) (hu : inUse h k = false) :
    Calls Tryz.prog 10 #[.pointer (some ⟨PB, 0, none⟩), .int .i64 k] w (Ret w (.iface 33 (.int .i64 2))) := by
  have P := Lib.hid p
  have HU := Lib.hid hu
  clear p hu
  go_enter Tryz.func10, Tryz.ntmps10
  go_wp2_with fail
  refine (right_pg PB DB M n h sv F down times k w P.out).mono ?_
  rintro e w1 ⟨rfl, hg1⟩
  rw [rightV_no HU.out]
  go_wp2_with fail
  go_ret
  exact Ret.mk rfl hg1
set_option maxRecDepth 100000 in
set_option maxHeartbeats 1600000 in
theorem free_pg (PB DB M n : Nat) (h sv : Head) (F : Int → Option ByteArray) (times : Int) (k : Nat) (w : World) (p : PagerAt w PB DB M n h sv F false times) (hu : inUse h k = true) :
    Calls Tryz.prog 10 #[.pointer (some ⟨PB, 0, none⟩), .int .i64 k] w fun e w' => e = .returned .nilIface ∧ PagerAt w' PB DB M n (h.put k false) sv (setF F k none) false times ∧ GrX (fun b => b = PB ∨ b = M) w w' := by
  obtain ⟨m, hm, hm1, hm2, hm3⟩ := inUse_iff.1 hu
  obtain rfl : k = m := by omega
  have P := Lib.hid p
  have HU := Lib.hid hu
  clear p hu hm3 hm
  go_enter Tryz.func10, Tryz.ntmps10
  go_wp2_with fail
  refine (right_pg PB DB M n h sv F false times k w P.out).mono ?_
  rintro e w1 ⟨rfl, hg1⟩
  rw [rightV_ok HU.out]
  have P1 := Lib.hid (P.out.gr hg1)
  have c0 := P1.out.head.used k (by omega)
  have z0 := P1.out.free (1 + k)
  have P2 := Lib.hid (P1.out.put (show k < 2000 by omega) false)
  have c1 := P2.out.map
  go_wp2_with (at_delete; refine wpList_del rfl _ _ rfl P2.out.dirty rfl rfl (by omega) ?_)
  intro w2 hma hgM
  have HP2 := Lib.hid (P2.out.remap hgM hma)
  have HG := Lib.hid hgM
  clear hma hgM
  go_wp2_with fail
  go_ret
  exact ⟨rfl, HP2.out, ((GrX.of_gr hg1).trans (GrX.setCell _ _ (.inl rfl))).trans (GrX.of_grown HG.out (.inr rfl))⟩
end Go.Proofs.YtcdoeninajpbmaaGreatDoor
