/-
  A pager in memory; the contracts of right, Read, Write, Free, Root, SetRoot.
-/
import Derived.Test.YtmjkalpjciddbaaMg4
namespace Go.Proofs.Ytmjkalpjciddbaa
open Go Go.RowKit

/-- A pager in block PB; its disk is in block DB, its map of what is changed in block M. -/
structure PagerAt (w : World) (PB DB M n : Nat) (h sv : Head) (F : Int → Option ByteArray) (down : Bool) (times : Int) : Prop where
  disk : w.cell? ⟨PB, 0, none⟩ = some (.pointer (some ⟨DB, 0, none⟩))
  head : HeadAt w PB 1 h
  map : w.cell? ⟨PB, 2017, none⟩ = some (.map (some M))
  saved : HeadAt w PB 2018 sv
  down : w.cell? ⟨PB, 4034, none⟩ = some (.bool down)
  times : w.cell? ⟨PB, 4035, none⟩ = some (.int .i64 times)
  free : ∀ o, w.frozen? ⟨PB, o, none⟩ = false
  dirty : MapAt w M n F
  ne : PB ≠ M
theorem PagerAt.gr {w w' : World} {PB DB M n : Nat} {h sv : Head} {F : Int → Option ByteArray} {down : Bool} {times : Int} (p : PagerAt w PB DB M n h sv F down times) (g : Gr w w') : PagerAt w' PB DB M n h sv F down times :=
  ⟨g.keeps p.disk, p.head.gr g, g.keeps p.map, p.saved.gr g, g.keeps p.down, g.keeps p.times, fun o => (g.frozen o (lt_of_cell p.disk)).trans (p.free o), p.dirty.gr g, p.ne⟩
theorem PagerAt.keepX {S : Nat → Prop} {w w' : World} {PB DB M n : Nat} {h sv : Head} {F : Int → Option ByteArray} {down : Bool} {times : Int} (p : PagerAt w PB DB M n h sv F down times) (g : GrX S w w') (h1 : ¬ S PB) (h2 : ¬ S M) : PagerAt w' PB DB M n h sv F down times :=
  ⟨g.keeps h1 p.disk, p.head.keepX g h1, g.keeps h1 p.map, p.saved.keepX g h1, g.keeps h1 p.down, g.keeps h1 p.times, fun o => (g.frozen o (lt_of_cell p.disk) h1).trans (p.free o), p.dirty.keepX g h2, p.ne⟩
theorem PagerAt.lt {w : World} {PB DB M n : Nat} {h sv : Head} {F : Int → Option ByteArray} {down : Bool} {times : Int} (p : PagerAt w PB DB M n h sv F down times) : PB < w.heap.size := lt_of_cell p.disk
/-- Its map is written. -/
theorem PagerAt.remap {w w' : World} {PB DB M n n' : Nat} {h sv : Head} {F F' : Int → Option ByteArray} {down : Bool} {times : Int} (p : PagerAt w PB DB M n h sv F down times) (g : w.grownBy w' (some M)) (hm : MapAt w' M n' F') : PagerAt w' PB DB M n' h sv F' down times := by
  have gx : GrX (fun k => k = M) w w' := GrX.of_grown g rfl
  have h1 : ¬ (fun k => k = M) PB := p.ne
  exact ⟨gx.keeps h1 p.disk, p.head.keepX gx h1, gx.keeps h1 p.map, p.saved.keepX gx h1, gx.keeps h1 p.down, gx.keeps h1 p.times, fun o => (gx.frozen o (lt_of_cell p.disk) h1).trans (p.free o), hm, p.ne⟩
theorem MapAt.far {w : World} {M n : Nat} {F : Int → Option ByteArray} (h : MapAt w M n F) {B : Nat} (hne : B ≠ M) (o : Nat) (u : Value) : MapAt (w.setCell ⟨B, o, none⟩ u) M n F := h.block (Below.heap_setCell _ _ _ _ (fun e => hne e.symm))
theorem PagerAt.put {w : World} {PB DB M n : Nat} {h sv : Head} {F : Int → Option ByteArray} {down : Bool} {times : Int} (p : PagerAt w PB DB M n h sv F down times) {k : Nat} (hk : k < 2000) (b : Bool) : PagerAt (w.setCell ⟨PB, 1 + k, none⟩ (.bool b)) PB DB M n (h.put k b) sv F down times :=
  ⟨cell_off (by omega) p.disk, p.head.put hk b, cell_off (by omega) p.map, p.saved.far _ _ (by omega), cell_off (by omega) p.down, cell_off (by omega) p.times, fun o => by simpa using p.free o, p.dirty.far p.ne _ _, p.ne⟩
theorem PagerAt.putRoot {w : World} {PB DB M n : Nat} {h sv : Head} {F : Int → Option ByteArray} {down : Bool} {times : Int} (p : PagerAt w PB DB M n h sv F down times) {k : Nat} (hk : k < 8) (r : Int) : PagerAt (w.setCell ⟨PB, 2001 + k, none⟩ (.int .i64 r)) PB DB M n (h.putRoot k r) sv F down times :=
  ⟨cell_off (by omega) p.disk, p.head.putRoot hk r, cell_off (by omega) p.map, p.saved.far _ _ (by omega), cell_off (by omega) p.down, cell_off (by omega) p.times, fun o => by simpa using p.free o, p.dirty.far p.ne _ _, p.ne⟩
theorem PagerAt.putNote {w : World} {PB DB M n : Nat} {h sv : Head} {F : Int → Option ByteArray} {down : Bool} {times : Int} (p : PagerAt w PB DB M n h sv F down times) {k : Nat} (hk : k < 8) (r : Int) : PagerAt (w.setCell ⟨PB, 2009 + k, none⟩ (.int .i64 r)) PB DB M n (h.putNote k r) sv F down times :=
  ⟨cell_off (by omega) p.disk, p.head.putNote hk r, cell_off (by omega) p.map, p.saved.far _ _ (by omega), cell_off (by omega) p.down, cell_off (by omega) p.times, fun o => by simpa using p.free o, p.dirty.far p.ne _ _, p.ne⟩
theorem PagerAt.goDown {w : World} {PB DB M n : Nat} {h sv : Head} {F : Int → Option ByteArray} {down : Bool} {times : Int} (p : PagerAt w PB DB M n h sv F down times) (b : Bool) : PagerAt (w.setCell ⟨PB, 4034, none⟩ (.bool b)) PB DB M n h sv F b times :=
  ⟨cell_off (by omega) p.disk, p.head.far _ _ (by omega), cell_off (by omega) p.map, p.saved.far _ _ (by omega), World.cell?_setCell_same _ _ _ p.down, cell_off (by omega) p.times, fun o => by simpa using p.free o, p.dirty.far p.ne _ _, p.ne⟩
theorem PagerAt.tick {w : World} {PB DB M n : Nat} {h sv : Head} {F : Int → Option ByteArray} {down : Bool} {times : Int} (p : PagerAt w PB DB M n h sv F down times) (t : Int) : PagerAt (w.setCell ⟨PB, 4035, none⟩ (.int .i64 t)) PB DB M n h sv F down t :=
  ⟨cell_off (by omega) p.disk, p.head.far _ _ (by omega), cell_off (by omega) p.map, p.saved.far _ _ (by omega), cell_off (by omega) p.down, World.cell?_setCell_same _ _ _ p.times, fun o => by simpa using p.free o, p.dirty.far p.ne _ _, p.ne⟩
/-- Is there such a page, in use? -/
def inUse (h : Head) (k : Int) : Bool := decide (1 ≤ k) && decide (k < 2000) && h.used k.toNat
def rightV (h : Head) (down : Bool) (k : Int) : Value := if inUse h k then if down then .iface 56 (.int .i64 6) else .nilIface else .iface 56 (.int .i64 2)
theorem rightV_no {h : Head} {down : Bool} {k : Int} (hu : inUse h k = false) : rightV h down k = .iface 56 (.int .i64 2) := by
  unfold rightV
  rw [hu]
  rfl
theorem rightV_down {h : Head} {k : Int} (hu : inUse h k = true) : rightV h true k = .iface 56 (.int .i64 6) := by
  unfold rightV
  rw [hu]
  rfl
theorem rightV_ok {h : Head} {k : Int} (hu : inUse h k = true) : rightV h false k = .nilIface := by
  unfold rightV
  rw [hu]
  rfl
theorem inUse_iff {h : Head} {k : Int} : inUse h k = true ↔ ∃ m : Nat, k = m ∧ 1 ≤ m ∧ m < 2000 ∧ h.used m = true := by
  unfold inUse
  constructor
  · intro e
    simp only [Bool.and_eq_true, decide_eq_true_eq] at e
    exact ⟨k.toNat, by omega, by omega, by omega, e.2⟩
  · rintro ⟨m, rfl, h1, h2, h3⟩
    simp only [Bool.and_eq_true, decide_eq_true_eq]
    exact ⟨⟨by omega, by omega⟩, by simpa using h3⟩
set_option maxRecDepth 100000 in
set_option maxHeartbeats 1600000 in
theorem right_pg (PB DB M n : Nat) (h sv : Head) (F : Int → Option ByteArray) (down : Bool) (times : Int) (k : Int) (w : World) (p : PagerAt w PB DB M n h sv F down times) :
    Calls Try.prog 46 #[.pointer (some ⟨PB, 0, none⟩), .int .i64 k] w (Ret w (rightV h down k)) := by
  have P := Lib.hid p
  have cd := p.down
  clear p
  by_cases hk : 1 ≤ k ∧ k < 2000
  · obtain ⟨m, rfl⟩ := Int.eq_ofNat_of_zero_le (show 0 ≤ k by omega)
    have hm : m < 2000 := by omega
    have c0 := P.out.head.used m hm
    have hiu : inUse h (m : Int) = h.used m := by
      unfold inUse
      rw [decide_eq_true hk.1, decide_eq_true hk.2]
      simp
    have hv : Hid (rightV h down (m : Int) = if h.used m then if down then .iface 56 (.int .i64 6) else .nilIface else .iface 56 (.int .i64 2)) := Lib.hid (by unfold rightV; rw [hiu])
    clear hiu
    rw [hv.out]
    generalize h.used m = u at *
    obtain ⟨hk1, hk2⟩ := hk
    cases u <;> cases down <;>
      (go_enter Try.func46, Try.ntmps46
       go_wp2_with fail
       all_goals first | omega | skip
       all_goals
         go_ret
         exact Ret.mk rfl (Gr.refl _))
  · have hu : inUse h k = false := by
      rw [Bool.eq_false_iff]
      intro e
      obtain ⟨m, rfl, h1, h2, _⟩ := inUse_iff.1 e
      omega
    rw [rightV_no hu]
    clear hu
    go_enter Try.func46, Try.ntmps46
    go_wp2_with fail
    all_goals first | omega | skip
    all_goals
      go_ret
      exact Ret.mk rfl (Gr.refl _)
/-- What a page has now. -/
def pageNow (pg : Nat → ByteArray) (F : Int → Option ByteArray) (k : Nat) : ByteArray := match F k with | some s => s | none => pgGet pg k
set_option maxRecDepth 100000 in
set_option maxHeartbeats 1600000 in
theorem read_bad_pg (PB DB M n : Nat) (h sv : Head) (F : Int → Option ByteArray) (down : Bool) (times : Int) (k : Int) (w : World) (p : PagerAt w PB DB M n h sv F down times) (hu : inUse h k = false) :
    Calls Try.prog 45 #[.pointer (some ⟨PB, 0, none⟩), .int .i64 k] w (Ret w (.tuple #[.string ⟨#[]⟩, .iface 56 (.int .i64 2)])) := by
  have P := Lib.hid p
  have HU := Lib.hid hu
  clear p hu
  go_enter Try.func45, Try.ntmps45
  go_wp2_with fail
  refine (right_pg PB DB M n h sv F down times k w P.out).mono ?_
  rintro e w1 ⟨rfl, hg1⟩
  rw [rightV_no HU.out]
  go_wp2_with fail
  go_ret2
  exact Ret.mk rfl hg1
set_option maxRecDepth 100000 in
set_option maxHeartbeats 1600000 in
theorem read_pg (PB DB M n : Nat) (h sv : Head) (F : Int → Option ByteArray) (times : Int) (pg : Nat → ByteArray) (cut : Bool) (left torn : Int) (k : Nat) (w : World) (p : PagerAt w PB DB M n h sv F false times) (d : DiskAt w DB pg cut left torn) (hu : inUse h k = true) :
    Calls Try.prog 45 #[.pointer (some ⟨PB, 0, none⟩), .int .i64 k] w (Ret w (.tuple #[.string (pageNow pg F k), .nilIface])) := by
  obtain ⟨m, hm, hm1, hm2, hm3⟩ := inUse_iff.1 hu
  obtain rfl : k = m := by omega
  have P := Lib.hid p
  have HD := Lib.hid d
  have HU := Lib.hid hu
  clear p d hu hm hm3
  go_enter Try.func45, Try.ntmps45
  go_wp2_with fail
  refine (right_pg PB DB M n h sv F false times k w P.out).mono ?_
  rintro e w1 ⟨rfl, hg1⟩
  rw [rightV_ok HU.out]
  have P1 := Lib.hid (P.out.gr hg1)
  have HD1 := Lib.hid (HD.out.gr hg1)
  have c0 := P1.out.disk
  have c1 := P1.out.map
  have hl := P1.out.dirty.look (k := (k : Int)) (by omega)
  cases hF : F (k : Int) with
  | none =>
    rw [hF] at hl
    simp only [Option.isSome_none, Option.getD_none] at hl
    have HV : Hid (pageNow pg F k = pgGet pg k) := Lib.hid (by unfold pageNow; rw [hF])
    clear hF
    go_wp2_with fail
    refine (read_d DB pg cut left torn k (by omega) w1 HD1.out).mono ?_
    rintro e w2 ⟨rfl, hg2⟩
    go_wp2_with fail
    go_ret2
    refine Ret.mk ?_ (hg1.trans hg2)
    rw [HV.out]
    rfl
  | some s =>
    rw [hF] at hl
    simp only [Option.isSome_some, Option.getD_some] at hl
    have HV : Hid (pageNow pg F k = s) := Lib.hid (by unfold pageNow; rw [hF])
    clear hF
    go_wp2_with fail
    go_ret2
    refine Ret.mk ?_ hg1
    rw [HV.out]
    rfl
set_option maxRecDepth 100000 in
set_option maxHeartbeats 1600000 in
theorem write_bad_pg (PB DB M n : Nat) (h sv : Head) (F : Int → Option ByteArray) (down : Bool) (times : Int) (k : Int) (s : ByteArray) (w : World) (p : PagerAt w PB DB M n h sv F down times) (hu : inUse h k = false) :
    Calls Try.prog 61 #[.pointer (some ⟨PB, 0, none⟩), .int .i64 k, .string s] w (Ret w (.iface 56 (.int .i64 2))) := by
  have P := Lib.hid p
  have HU := Lib.hid hu
  clear p hu
  go_enter Try.func61, Try.ntmps61
  go_wp2_with fail
  refine (right_pg PB DB M n h sv F down times k w P.out).mono ?_
  rintro e w1 ⟨rfl, hg1⟩
  rw [rightV_no HU.out]
  go_wp2_with fail
  go_ret
  exact Ret.mk rfl hg1
set_option maxRecDepth 100000 in
set_option maxHeartbeats 1600000 in
theorem write_len_pg (PB DB M n : Nat) (h sv : Head) (F : Int → Option ByteArray) (times : Int) (k : Int) (s : ByteArray) (hs : s.size ≠ 1024) (w : World) (p : PagerAt w PB DB M n h sv F false times) (hu : inUse h k = true) :
    Calls Try.prog 61 #[.pointer (some ⟨PB, 0, none⟩), .int .i64 k, .string s] w (Ret w (.iface 56 (.int .i64 1))) := by
  have P := Lib.hid p
  have HU := Lib.hid hu
  clear p hu
  have hs' : ((s.size : Int) != 1024) = true := by simp; omega
  go_enter Try.func61, Try.ntmps61
  go_wp2_with fail
  refine (right_pg PB DB M n h sv F false times k w P.out).mono ?_
  rintro e w1 ⟨rfl, hg1⟩
  rw [rightV_ok HU.out]
  go_wp2_with fail
  go_ret
  exact Ret.mk rfl hg1
set_option maxRecDepth 100000 in
set_option maxHeartbeats 1600000 in
theorem write_pg (PB DB M n : Nat) (h sv : Head) (F : Int → Option ByteArray) (times : Int) (k : Int) (s : ByteArray) (hs : s.size = 1024) (hn : n < 1000000) (w : World) (p : PagerAt w PB DB M n h sv F false times) (hu : inUse h k = true) :
    Calls Try.prog 61 #[.pointer (some ⟨PB, 0, none⟩), .int .i64 k, .string s] w fun e w' => e = .returned .nilIface ∧ PagerAt w' PB DB M (n + 1) h sv (setF F k (some s)) false times ∧ GrX (fun b => b = PB ∨ b = M) w w' := by
  have hkr : -9223372036854775808 ≤ k ∧ k ≤ 9223372036854775807 := by
    obtain ⟨m, hm, hm1, hm2, hm3⟩ := inUse_iff.1 hu
    omega
  have P := Lib.hid p
  have HU := Lib.hid hu
  have HKR := Lib.hid hkr
  clear p hu hkr
  have hs' : ((s.size : Int) != 1024) = false := by simp; omega
  go_enter Try.func61, Try.ntmps61
  go_wp2_with fail
  refine (right_pg PB DB M n h sv F false times k w P.out).mono ?_
  rintro e w1 ⟨rfl, hg1⟩
  rw [rightV_ok HU.out]
  have P1 := Lib.hid (P.out.gr hg1)
  have c1 := P1.out.map
  obtain ⟨w2, hupd, hma, hgM⟩ := P1.out.dirty.storeF hn HKR.out s (by omega)
  have HP2 := Lib.hid (P1.out.remap hgM hma)
  have HG := Lib.hid hgM
  clear hma hgM
  go_wp2_with fail
  go_ret
  exact ⟨rfl, HP2.out, (GrX.of_gr hg1).trans (GrX.of_grown HG.out (.inr rfl))⟩
set_option maxRecDepth 100000 in
set_option maxHeartbeats 1600000 in
theorem free_bad_pg (PB DB M n : Nat) (h sv : Head) (F : Int → Option ByteArray) (down : Bool) (times : Int) (k : Int) (w : World) (p : PagerAt w PB DB M n h sv F down times) (hu : inUse h k = false) :
    Calls Try.prog 31 #[.pointer (some ⟨PB, 0, none⟩), .int .i64 k] w (Ret w (.iface 56 (.int .i64 2))) := by
  have P := Lib.hid p
  have HU := Lib.hid hu
  clear p hu
  go_enter Try.func31, Try.ntmps31
  go_wp2_with fail
  refine (right_pg PB DB M n h sv F down times k w P.out).mono ?_
  rintro e w1 ⟨rfl, hg1⟩
  rw [rightV_no HU.out]
  go_wp2_with fail
  go_ret
  exact Ret.mk rfl hg1
set_option maxRecDepth 100000 in
set_option maxHeartbeats 1600000 in
theorem free_pg (PB DB M n : Nat) (h sv : Head) (F : Int → Option ByteArray) (times : Int) (k : Nat) (w : World) (p : PagerAt w PB DB M n h sv F false times) (hu : inUse h k = true) :
    Calls Try.prog 31 #[.pointer (some ⟨PB, 0, none⟩), .int .i64 k] w fun e w' => e = .returned .nilIface ∧ PagerAt w' PB DB M n (h.put k false) sv (setF F k none) false times ∧ GrX (fun b => b = PB ∨ b = M) w w' := by
  obtain ⟨m, hm, hm1, hm2, hm3⟩ := inUse_iff.1 hu
  obtain rfl : k = m := by omega
  have P := Lib.hid p
  have HU := Lib.hid hu
  clear p hu hm3 hm
  go_enter Try.func31, Try.ntmps31
  go_wp2_with fail
  refine (right_pg PB DB M n h sv F false times k w P.out).mono ?_
  rintro e w1 ⟨rfl, hg1⟩
  rw [rightV_ok HU.out]
  have P1 := Lib.hid (P.out.gr hg1)
  have c0 := P1.out.head.used k (by omega)
  have z0 := P1.out.free (1 + k)
  have P2 := Lib.hid (P1.out.put (show k < 2000 by omega) false)
  have c1 := P2.out.map
  go_wp2_with (at_delete; refine wpList_del rfl _ _ rfl P2.out.dirty rfl rfl (by omega) ?_)
  intro w2 hma hgM
  have HP2 := Lib.hid (P2.out.remap hgM hma)
  have HG := Lib.hid hgM
  clear hma hgM
  go_wp2_with fail
  go_ret
  exact ⟨rfl, HP2.out, ((GrX.of_gr hg1).trans (GrX.setCell _ _ (.inl rfl))).trans (GrX.of_grown HG.out (.inr rfl))⟩
end Go.Proofs.Ytmjkalpjciddbaa

/-
  What a pager has and does, as plain data.
-/
namespace Go.Proofs.Ytmjkalpjciddbaa
open Go Go.RowKit

/-- A page of a letter, and first so many of another one. -/
def kgHi (n : Int) : UInt8 := ((n / 256) % 256).toNat.toUInt8
def kgLo (n : Int) : UInt8 := (n % 256).toNat.toUInt8
def kgK (n : Int) : Nat := (n % 1024).toNat
def kpageB (n : Int) : ByteArray := ⟨(Lib.repeatL [kgHi n] (kgK n) ++ Lib.repeatL [kgLo n] (1024 - kgK n)).toArray⟩
theorem kpageB_size (n : Int) : (kpageB n).size = 1024 := by
  unfold kpageB
  rw [ba_len, List.length_append, Lib.repeatL_length, Lib.repeatL_length]
  have : kgK n ≤ 1024 := by unfold kgK; omega
  simp
  omega
def pickK (a n : Int) : Nat := ((a % 18446744073709551616) % n).toNat
theorem pickK_lt (a n : Int) (h : 1 ≤ n) : (pickK a n : Int) < n := by
  unfold pickK
  have := Int.emod_nonneg (a % 18446744073709551616) (show n ≠ 0 by omega)
  have := Int.emod_lt_of_pos (a % 18446744073709551616) (show 0 < n by omega)
  omega
theorem fineF_nil : fineF fun _ => none := fun _ _ h => by cases h
theorem fineF_set {F : Int → Option ByteArray} (h : fineF F) {k : Int} (hk : 1 ≤ k ∧ k < 2000) {s : ByteArray} (hs : s.size = 1024) : fineF (setF F k (some s)) := fun i u e => by
  unfold setF at e
  split at e
  · injection e with e
    subst e
    rename_i hi
    subst hi
    exact ⟨hk.1, hk.2, hs⟩
  · exact h i u e
theorem fineF_del {F : Int → Option ByteArray} (h : fineF F) (k : Int) : fineF (setF F k none) := fun i u e => by
  unfold setF at e
  split at e
  · cases e
  · exact h i u e
/-- The least page that is not in use. -/
def allocF (h : Head) : Option Nat := (List.range 2000).find? fun i => !h.used i
theorem allocF_some {h : Head} (hf : h.fine) {k : Nat} (e : allocF h = some k) : 1 ≤ k ∧ k < 2000 ∧ h.used k = false ∧ ∀ i, i < k → h.used i = true := by
  unfold allocF at e
  obtain ⟨h1, xs, ys, h2, h3⟩ := List.find?_eq_some_iff_append.1 e
  have hk : k < 2000 := List.mem_range.1 (List.mem_of_find?_eq_some e)
  have hu : h.used k = false := by simpa using h1
  have h0 : k ≠ 0 := fun e0 => by rw [e0, hf.zero] at hu; cases hu
  refine ⟨by omega, hk, hu, fun i hi => ?_⟩
  have hl : xs.length = k := by
    have h4 : (List.range 2000)[xs.length]? = some k := by rw [h2]; simp
    have h5 : xs.length < 2000 := by
      have := (List.getElem?_eq_some_iff.1 h4).1
      simpa using this
    rw [List.getElem?_range h5] at h4
    exact Option.some.inj h4
  have hm : i ∈ xs := by
    have h4 : (xs ++ k :: ys)[i]? = some i := by rw [← h2, List.getElem?_range (by omega)]
    rw [List.getElem?_append_left (by omega)] at h4
    exact List.mem_of_getElem? h4
  simpa using h3 i hm
theorem fine_put {h : Head} (hf : h.fine) {k : Nat} (hk : 1 ≤ k) (b : Bool) : (h.put k b).fine :=
  ⟨by show (if 0 = k then b else h.used 0) = true; rw [if_neg (by omega)]; exact hf.zero, hf.root, hf.note⟩
theorem fine_set {h : Head} (hf : h.fine) (i : Nat) {p n : Int} (hp : 0 ≤ p ∧ p < 2000) (hn : 0 ≤ n ∧ n < 65536) : (h.setRoot i p n).fine :=
  ⟨hf.zero, fun j hj => by
    show 0 ≤ (if j = i then p else h.roots j) ∧ (if j = i then p else h.roots j) < 2000
    split
    · exact hp
    · exact hf.root j hj, fun j hj => by
    show 0 ≤ (if j = i then n else h.notes j) ∧ (if j = i then n else h.notes j) < 65536
    split
    · exact hn
    · exact hf.note j hj⟩
/-- One of a pager's acts. -/
structure KAct where
  what : Int
  at_ : Int
  n : Int
/-- What is changed: the head, and pages. -/
structure Ch where
  h : Head
  F : Int → Option ByteArray
structure Ch.fine (c : Ch) : Prop where
  head : c.h.fine
  dirty : fineF c.F
def Ch.alloc (c : Ch) : Ch := match allocF c.h with | none => c | some k => ⟨c.h.put k true, setF c.F k (some zerosB)⟩
def Ch.free (c : Ch) (k : Int) : Ch := if inUse c.h k then ⟨c.h.put k.toNat false, setF c.F k none⟩ else c
def Ch.write (c : Ch) (k : Int) (s : ByteArray) : Ch := if inUse c.h k then ⟨c.h, setF c.F k (some s)⟩ else c
def Ch.new (h : Head) : Ch := ⟨h, fun _ => none⟩
def stepK (sv : Head) (c : Ch) (x : KAct) : Ch :=
  if x.what = 0 then c.alloc else if x.what = 1 then c.free (1 + (pickK x.at_ 12 : Int)) else if x.what = 2 then c.write (1 + (pickK x.at_ 12 : Int)) (kpageB x.n)
  else if x.what = 3 then ⟨c.h.setRoot (pickK x.at_ 8) (pickK x.n 2000) (pickK x.n 65536), c.F⟩ else if x.what = 4 then .new sv else c
theorem Ch.fine.alloc_fine {c : Ch} (h : c.fine) : c.alloc.fine := by
  unfold Ch.alloc
  split
  · exact h
  · rename_i k e
    obtain ⟨h1, h2, _, _⟩ := allocF_some h.head e
    exact ⟨fine_put h.head h1 _, fineF_set h.dirty (by omega) zerosB_sz⟩
theorem Ch.fine.free_fine {c : Ch} (h : c.fine) (k : Int) : (c.free k).fine := by
  unfold Ch.free
  split
  · rename_i hu
    obtain ⟨m, rfl, h1, h2, _⟩ := inUse_iff.1 hu
    exact ⟨fine_put h.head (by simpa using h1) _, fineF_del h.dirty _⟩
  · exact h
theorem Ch.fine.write_fine {c : Ch} (h : c.fine) (k : Int) {s : ByteArray} (hs : s.size = 1024) : (c.write k s).fine := by
  unfold Ch.write
  split
  · rename_i hu
    obtain ⟨m, rfl, h1, h2, _⟩ := inUse_iff.1 hu
    exact ⟨h.head, fineF_set h.dirty (by omega) hs⟩
  · exact h
theorem Ch.new_fine {h : Head} (hf : h.fine) : (Ch.new h).fine := ⟨hf, fineF_nil⟩
theorem stepK_fine {sv : Head} (hs : sv.fine) {c : Ch} (h : c.fine) (x : KAct) : (stepK sv c x).fine := by
  unfold stepK
  split
  · exact h.alloc_fine
  split
  · exact h.free_fine _
  split
  · exact h.write_fine _ (kpageB_size _)
  split
  · have h1 := pickK_lt x.n 2000 (by omega)
    have h2 := pickK_lt x.n 65536 (by omega)
    exact ⟨fine_set h.head _ (by omega) (by omega), h.dirty⟩
  split
  · exact Ch.new_fine hs
  · exact h
theorem foldK_fine {sv : Head} (hs : sv.fine) : ∀ (l : List KAct) {c : Ch}, c.fine → (l.foldl (stepK sv) c).fine
  | [], _, h => h
  | x :: l, _, h => foldK_fine hs l (stepK_fine hs h x)
/-- A head that was read may be. -/
theorem reads_fine {l : List UInt8} (hr : ∀ i, i < 8 → fromF l (250 + 4 * i) < 2000) : (readsF l).fine := by
  refine ⟨rfl, fun i hi => ⟨?_, hr i hi⟩, fun i hi => ⟨?_, ?_⟩⟩
  · show 0 ≤ fromF l _
    unfold fromF
    omega
  · show 0 ≤ fromF l _
    unfold fromF
    omega
  · show fromF l _ < 65536
    unfold fromF
    have h1 := (l.getD (252 + 4 * i) 0).toNat_lt
    have h2 := (l.getD (252 + 4 * i + 1) 0).toNat_lt
    omega
/-- All that a pager has, as one text. -/
def allP (c : Ch) (pg : Nat → ByteArray) (n : Nat) : List UInt8 := (List.range n).flatMap fun (i : Nat) => if inUse c.h ((i : Int) + 1) then (i + 1).toUInt8 :: (pageNow pg c.F (i + 1)).data.toList else []
def usedN (h : Head) : Nat → Nat
  | 0 => 0
  | n + 1 => usedN h n + if h.used n then 1 else 0
def allT (c : Ch) (pg : Nat → ByteArray) : List UInt8 := allP c pg 59 ++ rootsF c.h 8 ++ [(usedN c.h 2000).toUInt8]
theorem usedN_same {h g : Head} (s : h.same g) : ∀ n, n ≤ 2000 → usedN h n = usedN g n
  | 0, _ => rfl
  | n + 1, hn => by unfold usedN; rw [usedN_same s n (by omega), s.1 n (by omega)]
theorem usedN_le (h : Head) : ∀ n, usedN h n ≤ n
  | 0 => Nat.le_refl _
  | n + 1 => by
    have := usedN_le h n
    unfold usedN
    split <;> omega
theorem inUse_same {h g : Head} (s : h.same g) (k : Int) : inUse h k = inUse g k := by
  by_cases hk : 1 ≤ k ∧ k < 2000
  · unfold inUse
    rw [s.1 k.toNat (by omega)]
  · rw [Bool.eq_iff_iff, inUse_iff, inUse_iff]
    constructor
    · rintro ⟨m, rfl, h1, h2, _⟩
      omega
    · rintro ⟨m, rfl, h1, h2, _⟩
      omega
theorem rootsF_same {h g : Head} (s : h.same g) : ∀ n, n ≤ 8 → rootsF h n = rootsF g n
  | 0, _ => rfl
  | n + 1, hn => by
    rw [rootsF_next, rootsF_next, rootsF_same s n (by omega), (s.2 n (by omega)).1, (s.2 n (by omega)).2]
theorem allP_next (c : Ch) (pg : Nat → ByteArray) (n : Nat) : allP c pg (n + 1) = allP c pg n ++ if inUse c.h ((n : Int) + 1) then (n + 1).toUInt8 :: (pageNow pg c.F (n + 1)).data.toList else [] := by
  unfold allP
  rw [List.range_succ, List.flatMap_append]
  simp
theorem allP_len {c : Ch} {pg : Nat → ByteArray} (hp : ∀ k, k < 2000 → (pageNow pg c.F k).size = 1024) : ∀ n, n ≤ 1000 → (allP c pg n).length ≤ 1025 * n
  | 0, _ => by simp [allP]
  | n + 1, hn => by
    have ih := allP_len hp n (by omega)
    rw [allP_next, List.length_append]
    split
    · rw [List.length_cons, ← size_data, hp _ (by omega)]
      omega
    · simp
      omega
/-- Where the heads are one, and the pages in use are, all is one. -/
theorem allT_eq {c d : Ch} {pg qg : Nat → ByteArray} (hs : c.h.same d.h) (hp : ∀ k : Nat, 1 ≤ k → k < 2000 → pageNow pg c.F k = pageNow qg d.F k) : allT c pg = allT d qg := by
  have e1 : ∀ n, n ≤ 59 → allP c pg n = allP d qg n := by
    intro n
    induction n with
    | zero => intro _; rfl
    | succ n ih =>
      intro hn
      rw [allP_next, allP_next, ih (by omega), inUse_same hs, hp (n + 1) (by omega) (by omega)]
  unfold allT
  rw [e1 59 (Nat.le_refl _), rootsF_same hs 8 (Nat.le_refl _), usedN_same hs 2000 (Nat.le_refl _)]
end Go.Proofs.Ytmjkalpjciddbaa

/-
  Trees as plain data: what their pages have, and what is done with them.
-/
namespace Go.Proofs.Ytmjkalpjciddbaa
open Go Go.RowKit

def noB : ByteArray := ⟨#[]⟩
/-- An entry of a page. -/
structure En where
  key : ByteArray
  item : ByteArray
  page : Nat
def En.sz (e : En) (leaf : Bool) : Nat := if leaf then 2 + e.key.size + e.item.size else 3 + e.key.size
def sumE (leaf : Bool) (l : List En) : Nat := (l.map fun e => e.sz leaf).sum
def bytesE (leaf : Bool) (l : List En) : Nat := 3 + sumE leaf l
def En.head (e : En) (leaf : Bool) : List UInt8 := if leaf then [e.key.size.toUInt8, e.item.size.toUInt8] else e.key.size.toUInt8 :: two8 (e.page : Int)
def En.txt (e : En) (leaf : Bool) : List UInt8 := e.head leaf ++ (e.key.data.toList ++ e.item.data.toList)
def restE (leaf : Bool) (l : List En) : List UInt8 := l.flatMap fun e => e.txt leaf
/-- A page's bytes. -/
def txtE (leaf : Bool) (l : List En) : List UInt8 := (if leaf then 1 else 2) :: (two8 (l.length : Int) ++ (restE leaf l ++ List.replicate (1024 - bytesE leaf l) 0))
def pageE (leaf : Bool) (l : List En) : ByteArray := ⟨(txtE leaf l).toArray⟩
/-- An entry that may be. -/
structure En.ok (e : En) (leaf : Bool) : Prop where
  key : e.key.size ≤ 60
  item : e.item.size ≤ 100
  page : e.page < 2000
  isL : leaf = true → e.page = 0
  node : leaf = false → e.item = noB
theorem En.txt_len {leaf : Bool} {e : En} (h : e.ok leaf) : (e.txt leaf).length = e.sz leaf := by
  unfold En.txt En.sz En.head
  have h1 : ∀ s : ByteArray, s.data.toList.length = s.size := fun s => by rw [Array.length_toList]; rfl
  cases leaf with
  | true =>
    simp only [if_true, List.length_append, h1, List.length_cons, List.length_nil]
    omega
  | false =>
    have : e.item.size = 0 := by rw [h.node rfl]; rfl
    simp only [Bool.false_eq_true, if_false, List.length_append, h1, List.length_cons, two8, List.length_nil]
    omega
theorem restE_len {leaf : Bool} : ∀ {l : List En}, (∀ e ∈ l, e.ok leaf) → (restE leaf l).length = sumE leaf l
  | [], _ => rfl
  | e :: l, h => by
    have ih := restE_len (l := l) fun x hx => h x (List.mem_cons_of_mem _ hx)
    unfold restE sumE at *
    rw [List.flatMap_cons, List.length_append, ih, En.txt_len (h e List.mem_cons_self), List.map_cons, List.sum_cons]
theorem txtE_len {leaf : Bool} {l : List En} (h : ∀ e ∈ l, e.ok leaf) (hb : bytesE leaf l ≤ 1024) : (txtE leaf l).length = 1024 := by
  unfold txtE
  unfold bytesE at *
  simp only [List.length_cons, List.length_append, two8, List.length_nil, restE_len h, List.length_replicate]
  omega
theorem pageE_size {leaf : Bool} {l : List En} (h : ∀ e ∈ l, e.ok leaf) (hb : bytesE leaf l ≤ 1024) : (pageE leaf l).size = 1024 := by
  unfold pageE
  rw [ba_len, txtE_len h hb]
theorem En.sz_pos (e : En) (leaf : Bool) : 2 ≤ e.sz leaf := by
  unfold En.sz
  split <;> omega
theorem En.sz_le {leaf : Bool} {e : En} (h : e.ok leaf) : e.sz leaf ≤ 162 := by
  have := h.key
  have := h.item
  unfold En.sz
  split <;> omega
theorem sumE_append (leaf : Bool) (a b : List En) : sumE leaf (a ++ b) = sumE leaf a + sumE leaf b := by
  unfold sumE
  rw [List.map_append, List.sum_append]
theorem sumE_cons (leaf : Bool) (e : En) (b : List En) : sumE leaf (e :: b) = e.sz leaf + sumE leaf b := by
  unfold sumE
  rw [List.map_cons, List.sum_cons]
theorem sumE_len (leaf : Bool) : ∀ l : List En, 2 * l.length ≤ sumE leaf l
  | [] => Nat.le_refl _
  | e :: l => by
    have := sumE_len leaf l
    have := e.sz_pos leaf
    rw [sumE_cons, List.length_cons]
    omega

/-- A tree: its page, and pairs, or keys and trees below. -/
def T : Nat → Type
  | 0 => Nat × List (ByteArray × ByteArray)
  | d + 1 => Nat × List (ByteArray × T d)
def T.pg : {d : Nat} → T d → Nat
  | 0, t => Prod.fst t
  | _ + 1, t => Prod.fst t
def enL (x : ByteArray × ByteArray) : En := ⟨x.1, x.2, 0⟩
def enN {d : Nat} (x : ByteArray × T d) : En := ⟨x.1, noB, x.2.pg⟩
def T.ents : {d : Nat} → T d → List En
  | 0, t => (Prod.snd t).map enL
  | _ + 1, t => (Prod.snd t).map enN
def isLeaf : Nat → Bool
  | 0 => true
  | _ + 1 => false
def T.pages : {d : Nat} → T d → List Nat
  | 0, t => [Prod.fst t]
  | _ + 1, t => Prod.fst t :: (Prod.snd t).flatMap fun x => x.2.pages
/-- All pairs, in order. -/
def T.kv : {d : Nat} → T d → List (ByteArray × ByteArray)
  | 0, t => Prod.snd t
  | _ + 1, t => (Prod.snd t).flatMap fun x => x.2.kv
/-- A node is in use, and has this text. -/
def HasN (c : Ch) (pg : Nat → ByteArray) (leaf : Bool) (p : Nat) (l : List En) : Prop := (1 ≤ p ∧ p < 2000 ∧ c.h.used p = true) ∧ pageNow pg c.F p = pageE leaf l
def T.lays (c : Ch) (pg : Nat → ByteArray) : {d : Nat} → T d → Prop
  | 0, t => HasN c pg true (Prod.fst t) ((Prod.snd t).map enL)
  | _ + 1, t => HasN c pg false (Prod.fst t) ((Prod.snd t).map enN) ∧ ∀ x ∈ Prod.snd t, x.2.lays c pg
/-- Nodes may be so: not empty, in bounds. -/
def OkN (leaf : Bool) (l : List En) : Prop := l ≠ [] ∧ bytesE leaf l ≤ 1024 ∧ ∀ e ∈ l, e.ok leaf
def T.okT : {d : Nat} → T d → Prop
  | 0, t => OkN true ((Prod.snd t).map enL)
  | _ + 1, t => OkN false ((Prod.snd t).map enN) ∧ ∀ x ∈ Prod.snd t, x.2.okT
end Go.Proofs.Ytmjkalpjciddbaa

/-
  What is done with trees, as plain functions.
-/
namespace Go.Proofs.Ytmjkalpjciddbaa
open Go Go.RowKit

def cmpB (a b : ByteArray) : Int := Lib.compareBytes a.data.toList b.data.toList
/-- A binary search: 'lt h': does what stands at h precede? -/
def bsI (lt : Nat → Bool) : Nat → Nat → Nat → Nat
  | 0, i, _ => i
  | f + 1, i, j => if i < j then (if lt ((i + j) / 2) then bsI lt f ((i + j) / 2 + 1) j else bsI lt f i ((i + j) / 2)) else i
theorem bsI_le (lt : Nat → Bool) : ∀ f i j, i ≤ j → i ≤ bsI lt f i j ∧ bsI lt f i j ≤ j
  | 0, i, j, h => ⟨Nat.le_refl _, h⟩
  | f + 1, i, j, h => by
    unfold bsI
    split
    · split
      · have := bsI_le lt f ((i + j) / 2 + 1) j (by omega)
        omega
      · have := bsI_le lt f i ((i + j) / 2) (by omega)
        omega
    · omega
def ltK (keys : List ByteArray) (k : ByteArray) (h : Nat) : Bool := decide (cmpB (keys.getD h noB) k < 0)
/-- Where a key stands, or would stand. -/
def searchE (keys : List ByteArray) (k : ByteArray) : Nat := bsI (ltK keys k) keys.length 0 keys.length
def hitE (keys : List ByteArray) (k : ByteArray) : Bool := decide (searchE keys k < keys.length) && decide (cmpB (keys.getD (searchE keys k) noB) k = 0)
theorem searchE_le (keys : List ByteArray) (k : ByteArray) : searchE keys k ≤ keys.length := (bsI_le _ _ _ _ (Nat.zero_le _)).2
theorem hitE_lt {keys : List ByteArray} {k : ByteArray} (h : hitE keys k = true) : searchE keys k < keys.length := by
  unfold hitE at h
  rw [Bool.and_eq_true, decide_eq_true_eq] at h
  exact h.1
/-- In a node with pages below: the page for a key. -/
def downE (keys : List ByteArray) (k : ByteArray) : Nat := if hitE keys k then searchE keys k else searchE keys k - 1
theorem downE_lt {keys : List ByteArray} (h : keys ≠ []) (k : ByteArray) : downE keys k < keys.length := by
  have h0 : 0 < keys.length := List.length_pos_iff.2 h
  have := searchE_le keys k
  unfold downE
  split
  · rename_i hh
    exact hitE_lt hh
  · omega
/-- Where a node that is too much is cut. -/
def cutK (leaf : Bool) (half : Nat) : Nat → List En → Nat
  | _, [] => 0
  | acc, e :: l => if acc < half then cutK leaf half (acc + e.sz leaf) l + 1 else 0
def cutE (leaf : Bool) (l : List En) : Nat := cutK leaf (bytesE leaf l / 2) 0 l
theorem cutK_bounds (leaf : Bool) (half : Nat) : ∀ (l : List En) (acc : Nat), (∀ e ∈ l, e.sz leaf ≤ 162) → half ≤ acc + sumE leaf l → half ≤ acc + sumE leaf (l.take (cutK leaf half acc l)) ∧ (acc < half → acc + sumE leaf (l.take (cutK leaf half acc l)) < half + 162) ∧ cutK leaf half acc l ≤ l.length
  | [], acc, _, h => by
    unfold cutK
    simp only [List.take_nil, List.length_nil]
    refine ⟨h, fun h2 => ?_, Nat.le_refl _⟩
    simp only [sumE, List.map_nil, List.sum_nil] at *
    omega
  | e :: l, acc, hs, h => by
    have he := hs e List.mem_cons_self
    rw [sumE_cons] at h
    unfold cutK
    split
    · rename_i hlt
      obtain ⟨h1, h2, h3⟩ := cutK_bounds leaf half l (acc + e.sz leaf) (fun x hx => hs x (List.mem_cons_of_mem _ hx)) (by omega)
      rw [List.take_succ_cons, sumE_cons, List.length_cons]
      refine ⟨by omega, fun _ => ?_, by omega⟩
      by_cases hc : acc + e.sz leaf < half
      · have := h2 hc
        omega
      · have hz : cutK leaf half (acc + e.sz leaf) l = 0 := by
          cases l with
          | nil => rfl
          | cons a r => unfold cutK; rw [if_neg hc]
        rw [hz, List.take_zero]
        simp only [sumE, List.map_nil, List.sum_nil]
        omega
    · rename_i hge
      rw [List.take_zero]
      simp only [sumE, List.map_nil, List.sum_nil]
      exact ⟨by omega, fun h => absurd h hge, by simp⟩
/-- Both halves of a node that is too much are not empty, and fit. -/
theorem cutE_bounds {leaf : Bool} {l : List En} (hs : ∀ e ∈ l, e.ok leaf) (h1 : 1024 < bytesE leaf l) (h2 : bytesE leaf l ≤ 1400) :
    0 < cutE leaf l ∧ cutE leaf l < l.length ∧ bytesE leaf (l.take (cutE leaf l)) ≤ 1024 ∧ bytesE leaf (l.drop (cutE leaf l)) ≤ 1024 := by
  have h3 : bytesE leaf l = 3 + sumE leaf l := rfl
  obtain ⟨b1, b2, b3⟩ := cutK_bounds leaf (bytesE leaf l / 2) l 0 (fun e he => En.sz_le (hs e he)) (by omega)
  have b4 := b2 (by omega)
  have hsum : sumE leaf (l.take (cutE leaf l)) + sumE leaf (l.drop (cutE leaf l)) = sumE leaf l := by
    rw [← sumE_append, List.take_append_drop]
  change _ ≤ 0 + sumE leaf (l.take (cutE leaf l)) at b1
  change 0 + sumE leaf (l.take (cutE leaf l)) < _ at b4
  change cutE leaf l ≤ _ at b3
  have h5 : bytesE leaf (l.take (cutE leaf l)) = 3 + sumE leaf (l.take (cutE leaf l)) := rfl
  have h6 : bytesE leaf (l.drop (cutE leaf l)) = 3 + sumE leaf (l.drop (cutE leaf l)) := rfl
  refine ⟨?_, ?_, by omega, by omega⟩
  · rcases Nat.eq_zero_or_pos (cutE leaf l) with e | e
    · rw [e, List.take_zero] at b1
      simp only [sumE, List.map_nil, List.sum_nil] at b1
      omega
    · exact e
  · rcases Nat.lt_or_ge (cutE leaf l) l.length with e | e
    · exact e
    · rw [List.drop_eq_nil_of_le e] at hsum
      simp only [sumE, List.map_nil, List.sum_nil] at hsum
      simp only [sumE] at *
      omega
section
variable {X : Type}
/-- What a split tells: nothing (no page was left); or what stands beside it then. -/
abbrev Res (X : Type) : Type := Ch × X × Option (Option (ByteArray × X))
def keyOf (l : List (ByteArray × X)) : ByteArray := ((l.head?).map Prod.fst).getD noB
/-- A node is written; if it is too much for a page, as two. -/
def splitL (en : ByteArray × X → En) (leaf : Bool) (c : Ch) (p : Nat) (l old : List (ByteArray × X)) : Res (Nat × List (ByteArray × X)) :=
  if bytesE leaf (l.map en) ≤ 1024 then (c.write p (pageE leaf (l.map en)), (p, l), some none)
  else match allocF c.h with
    | none => (c, (p, old), none)
    | some q => ((c.alloc.write p (pageE leaf ((l.map en).take (cutE leaf (l.map en))))).write q (pageE leaf ((l.map en).drop (cutE leaf (l.map en)))), (p, l.take (cutE leaf (l.map en))), some (some (keyOf (l.drop (cutE leaf (l.map en))), (q, l.drop (cutE leaf (l.map en))))))
/-- In a leaf: a pair is put. -/
def putL (l : List (ByteArray × ByteArray)) (key item : ByteArray) : List (ByteArray × ByteArray) :=
  if hitE (l.map Prod.fst) key then l.set (searchE (l.map Prod.fst) key) (key, item) else l.insertIdx (searchE (l.map Prod.fst) key) (key, item)
end
def putT : {d : Nat} → Ch → T d → ByteArray → ByteArray → Res (T d)
  | 0, c, t, key, item => splitL enL true c (Prod.fst t) (putL (Prod.snd t) key item) (Prod.snd t)
  | d + 1, c, t, key, item =>
    match (Prod.snd t)[downE ((Prod.snd t).map Prod.fst) key]? with
    | none => (c, t, none)
    | some x =>
      match putT c x.2 key item with
      | (c1, u, none) => (c1, (Prod.fst t, (Prod.snd t).set (downE ((Prod.snd t).map Prod.fst) key) (x.1, u)), none)
      | (c1, u, some none) => splitL (X := T d) enN false c1 (Prod.fst t) ((Prod.snd t).set (downE ((Prod.snd t).map Prod.fst) key) (x.1, u)) ((Prod.snd t).set (downE ((Prod.snd t).map Prod.fst) key) (x.1, u))
      | (c1, u, some (some m)) => splitL (X := T d) enN false c1 (Prod.fst t) (((Prod.snd t).set (downE ((Prod.snd t).map Prod.fst) key) (x.1, u)).insertIdx (downE ((Prod.snd t).map Prod.fst) key + 1) m) ((Prod.snd t).set (downE ((Prod.snd t).map Prod.fst) key) (x.1, u))
def getT (key : ByteArray) : {d : Nat} → T d → Option ByteArray
  | 0, t => if hitE ((Prod.snd t).map Prod.fst) key then ((Prod.snd t)[searchE ((Prod.snd t).map Prod.fst) key]?).map Prod.snd else none
  | _ + 1, t => ((Prod.snd t)[downE ((Prod.snd t).map Prod.fst) key]?).bind fun x => getT key x.2
/-- The first one's key is another one. -/
def reKey {X : Type} (k : ByteArray) : List (ByteArray × X) → List (ByteArray × X)
  | [] => []
  | x :: r => (k, x.2) :: r
def reKeyE (k : ByteArray) : List En → List En
  | [] => []
  | x :: r => ⟨k, x.item, x.page⟩ :: r
/-- Two nodes side by side as one; the key of the second one's first page is told. -/
def T.meet : {d : Nat} → T d → ByteArray → T d → T d
  | 0, a, _, b => (Prod.fst a, Prod.snd a ++ Prod.snd b)
  | _ + 1, a, k, b => (Prod.fst a, Prod.snd a ++ reKey k (Prod.snd b))
def joinT {d : Nat} (c : Ch) (l : List (ByteArray × T d)) (k : Nat) (u : T d) : Ch × List (ByteArray × T d) :=
  if 341 < bytesE (isLeaf d) u.ents ∨ l.length < 2 then (c, l)
  else match l[k - 1]?, l[k - 1 + 1]? with
    | some a, some b =>
      if 1024 < bytesE (isLeaf d) (a.2.meet b.1 b.2).ents then (c, l)
      else ((c.write a.2.pg (pageE (isLeaf d) (a.2.meet b.1 b.2).ents)).free b.2.pg, (l.set (k - 1) (a.1, a.2.meet b.1 b.2)).eraseIdx (k - 1 + 1))
    | _, _ => (c, l)
def dropT : {d : Nat} → Ch → T d → ByteArray → Ch × T d
  | 0, c, t, key => (c.write (Prod.fst t : Nat) (pageE true (((Prod.snd t).eraseIdx (searchE ((Prod.snd t).map Prod.fst) key)).map enL)), (Prod.fst t, (Prod.snd t).eraseIdx (searchE ((Prod.snd t).map Prod.fst) key)))
  | d + 1, c, t, key =>
    match (Prod.snd t)[downE ((Prod.snd t).map Prod.fst) key]? with
    | none => (c, t)
    | some x =>
      let r := dropT c x.2 key
      let l := (Prod.snd t).set (downE ((Prod.snd t).map Prod.fst) key) (x.1, r.2)
      let s : Ch × List (ByteArray × T d) := if r.2.ents.isEmpty then (r.1.free (r.2.pg : Nat), l.eraseIdx (downE ((Prod.snd t).map Prod.fst) key)) else joinT r.1 l (downE ((Prod.snd t).map Prod.fst) key) r.2
      (s.1.write (Prod.fst t : Nat) (pageE false (s.2.map enN)), (Prod.fst t, s.2))
def clearT : {d : Nat} → Ch → T d → Ch
  | 0, c, t => c.free (Prod.fst t : Nat)
  | d + 1, c, t => ((Prod.snd t).foldl (fun c (x : ByteArray × T d) => clearT c x.2) c).free (Prod.fst t : Nat)
def walkT (s : ByteArray) : {d : Nat} → T d → List (ByteArray × ByteArray)
  | 0, t => (Prod.snd t).drop (searchE ((Prod.snd t).map Prod.fst) s)
  | d + 1, t => ((Prod.snd t).drop (downE ((Prod.snd t).map Prod.fst) s)).flatMap fun (x : ByteArray × T d) => walkT s x.2
/-- A tree at a root; or none. -/
abbrev Tr : Type := Option ((d : Nat) × T d)
def Tr.pages : Tr → List Nat
  | none => []
  | some t => t.2.pages
def Tr.lays (c : Ch) (pg : Nat → ByteArray) (i : Nat) : Tr → Prop
  | none => c.h.roots i = 0
  | some t => c.h.roots i = (t.2.pg : Nat) ∧ t.2.lays c pg ∧ t.2.okT ∧ t.2.pages.Nodup
def Ch.root (c : Ch) (i : Nat) (p : Int) : Ch := ⟨c.h.setRoot i p (c.h.notes i), c.F⟩
/-- A pair is put in; an error's number, 0 for none. -/
def putsT (c : Ch) (i : Nat) (t : Tr) (key item : ByteArray) : Ch × Tr × Nat :=
  match t with
  | none => match allocF c.h with
    | none => (c, none, 12)
    | some k => ((c.alloc.write (k : Nat) (pageE true [⟨key, item, 0⟩])).root i (k : Nat), some ⟨0, (k, [(key, item)])⟩, 0)
  | some ⟨d, t⟩ => match putT c t key item with
    | (c1, u, none) => (c1, some ⟨d, u⟩, 12)
    | (c1, u, some none) => (c1, some ⟨d, u⟩, 0)
    | (c1, u, some (some m)) => match allocF c1.h with
      | none => (c1, some ⟨d, u⟩, 12)
      | some k => ((c1.alloc.write (k : Nat) (pageE false [⟨(u.ents.head?.map En.key).getD noB, noB, u.pg⟩, ⟨m.1, noB, m.2.pg⟩])).root i (k : Nat), some ⟨d + 1, (k, [((u.ents.head?.map En.key).getD noB, u), m])⟩, 0)
/-- The sum is changed, if it may be so. -/
def moreT (c : Ch) (i : Nat) (more : Int) : Ch × Nat := if 0 ≤ c.h.notes i + more ∧ c.h.notes i + more < 65536 then (⟨c.h.setRoot i (c.h.roots i) (c.h.notes i + more), c.F⟩, 0) else (c, 2)
def Tr.get (t : Tr) (key : ByteArray) : Option ByteArray := match t with | none => none | some t => getT key t.2
def moreP (t : Tr) (key item : ByteArray) : Int := match t.get key with | none => 2 + (key.size : Int) + item.size | some old => (item.size : Int) - old.size
def putR (c : Ch) (i : Nat) (t : Tr) (key item : ByteArray) : Ch × Tr × Nat :=
  if key.size < 1 ∨ 60 < key.size ∨ 100 < item.size then (c, t, 1)
  else if 30000 < c.h.notes i + moreP t key item then (c, t, 12)
  else match putsT c i t key item with
    | (c1, u, 0) => ((moreT c1 i (moreP t key item)).1, u, (moreT c1 i (moreP t key item)).2)
    | r => r
def dropsT (c : Ch) (i : Nat) (t : Tr) (key : ByteArray) : Ch × Tr :=
  match t with
  | none => (c, none)
  | some ⟨0, t⟩ => if (dropT c t key).2.ents.isEmpty then (((dropT c t key).1.free (t.pg : Nat)).root i 0, none) else ((dropT c t key).1, some ⟨0, (dropT c t key).2⟩)
  | some ⟨d + 1, t⟩ =>
    if (dropT c t key).2.ents.isEmpty then (((dropT c t key).1.free (t.pg : Nat)).root i 0, none)
    else match Prod.snd (dropT c t key).2 with
      | [x] => (((dropT c t key).1.free (t.pg : Nat)).root i (T.pg (d := d) x.2 : Nat), some ⟨d, x.2⟩)
      | _ => ((dropT c t key).1, some ⟨d + 1, (dropT c t key).2⟩)
def dropR (c : Ch) (i : Nat) (t : Tr) (key : ByteArray) : Ch × Tr × Nat :=
  match t.get key with
  | none => (c, t, 7)
  | some old => ((moreT (dropsT c i t key).1 i (-2 - (key.size : Int) - old.size)).1, (dropsT c i t key).2, (moreT (dropsT c i t key).1 i (-2 - (key.size : Int) - old.size)).2)
def clearR (c : Ch) (i : Nat) (t : Tr) : Ch := match t with
  | none => ⟨c.h.setRoot i 0 0, c.F⟩
  | some t => ⟨(clearT c t.2).h.setRoot i 0 0, (clearT c t.2).F⟩
def walkR (t : Tr) (s : ByteArray) : List (ByteArray × ByteArray) := match t with
  | none => []
  | some t => walkT s t.2
end Go.Proofs.Ytmjkalpjciddbaa
