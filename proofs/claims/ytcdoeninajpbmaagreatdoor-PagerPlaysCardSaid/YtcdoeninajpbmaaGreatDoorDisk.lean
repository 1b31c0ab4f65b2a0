/-
  Contracts of the disk's methods.
-/
import Derived.Test.YtcdoeninajpbmaaGreatDoorLib
import Derived.Test.YtcdoeninajpbmaaGreatDoorShelf
import Derived.Test.YtcdoeninajpbmaaGreatDoorAux
import Derived.Laws.Concat
import Derived.RegionTactic
namespace Go.Proofs.YtcdoeninajpbmaaGreatDoor
open Go Go.RowKit

/-- A page of noughts. -/
def zerosB : ByteArray := ⟨(Lib.repeatL [0] 1024).toArray⟩
/-- What a page reads as. -/
def pgGet (pg : Nat → ByteArray) (k : Nat) : ByteArray := if (pg k).toList.isEmpty then zerosB else pg k
def pgPut (pg : Nat → ByteArray) (k : Nat) (s : ByteArray) : Nat → ByteArray := fun i => if i = k then s else pg i
/-- A disk in memory. -/
def DiskAt (w : World) (B : Nat) (pg : Nat → ByteArray) (cut : Bool) (left torn : Int) : Prop :=
  (∀ k, k < 4001 → w.cell? ⟨B, k, none⟩ = some (.string (pg k))) ∧ w.cell? ⟨B, 4001, none⟩ = some (.bool cut) ∧ w.cell? ⟨B, 4002, none⟩ = some (.int .i64 left) ∧ w.cell? ⟨B, 4003, none⟩ = some (.int .i64 torn) ∧ ∀ o, w.frozen? ⟨B, o, none⟩ = false
theorem DiskAt.gr {w w' : World} {B : Nat} {pg : Nat → ByteArray} {cut : Bool} {left torn : Int} (h : DiskAt w B pg cut left torn) (g : Gr w w') : DiskAt w' B pg cut left torn :=
  ⟨fun k hk => g.keeps (h.1 k hk), g.keeps h.2.1, g.keeps h.2.2.1, g.keeps h.2.2.2.1, fun o => (g.frozen o (lt_of_cell h.2.1)).trans (h.2.2.2.2 o)⟩
theorem cell_off {w : World} {B o p : Nat} {u v : Value} (h : o ≠ p) (hc : w.cell? ⟨B, o, none⟩ = some v) : (w.setCell ⟨B, p, none⟩ u).cell? ⟨B, o, none⟩ = some v :=
  (World.cell?_setCell_other _ _ _ _ (fun e => h (congrArg Addr.off e).symm)).trans hc
theorem grownBy_setCell (w : World) (B o : Nat) (u : Value) : w.grownBy (w.setCell ⟨B, o, none⟩ u) (some B) :=
  ⟨rfl, rfl, rfl, by simp, fun k _ hne => Below.heap_setCell _ _ _ _ (fun e => hne (by rw [e]))⟩
theorem grown_of_gr {w w' : World} (g : Gr w w') (row : Option Nat) : w.grownBy w' row := ⟨g.os, g.tape, g.output, g.size, fun k hk _ => g.block k hk⟩
theorem DiskAt.putLeft {w : World} {B : Nat} {pg : Nat → ByteArray} {cut : Bool} {left torn : Int} (h : DiskAt w B pg cut left torn) (n : Int) : DiskAt (w.setCell ⟨B, 4002, none⟩ (.int .i64 n)) B pg cut n torn :=
  ⟨fun k hk => cell_off (by omega) (h.1 k hk), cell_off (by omega) h.2.1, World.cell?_setCell_same _ _ _ h.2.2.1, cell_off (by omega) h.2.2.2.1, fun o => by simpa using h.2.2.2.2 o⟩
theorem DiskAt.putTorn {w : World} {B : Nat} {pg : Nat → ByteArray} {cut : Bool} {left torn : Int} (h : DiskAt w B pg cut left torn) (n : Int) : DiskAt (w.setCell ⟨B, 4003, none⟩ (.int .i64 n)) B pg cut left n :=
  ⟨fun k hk => cell_off (by omega) (h.1 k hk), cell_off (by omega) h.2.1, cell_off (by omega) h.2.2.1, World.cell?_setCell_same _ _ _ h.2.2.2.1, fun o => by simpa using h.2.2.2.2 o⟩
theorem DiskAt.putCut {w : World} {B : Nat} {pg : Nat → ByteArray} {cut : Bool} {left torn : Int} (h : DiskAt w B pg cut left torn) (b : Bool) : DiskAt (w.setCell ⟨B, 4001, none⟩ (.bool b)) B pg b left torn :=
  ⟨fun k hk => cell_off (by omega) (h.1 k hk), World.cell?_setCell_same _ _ _ h.2.1, cell_off (by omega) h.2.2.1, cell_off (by omega) h.2.2.2.1, fun o => by simpa using h.2.2.2.2 o⟩
theorem DiskAt.putPage {w : World} {B : Nat} {pg : Nat → ByteArray} {cut : Bool} {left torn : Int} (h : DiskAt w B pg cut left torn) {k : Nat} (hk : k < 4001) (s : ByteArray) : DiskAt (w.setCell ⟨B, k, none⟩ (.string s)) B (pgPut pg k s) cut left torn := by
  refine ⟨fun i hi => ?_, cell_off (by omega) h.2.1, cell_off (by omega) h.2.2.1, cell_off (by omega) h.2.2.2.1, fun o => by simpa using h.2.2.2.2 o⟩
  unfold pgPut
  by_cases e : i = k
  · subst e
    rw [if_pos rfl]
    exact World.cell?_setCell_same _ _ _ (h.1 i hi)
  · rw [if_neg e]
    exact cell_off e (h.1 i hi)
def onB (cut : Bool) (left : Int) : Bool := !cut || decide (0 < left)

theorem data_ext {a b : ByteArray} (h : a.data.toList = b.data.toList) : a = b := by
  cases a; cases b; simp only [ByteArray.mk.injEq]; exact Array.ext' h
theorem on_d (B : Nat) (pg : Nat → ByteArray) (cut : Bool) (left torn : Int) (w : World) (h : DiskAt w B pg cut left torn) : Calls Tryz.prog 53 #[.pointer (some ⟨B, 0, none⟩)] w (Ret w (.bool (onB cut left))) := by
  have h1 := h.2.1
  have h2 := h.2.2.1
  clear h
  go_enter Tryz.func53, Tryz.ntmps53
  go_wp2
  all_goals
    go_ret
    refine Ret.mk ?_ (Gr.refl _)
    simp_all [onB]
theorem repeat_t (s : ByteArray) (c : Nat) (w : World) (hc : c ≤ 100000) (hs : s.size ≤ 100000) : Calls Tryz.prog 30 #[.string s, .int .i64 c] w (Ret w (.string ⟨(Lib.repeatL s.data.toList c).toArray⟩)) := by
  refine (Tryz.strings_Repeat s c w (by omega) (by have := Nat.mul_le_mul hs hc; omega)).mono ?_
  rintro e w1 ⟨rfl, hg1⟩
  exact ⟨rfl, hg1⟩
theorem repeat_zero (w : World) : Calls Tryz.prog 30 #[.string ⟨#[0]⟩, .int .i64 1024] w (Ret w (.string zerosB)) := repeat_t ⟨#[0]⟩ 1024 w (by omega) (by decide)
set_option maxRecDepth 100000 in
theorem read_d (B : Nat) (pg : Nat → ByteArray) (cut : Bool) (left torn : Int) (k : Nat) (hk : k < 4001) (w : World) (h : DiskAt w B pg cut left torn) :
    Calls Tryz.prog 23 #[.pointer (some ⟨B, 0, none⟩), .int .i64 k] w (Ret w (.tuple #[.string (pgGet pg k), .nilIface])) := by
  have h1 := h.1 k hk
  clear h
  go_enter Tryz.func23, Tryz.ntmps23
  cases hb : (pg k).toList.isEmpty
  · go_wp2_with fail
    all_goals first | omega | skip
    go_ret2
    refine Ret.mk ?_ (Gr.refl _)
    unfold pgGet
    rw [if_neg (by rw [hb]; decide)]
    rfl
  · go_wp2_with fail
    all_goals first | omega | skip
    refine (repeat_zero w).mono ?_
    rintro e w1 ⟨rfl, hg1⟩
    go_wp2_with fail
    go_ret2
    refine Ret.mk ?_ hg1
    unfold pgGet
    rw [if_pos hb]
    rfl
theorem read_d_bad (B : Nat) (k : Int) (hk : k < 0 ∨ 4001 ≤ k) (w : World) : Calls Tryz.prog 23 #[.pointer (some ⟨B, 0, none⟩), .int .i64 k] w (Ret w (.tuple #[.string ⟨#[]⟩, .iface 33 (.int .i64 2)])) := by
  go_enter Tryz.func23, Tryz.ntmps23
  go_wp2_with fail
  all_goals first | omega | skip
  all_goals
    go_ret2
    exact Ret.mk rfl (Gr.refl _)
def clampT (t : Int) : Nat := (min (max t 0) 1024).toNat
/-- The first n bytes of one, and then the other one's. -/
def tearB (s old : ByteArray) (n : Nat) : List UInt8 := s.data.toList.take n ++ old.data.toList.drop n
def tearS (s old : ByteArray) (n : Nat) : ByteArray := ⟨(tearB s old n).toArray⟩
theorem write_bad (B : Nat) (k : Int) (hk : k < 0 ∨ 4001 ≤ k) (s : ByteArray) (w : World) : Calls Tryz.prog 37 #[.pointer (some ⟨B, 0, none⟩), .int .i64 k, .string s] w (Ret w (.iface 33 (.int .i64 2))) := by
  go_enter Tryz.func37, Tryz.ntmps37
  go_wp2_with fail
  refine (read_d_bad B k hk w).mono ?_
  rintro e w1 ⟨rfl, hg1⟩
  go_wp2_with fail
  go_ret
  exact Ret.mk rfl hg1
theorem write_len (B : Nat) (pg : Nat → ByteArray) (cut : Bool) (left torn : Int) (k : Nat) (hk : k < 4001) (s : ByteArray) (hs : s.size ≠ 1024) (w : World) (h : DiskAt w B pg cut left torn) :
    Calls Tryz.prog 37 #[.pointer (some ⟨B, 0, none⟩), .int .i64 k, .string s] w (Ret w (.iface 33 (.int .i64 1))) := by
  have H := Lib.hid h
  clear h
  have hs' : ((s.size : Int) != 1024) = true := by simp; omega
  go_enter Tryz.func37, Tryz.ntmps37
  go_wp2_with fail
  refine (read_d B pg cut left torn k hk w H.out).mono ?_
  rintro e w1 ⟨rfl, hg1⟩
  go_wp2_with fail
  go_ret
  exact Ret.mk rfl hg1
/-- What a write with the power on leaves. -/
theorem write_on (B : Nat) (pg : Nat → ByteArray) (cut : Bool) (left torn : Int) (k : Nat) (hk : k < 4001) (s : ByteArray) (hs : s.size = 1024) (hon : onB cut left = true) (hl : -1000000 ≤ left ∧ left ≤ 9223372036854775807) (w : World) (h : DiskAt w B pg cut left torn) :
    Calls Tryz.prog 37 #[.pointer (some ⟨B, 0, none⟩), .int .i64 k, .string s] w fun e w' => e = .returned .nilIface ∧ DiskAt w' B (pgPut pg k s) cut (left - 1) torn ∧ w.grownBy w' (some B) := by
  have H := Lib.hid h
  clear h
  have hs' : ((s.size : Int) != 1024) = false := by simp; omega
  go_enter Tryz.func37, Tryz.ntmps37
  go_wp2_with fail
  refine (read_d B pg cut left torn k hk w H.out).mono ?_
  rintro e w1 ⟨rfl, hg1⟩
  have H1 := Lib.hid (H.out.gr hg1)
  go_wp2_with fail
  refine (on_d B pg cut left torn w1 H1.out).mono ?_
  rintro e w2 ⟨rfl, hg2⟩
  rw [hon]
  have H2 := Lib.hid (H1.out.gr hg2)
  have c2 := H2.out.2.2.1
  have z2 := H2.out.2.2.2.2 4002
  have ck := H2.out.1 k hk
  have zk := H2.out.2.2.2.2 k
  go_wp2_with fail
  go_ret
  exact ⟨rfl, (H2.out.putLeft _).putPage hk s, ((grown_of_gr (hg1.trans hg2) _).trans (grownBy_setCell _ _ _ _)).trans (grownBy_setCell _ _ _ _)⟩
theorem write_off (B : Nat) (pg : Nat → ByteArray) (cut : Bool) (left torn : Int) (k : Nat) (hk : k < 4001) (s : ByteArray) (hs : s.size = 1024) (hon : onB cut left = false) (hp : (pgGet pg k).size = 1024) (w : World) (h : DiskAt w B pg cut left torn) :
    Calls Tryz.prog 37 #[.pointer (some ⟨B, 0, none⟩), .int .i64 k, .string s] w fun e w' => e = .returned (.iface 33 (.int .i64 14)) ∧ DiskAt w' B (pgPut pg k (tearS s (pgGet pg k) (clampT torn))) cut left 0 ∧ w.grownBy w' (some B) := by
  have H := Lib.hid h
  clear h
  have hs' : ((s.size : Int) != 1024) = false := by simp; omega
  go_enter Tryz.func37, Tryz.ntmps37
  go_wp2_with fail
  refine (read_d B pg cut left torn k hk w H.out).mono ?_
  rintro e w1 ⟨rfl, hg1⟩
  have H1 := Lib.hid (H.out.gr hg1)
  go_wp2_with fail
  refine (on_d B pg cut left torn w1 H1.out).mono ?_
  rintro e w2 ⟨rfl, hg2⟩
  rw [hon]
  have H2 := Lib.hid (H1.out.gr hg2)
  have c3 := H2.out.2.2.2.1
  have z3 := H2.out.2.2.2.2 4003
  have ck := H2.out.1 k hk
  have zk := H2.out.2.2.2.2 k
  generalize hold : pgGet pg k = old at *
  have HOLD := Lib.hid hold
  clear hold
  have hcl : min (max torn 0) 1024 = ((clampT torn : Nat) : Int) := by unfold clampT; omega
  have hcn : clampT torn ≤ 1024 := by unfold clampT; omega
  generalize hcln : clampT torn = n at *
  have HCLN := Lib.hid hcln
  clear hcln
  have ha : ∀ w, (Op.stringOp .add (s.extract 0 n) (old.extract n 1024)).run Tryz.prog w = .ok (.string (tearS s old n)) w := fun w => by
    rw [run_string_add_sum w _ _ (by rw [ByteArray.size_extract, ByteArray.size_extract]; omega)]
    congr 2
    apply data_ext
    rw [ByteArray.data_append, Array.toList_append, Lib.extract_data, Lib.extract_data, ← hp]
    show _ = tearB s old n
    unfold tearB
    rw [List.drop_zero, Nat.sub_zero, List.take_of_length_le (l := List.drop n _) (by rw [List.length_drop, ← size_data]; exact Nat.le_refl _)]
  go_wp2_with fail
  go_region
  go_wp2
  go_ret
  refine ⟨rfl, ?_, (((grown_of_gr (hg1.trans hg2) _).trans (grownBy_setCell _ _ _ _)).trans (grownBy_setCell _ _ _ _)).trans (grown_of_gr (Gr.refl _).drew _)⟩
  rw [HOLD.out, HCLN.out]
  exact ((H2.out.putPage hk _).putTorn 0).gr (Gr.refl _).drew
end Go.Proofs.YtcdoeninajpbmaaGreatDoor
