/-
  Contracts of the document's disk.
-/
import Derived.Test.YthenhglpljdhfaaDoorGrX
import Derived.Test.YthenhglpljdhfaaDoorPost
import Derived.Deep.RegionHeld3
namespace Go.Proofs.YthenhglpljdhfaaDoor
open Go Go.RowKit

theorem gr_of_drew {w w2 : World} (h : Gr w.drew w2) : Gr w w2 := (Gr.refl w).drew.trans h
/-- The document's disk in memory: its struct in block R, its map in block M. -/
def RefAt (w : World) (R M n : Nat) (F : Int → Option ByteArray) (left torn : Int) : Prop :=
  w.cell? ⟨R, 0, none⟩ = some (.map (some M)) ∧ w.cell? ⟨R, 1, none⟩ = some (.int .i64 left) ∧ w.cell? ⟨R, 2, none⟩ = some (.int .i64 torn) ∧ (∀ o, w.frozen? ⟨R, o, none⟩ = false) ∧ MapAt w M n F ∧ R ≠ M
theorem RefAt.gr {w w' : World} {R M n : Nat} {F : Int → Option ByteArray} {left torn : Int} (h : RefAt w R M n F left torn) (g : Gr w w') : RefAt w' R M n F left torn :=
  ⟨g.keeps h.1, g.keeps h.2.1, g.keeps h.2.2.1, fun o => (g.frozen o (lt_of_cell h.1)).trans (h.2.2.2.1 o), h.2.2.2.2.1.gr g, h.2.2.2.2.2⟩
theorem RefAt.keepX {S : Nat → Prop} {w w' : World} {R M n : Nat} {F : Int → Option ByteArray} {left torn : Int} (h : RefAt w R M n F left torn) (g : GrX S w w') (hR : ¬ S R) (hM : ¬ S M) : RefAt w' R M n F left torn :=
  ⟨g.keeps hR h.1, g.keeps hR h.2.1, g.keeps hR h.2.2.1, fun o => (g.frozen o (lt_of_cell h.1) hR).trans (h.2.2.2.1 o), h.2.2.2.2.1.keepX g hM, h.2.2.2.2.2⟩
theorem RefAt.set {w : World} {R M n : Nat} {F : Int → Option ByteArray} {left torn : Int} (h : RefAt w R M n F left torn) (o : Nat) (u : Value) : MapAt (w.setCell ⟨R, o, none⟩ u) M n F := h.2.2.2.2.1.block (Below.heap_setCell _ _ _ _ (fun e => h.2.2.2.2.2 e.symm))
theorem RefAt.putLeft {w : World} {R M n : Nat} {F : Int → Option ByteArray} {left torn : Int} (h : RefAt w R M n F left torn) (x : Int) : RefAt (w.setCell ⟨R, 1, none⟩ (.int .i64 x)) R M n F x torn :=
  ⟨cell_off (by omega) h.1, World.cell?_setCell_same _ _ _ h.2.1, cell_off (by omega) h.2.2.1, fun o => by simpa using h.2.2.2.1 o, h.set 1 _, h.2.2.2.2.2⟩
theorem RefAt.putTorn {w : World} {R M n : Nat} {F : Int → Option ByteArray} {left torn : Int} (h : RefAt w R M n F left torn) (x : Int) : RefAt (w.setCell ⟨R, 2, none⟩ (.int .i64 x)) R M n F left x :=
  ⟨cell_off (by omega) h.1, cell_off (by omega) h.2.1, World.cell?_setCell_same _ _ _ h.2.2.1, fun o => by simpa using h.2.2.2.1 o, h.set 2 _, h.2.2.2.2.2⟩
/-- 'd.Pages[k] = s'. -/
theorem RefAt.store {w : World} {R M n : Nat} {F : Int → Option ByteArray} {left torn : Int} (h : RefAt w R M n F left torn) (hn : n < 1000000) {k : Int} (hk : -9223372036854775808 ≤ k ∧ k ≤ 9223372036854775807) (s : ByteArray) (hs : s.size ≤ 9223372036854775807) :
    ∃ w', (Instr.mapUpdate 56 (.map (some M)) (.int .i64 k) (.string s)).run Tryd.prog w = .ok () w' ∧ RefAt w' R M (n + 1) (fun i => if i = k then some s else F i) left torn ∧ w.grownBy w' (some M) := by
  obtain ⟨w', h1, h2, h3⟩ := h.2.2.2.2.1.store hn hk s hs
  have g : GrX (fun k => k = M) w w' := GrX.of_grown h3 rfl
  have hR : ¬ (fun k => k = M) R := h.2.2.2.2.2
  exact ⟨w', h1, ⟨g.keeps hR h.1, g.keeps hR h.2.1, g.keeps hR h.2.2.1, fun o => (g.frozen o (lt_of_cell h.1) hR).trans (h.2.2.2.1 o), h2, h.2.2.2.2.2⟩, h3⟩
def mapGet (F : Int → Option ByteArray) (k : Int) : ByteArray := (F k).getD zerosB

set_option maxRecDepth 100000 in
theorem get_r (R M n : Nat) (F : Int → Option ByteArray) (left torn : Int) (k : Int) (hk : -9223372036854775808 ≤ k ∧ k ≤ 9223372036854775807) (w : World) (h : RefAt w R M n F left torn) :
    Calls Tryd.prog 42 #[.pointer (some ⟨R, 0, none⟩), .int .i64 k] w (Ret w (.string (mapGet F k))) := by
  have h0 := h.1
  have hl := h.2.2.2.2.1.look hk
  clear h
  go_enter Tryd.func42, Tryd.ntmps42
  unfold mapGet
  cases hF : F k with
  | none =>
    rw [hF] at hl
    simp only [Option.isSome_none, Option.getD_none] at hl
    go_wp2_with fail
    refine (repeat_zero w).mono ?_
    rintro e w1 ⟨rfl, hg1⟩
    go_wp2_with fail
    go_ret
    exact Ret.mk rfl hg1
  | some s =>
    rw [hF] at hl
    simp only [Option.isSome_some, Option.getD_some] at hl
    go_wp2_with fail
    go_ret
    exact Ret.mk rfl (Gr.refl _)
theorem cutAt_r (R M n : Nat) (F : Int → Option ByteArray) (left torn : Int) (x t : Int) (w : World) (h : RefAt w R M n F left torn) :
    Calls Tryd.prog 41 #[.pointer (some ⟨R, 0, none⟩), .int .i64 x, .int .i64 t] w fun e w' => e = .returned (.tuple #[]) ∧ RefAt w' R M n F (max x (-1)) (min (max t 0) 1024) ∧ GrX (fun k => k = R ∨ k = M) w w' := by
  have h1 := h.2.1
  have h2 := h.2.2.1
  have z1 := h.2.2.2.1 1
  have z2 := h.2.2.2.1 2
  have H := Lib.hid h
  clear h
  go_enter Tryd.func41, Tryd.ntmps41
  go_wp2
  refine bodyPost_end (v := .tuple #[]) (by simp [results, Tryd.results41, go_sem]) rfl ?_
  refine ⟨rfl, (H.out.putLeft _).putTorn _, ?_⟩
  exact (GrX.setCell _ _ (.inl rfl)).trans (GrX.setCell _ _ (.inl rfl))
theorem write_r_bad (R : Nat) (k : Int) (hk : k < 0 ∨ 4001 ≤ k) (s : ByteArray) (w : World) : Calls Tryd.prog 40 #[.pointer (some ⟨R, 0, none⟩), .int .i64 k, .string s] w (Ret w (.int .i64 2)) := by
  have hb : inB k 0 4000 = false := by unfold inB; simp; omega
  go_enter Tryd.func40, Tryd.ntmps40
  go_wp2_with fail
  refine (in_t k 0 4000 w).mono ?_
  rintro e w1 ⟨rfl, hg1⟩
  rw [hb]
  go_wp2_with fail
  go_ret
  exact Ret.mk rfl hg1
set_option maxRecDepth 100000 in
theorem write_r_on (R M n : Nat) (F : Int → Option ByteArray) (left torn : Int) (k : Nat) (hk : k < 4001) (s : ByteArray) (hs : s.size = 1024) (hon : left ≠ 0) (hl : -1 ≤ left ∧ left ≤ 9223372036854775807) (hn : n < 1000000) (w : World) (h : RefAt w R M n F left torn) :
    Calls Tryd.prog 40 #[.pointer (some ⟨R, 0, none⟩), .int .i64 k, .string s] w fun e w' => e = .returned (.int .i64 0) ∧ RefAt w' R M (n + 1) (fun i => if i = (k : Int) then some s else F i) (if 0 < left then left - 1 else left) torn ∧ GrX (fun k => k = R ∨ k = M) w w' := by
  have hb : inB k 0 4000 = true := by unfold inB; simp; omega
  have hs' : ((s.size : Int) != 1024) = false := by simp; omega
  have hl0 : (left == 0) = false := by simpa using hon
  have H := Lib.hid h
  clear h
  go_enter Tryd.func40, Tryd.ntmps40
  go_wp2_with fail
  refine (in_t k 0 4000 w).mono ?_
  rintro e w1 ⟨rfl, hg1⟩
  rw [hb]
  have H1 := Lib.hid (H.out.gr hg1)
  have h0 := H1.out.1
  have h1 := H1.out.2.1
  have z1 := H1.out.2.2.2.1 1
  by_cases hpos : 0 < left
  · have H2 := Lib.hid (H1.out.putLeft (left - 1))
    have h0' := H2.out.1
    obtain ⟨w5, hmu, hM5, hg5⟩ := H2.out.store hn (k := (k : Int)) (by omega) s (by omega)
    have HM5 := Lib.hid hM5
    clear hM5
    go_wp2_with fail
    go_ret
    refine ⟨rfl, HM5.out, ?_⟩
    exact ((GrX.of_gr hg1).trans (GrX.setCell _ _ (.inl rfl))).trans (GrX.of_grown hg5 (.inr rfl))
  · obtain ⟨w5, hmu, hM5, hg5⟩ := H1.out.store hn (k := (k : Int)) (by omega) s (by omega)
    have HM5 := Lib.hid hM5
    clear hM5
    go_wp2_with fail
    go_ret
    refine ⟨rfl, HM5.out, ?_⟩
    exact (GrX.of_gr hg1).trans (GrX.of_grown hg5 (.inr rfl))
theorem write_r_len (R : Nat) (k : Nat) (hk : k < 4001) (s : ByteArray) (hs : s.size ≠ 1024) (w : World) :
    Calls Tryd.prog 40 #[.pointer (some ⟨R, 0, none⟩), .int .i64 k, .string s] w (Ret w (.int .i64 1)) := by
  have hb : inB k 0 4000 = true := by unfold inB; simp; omega
  have hs' : ((s.size : Int) != 1024) = true := by simp; omega
  go_enter Tryd.func40, Tryd.ntmps40
  go_wp2_with fail
  refine (in_t k 0 4000 w).mono ?_
  rintro e w1 ⟨rfl, hg1⟩
  rw [hb]
  go_wp2_with fail
  go_ret
  exact Ret.mk rfl hg1
set_option maxRecDepth 100000 in
set_option maxHeartbeats 4000000 in
theorem write_r_off (R M n : Nat) (F : Int → Option ByteArray) (torn : Nat) (ht : torn ≤ 1024) (k : Nat) (hk : k < 4001) (s : ByteArray) (hs : s.size = 1024) (hp : (mapGet F k).size = 1024) (hn : n < 1000000) (w : World) (h : RefAt w R M n F 0 torn) :
    Calls Tryd.prog 40 #[.pointer (some ⟨R, 0, none⟩), .int .i64 k, .string s] w fun e w' => e = .returned (.int .i64 14) ∧ RefAt w' R M (n + 1) (fun i => if i = (k : Int) then some (tearS s (mapGet F k) torn) else F i) 0 0 ∧ GrX (fun k => k = R ∨ k = M) w w' := by
  have hb : inB k 0 4000 = true := by unfold inB; simp; omega
  have hs' : ((s.size : Int) != 1024) = false := by simp; omega
  have H := Lib.hid h
  clear h
  go_enter Tryd.func40, Tryd.ntmps40
  go_wp2_with fail
  refine (in_t k 0 4000 w).mono ?_
  rintro e w1 ⟨rfl, hg1⟩
  rw [hb]
  have H1 := Lib.hid (H.out.gr hg1)
  have h0 := H1.out.1
  have h1 := H1.out.2.1
  have h2 := H1.out.2.2.1
  have z1 := H1.out.2.2.2.1 1
  have hgr := get_r R M n F 0 torn k (by omega)
  generalize hold : mapGet F k = old at *
  have HOLD := Lib.hid hold
  clear hold
  have ha : ∀ w, (Op.stringOp .add (s.extract 0 torn) (old.extract torn 1024)).run Tryd.prog w = .ok (.string (tearS s old torn)) w := fun w => by
    rw [run_string_add_sum w _ _ (by rw [ByteArray.size_extract, ByteArray.size_extract]; omega)]
    congr 2
    apply data_ext
    rw [ByteArray.data_append, Array.toList_append, Lib.extract_data, Lib.extract_data, ← hp]
    show _ = tearB s old torn
    unfold tearB
    rw [List.drop_zero, Nat.sub_zero, List.take_of_length_le (l := List.drop torn _) (by rw [List.length_drop, ← size_data]; exact Nat.le_refl _)]
  have z2 := H1.out.2.2.2.1 2
  have hb1 : (0 : Int) ≤ (torn : Int) := by omega
  have hb2 : (torn : Int) ≤ 1024 := by omega
  have hb3 : (torn : Int) ≤ (s.size : Int) := by omega
  have hb4 : (torn : Int) ≤ (old.size : Int) := by omega
  have hst := fun w2 (hg : Gr w1.drew w2) => (H1.out.gr ((Gr.refl w1).drew.trans hg)).store hn (k := (k : Int)) (by omega) (tearS s old torn) (by unfold tearS tearB; show (List.toArray _).size ≤ _; rw [List.size_toArray, List.length_append, List.length_take, List.length_drop, ← size_data, ← size_data]; omega)
  go_wp2_with fail
  go_region_held3 (fun w' => w'.cell? ⟨R, 0, none⟩ = some (.map (some M)) ∧ w'.cell? ⟨R, 2, none⟩ = some (.int .i64 (torn : Int))) (first | exact ⟨h0, h2⟩ | exact ⟨(Gr.refl _).drew.keeps h0, (Gr.refl _).drew.keeps h2⟩ | (refine ⟨?_, ?_⟩ <;> assumption)) (first | (go_at_call 42; refine (hgr _ (H1.out.gr (Gr.refl _).drew)).mono ?_; rintro e w2 ⟨rfl, hg2⟩; have j0 := hg2.keeps ((Gr.refl w1).drew.keeps h0); have j2 := hg2.keeps ((Gr.refl w1).drew.keeps h2); obtain ⟨w5, hmu, hM5, hg5⟩ := hst w2 hg2; have HM5 := Lib.hid hM5; have k0 := hM5.1; have k2 := hM5.2.2.1; have l2 := hM5.2.2.2.1 2; have HG := Lib.hid hg2; clear hM5))
  all_goals
    go_wp2
    go_ret
    refine ⟨rfl, ?_, ?_⟩
    · rw [HOLD.out]
      exact HM5.out.putTorn 0
    · exact (((GrX.of_gr (hg1.trans (gr_of_drew HG.out))).trans (GrX.of_grown hg5 (.inr rfl)))).trans (GrX.setCell _ _ (.inl rfl))
end Go.Proofs.YthenhglpljdhfaaDoor
