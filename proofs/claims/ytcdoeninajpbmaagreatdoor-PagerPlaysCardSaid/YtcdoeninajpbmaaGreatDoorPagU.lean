/-
  The contracts of a pager's Used and Alloc.
-/
import Derived.Test.YtcdoeninajpbmaaGreatDoorPagB
namespace Go.Proofs.YtcdoeninajpbmaaGreatDoor
open Go Go.RowKit

theorem run_index_used (A : Array Value) (i : Nat) (hi : i < 2000) (b : Bool) (hA : A[i]? = some (.bool b)) (W : World) : (Instr.index 40 (.agg A) (.int .i64 i)).run Tryz.prog W = .ok (.bool b) W := by
  have h2 : (i : Int) < 2000 := by omega
  have h3 : ¬ 2000 ≤ i := by omega
  simp [Instr.index, run_underlying Tryz.underlying40, asIntOf, part, Tryz.isAgg4, Tryz.sizeOf4, go_sem, hA]
  intro h4
  exact absurd h4 h3
theorem info_used : (Tryz.prog.info? 40).map (·.size) = some 2000 := by kernel_rfl
def usedCells (h : Head) : List Value := (List.range 2000).map fun i => Value.bool (h.used i)
theorem usedCells_len (h : Head) : (usedCells h).length = 2000 := by rw [usedCells, List.length_map, List.length_range]
theorem usedCells_at (h : Head) {i : Nat} (hi : i < 2000) : (usedCells h).toArray[i]? = some (.bool (h.used i)) := by
  rw [List.getElem?_toArray, usedCells, List.getElem?_map, List.getElem?_range hi]
  rfl
theorem HeadAt.usedRange {w : World} {B o : Nat} {h : Head} (a : HeadAt w B o h) : w.rangeAt B o (usedCells h) := fun j v hv => by
  have hj : j < 2000 := by
    have := (List.getElem?_eq_some_iff.1 hv).1
    rw [usedCells_len] at this
    exact this
  have := usedCells_at h hj
  rw [List.getElem?_toArray, hv] at this
  rw [a.used j hj, this]
set_option maxRecDepth 100000 in
set_option maxHeartbeats 1600000 in
theorem used_pg (PB DB M n : Nat) (h sv : Head) (F : Int → Option ByteArray) (down : Bool) (times : Int) (w : World) (p : PagerAt w PB DB M n h sv F down times) :
    Calls Tryz.prog 17 #[.pointer (some ⟨PB, 0, none⟩)] w (Ret w (.int .i64 (usedN h 2000 : Nat))) := by
  have hrg := p.head.usedRange
  have HRG := Lib.hid hrg
  clear hrg p
  have hix := fun (i : Nat) (hi : i < 2000) => run_index_used (usedCells h).toArray i hi (h.used i) (usedCells_at h hi)
  have hul := usedCells_len h
  generalize hcs : usedCells h = cs at *
  have HIX := Lib.hid hix
  clear hcs hix
  have h0 : ∀ N, N = 0 → usedN h N = 0 := fun N e => by subst e; rfl
  have HUL := Lib.hid hul
  clear hul
  go_enter Tryz.func17, Tryz.ntmps17
  go_wp2_with (refine wpList_load_mid rfl 40 _ rfl PB 1 rfl _ _ HRG.out Tryz.underlying40 rfl (by rw [info_used, HUL.out]) ?_)
  try go_frame
  clear HRG HUL
  generalize cs.toArray = A at *
  go_loopw [11, 3] (fun kv nv w' => ∃ i : Nat, i ≤ 2000 ∧ kv = .int .i64 i ∧ nv = .int .i64 (usedN h i : Nat) ∧ w' = w) (fun kv _ _ => 2000 - (intOf kv).toNat)
  case atStart => exact ⟨0, Nat.zero_le _, rfl, rfl, rfl⟩
  case round =>
    obtain ⟨i, hi, rfl, rfl, rfl⟩ := hrel
    have hle := usedN_le h i
    by_cases hlt : i < 2000
    · have hx := HIX.out i hlt
      have HN : Hid (usedN h (i + 1) = usedN h i + if h.used i then 1 else 0) := Lib.hid rfl
      generalize usedN h i = u0 at *
      cases hu : h.used i
      · rw [hu] at hx
        have HU := Lib.hid hu
        clear hu
        go_wp2_with fail
        refine ⟨⟨i + 1, by omega, by go_num, ?_, trivial⟩, by simp [intOf]; omega⟩
        rw [HN.out, HU.out]
        rfl
      · rw [hu] at hx
        have HU := Lib.hid hu
        clear hu
        go_wp2_with fail
        refine ⟨⟨i + 1, by omega, by go_num, ?_, trivial⟩, by simp [intOf]; omega⟩
        rw [HN.out, HU.out]
        rfl
    · obtain rfl : i = 2000 := by omega
      go_wp2_with fail
      go_ret
      exact Ret.mk rfl (Gr.refl _)
theorem allocF_first {h : Head} {k : Nat} (hk : k < 2000) (h1 : ∀ j, j < k → h.used j = true) (h2 : h.used k = false) : allocF h = some k := by
  unfold allocF
  have e : List.range 2000 = List.range k ++ k :: List.range' (k + 1) (1999 - k) := by
    rw [List.range_eq_range', List.range_eq_range', show 2000 = k + (1999 - k + 1) by omega, ← List.range'_append_1, List.range'_succ]
    simp
  rw [e, List.find?_append, List.find?_eq_none.2 (fun j hj => by rw [h1 j (List.mem_range.1 hj)]; decide), Option.none_or, List.find?_cons_of_pos (by rw [h2]; rfl)]
theorem allocF_none {h : Head} (h1 : ∀ j, j < 2000 → h.used j = true) : allocF h = none :=
  List.find?_eq_none.2 fun j hj => by rw [h1 j (List.mem_range.1 hj)]; decide
def idxF (h : Head) : Int := match allocF h with | none => -1 | some k => k
set_option maxRecDepth 100000 in
set_option maxHeartbeats 1600000 in
theorem index_b (B : Nat) (h : Head) (w : World) (a : HeadAt w B 1 h) :
    Calls Tryz.prog 28 #[.slice (some ⟨B, 1, none⟩) 2000 2000, .bool false] w (Ret w (.int .i64 (idxF h))) := by
  have HA := Lib.hid a
  clear a
  go_enter Tryz.func28, Tryz.ntmps28
  go_wp2_with fail
  go_loopw [8] (fun kv w' => ∃ i : Nat, i ≤ 2000 ∧ kv = .int .i64 i ∧ (∀ j, j < i → h.used j = true) ∧ w' = w) (fun kv _ => 2000 - (intOf kv).toNat)
  case atStart => exact ⟨0, Nat.zero_le _, rfl, fun j hj => absurd hj (Nat.not_lt_zero _), rfl⟩
  case round =>
    obtain ⟨i, hi, rfl, hj, rfl⟩ := hrel
    have HJ := Lib.hid hj
    clear hj
    by_cases hlt : i < 2000
    · have c0 := HA.out.used i hlt
      cases hu : h.used i
      · rw [hu] at c0
        have HI : Hid (idxF h = (i : Int)) := Lib.hid (by unfold idxF; rw [allocF_first hlt HJ.out hu])
        clear hu
        go_wp2_with fail
        go_ret
        rw [HI.out]
        exact Ret.mk rfl (Gr.refl _)
      · rw [hu] at c0
        have HJ1 : Hid (∀ j, j < i + 1 → h.used j = true) := Lib.hid fun j hj => by
          rcases Nat.lt_or_ge j i with h1 | h1
          · exact HJ.out j h1
          · obtain rfl : j = i := by omega
            exact hu
        clear hu
        go_wp2_with fail
        refine ⟨⟨i + 1, by omega, by go_num, HJ1.out, trivial⟩, by simp [intOf]; omega⟩
    · obtain rfl : i = 2000 := by omega
      have HI : Hid (idxF h = -1) := Lib.hid (by unfold idxF; rw [allocF_none HJ.out])
      go_wp2_with fail
      go_ret
      rw [HI.out]
      exact Ret.mk rfl (Gr.refl _)
set_option maxRecDepth 100000 in
set_option maxHeartbeats 1600000 in
theorem alloc_full_pg (PB DB M n : Nat) (h sv : Head) (F : Int → Option ByteArray) (times : Int) (w : World) (p : PagerAt w PB DB M n h sv F false times) (ha : allocF h = none) :
    Calls Tryz.prog 8 #[.pointer (some ⟨PB, 0, none⟩)] w (Ret w (.tuple #[.int .i64 0, .iface 33 (.int .i64 12)])) := by
  have cd := p.down
  have hix := index_b PB h w p.head
  have HI : idxF h = -1 := by unfold idxF; rw [ha]
  rw [HI] at hix
  have HIX := Lib.hid hix
  clear hix HI ha p
  go_enter Tryz.func8, Tryz.ntmps8
  go_wp2_with fail
  refine HIX.out.mono ?_
  rintro e w1 ⟨rfl, hg1⟩
  go_wp2_with fail
  go_ret2
  exact Ret.mk rfl hg1
set_option maxRecDepth 100000 in
set_option maxHeartbeats 3200000 in
theorem alloc_pg (PB DB M n : Nat) (h sv : Head) (F : Int → Option ByteArray) (times : Int) (hn : n < 1000000) (w : World) (p : PagerAt w PB DB M n h sv F false times) {k : Nat} (hk : k < 2000) (ha : allocF h = some k) :
    Calls Tryz.prog 8 #[.pointer (some ⟨PB, 0, none⟩)] w fun e w' => e = .returned (.tuple #[.int .i64 k, .nilIface]) ∧ PagerAt w' PB DB M (n + 1) (h.put k true) sv (setF F k (some zerosB)) false times ∧ GrX (fun b => b = PB ∨ b = M) w w' := by
  have cd := p.down
  have hix := index_b PB h w p.head
  have HI : idxF h = k := by unfold idxF; rw [ha]
  rw [HI] at hix
  have HIX := Lib.hid hix
  have P := Lib.hid p
  clear hix HI ha p
  go_enter Tryz.func8, Tryz.ntmps8
  go_wp2_with fail
  refine HIX.out.mono ?_
  rintro e w1 ⟨rfl, hg1⟩
  have P1 := Lib.hid (P.out.gr hg1)
  have c0 := P1.out.head.used k hk
  have z0 := P1.out.free (1 + k)
  have P2 := Lib.hid (P1.out.put hk true)
  have c1 := P2.out.map
  have hst := fun w2 (hg : Gr (w1.setCell ⟨PB, 1 + k, none⟩ (.bool true)).drew w2) => (P2.out.gr ((Gr.refl _).drew.trans hg)).dirty.storeF hn (k := (k : Int)) (by omega) zerosB (by rw [zerosB_sz]; omega)
  go_wp2_with fail
  go_region_with (first
    | (go_at_call 29; refine (fill0 _).mono ?_; rintro e w2 ⟨rfl, hg2⟩; have k0 := hg2.keeps ((Gr.refl _).drew.keeps c1); obtain ⟨w5, hmu, hM5, hg5⟩ := hst w2 hg2; have HM5 := Lib.hid hM5; have HG2 := Lib.hid hg2; clear hM5))
  all_goals
    go_wp2_with fail
    go_ret2
    exact ⟨rfl, (P2.out.gr ((Gr.refl _).drew.trans HG2.out)).remap hg5 HM5.out, ((((GrX.of_gr hg1).trans (GrX.setCell _ _ (.inl rfl))).trans (GrX.drew _)).trans (GrX.of_gr HG2.out)).trans (GrX.of_grown hg5 (.inr rfl))⟩
end Go.Proofs.YtcdoeninajpbmaaGreatDoor
