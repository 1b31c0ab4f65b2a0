/-
  The disk and the document's disk, side by side.
-/
import Derived.Test.YthenhglpljdhfaaDoorRDisk
import Derived.Carry
namespace Go.Proofs.YthenhglpljdhfaaDoor
open Go Go.RowKit

theorem zero54 : Tryd.zeroCells54 = Array.replicate 4001 (.string ⟨#[]⟩) ++ #[.bool false, .int .i64 0, .int .i64 0] := by kernel_rfl
/-- A disk that has just been made. -/
theorem disk_new (w : World) : DiskAt (w.alloc (.cells Tryd.zeroCells54 54)) w.heap.size (fun _ => ⟨#[]⟩) false 0 0 := by
  rw [zero54]
  refine ⟨fun k hk => ?_, ?_, ?_, ?_, fun o => by simp⟩
  · rw [World.cell?_alloc_new, Array.getElem?_append_left (by simpa using hk)]
    simp [hk]
  all_goals
    rw [World.cell?_alloc_new, Array.getElem?_append_right (by simp)]
    simp
set_option maxRecDepth 100000 in
theorem newDisk_r (w : World) : Calls Tryd.prog 38 #[] w fun e w' => ∃ R M, e = .returned (.pointer (some ⟨R, 0, none⟩)) ∧ RefAt w' R M 0 (fun _ => none) (-1) 0 ∧ w.heap.size ≤ R ∧ w.heap.size ≤ M ∧ Gr w w' := by
  go_enter Tryd.func38, Tryd.ntmps38
  have hmm := fun w => run_makeMap (P := Tryd.prog) 56 w
  go_wp2_with fail
  go_ret
  have hs : w.heap.size + 1 = (w.alloc (.map #[] 0)).heap.size := by simp
  refine ⟨w.heap.size + 1, w.heap.size, rfl, ?_, by omega, by omega, ((Gr.refl w).alloc _).alloc _⟩
  refine ⟨?_, ?_, ?_, fun o => ?_, (MapAt.made w).gr ((Gr.refl _).alloc _), by omega⟩
  · rw [hs, World.cell?_alloc_new]; rfl
  · rw [hs, World.cell?_alloc_new]; rfl
  · rw [hs, World.cell?_alloc_new]; rfl
  · rw [hs]; simp

/-- What ties the two disks. -/
structure DRel (pg : Nat → ByteArray) (cut : Bool) (left torn : Int) (F : Int → Option ByteArray) (rleft rtorn : Int) : Prop where
  eq : ∀ k : Nat, k < 4001 → pgGet pg k = mapGet F k
  sz : ∀ k : Nat, k < 4001 → (pgGet pg k).size = 1024
  cutT : cut = true → rleft = left ∧ 0 ≤ left
  cutF : cut = false → rleft = -1
  tn : rtorn = (clampT torn : Int)
theorem zerosB_size : zerosB.size = 1024 := by
  show (List.toArray _).size = 1024
  rw [List.size_toArray, Lib.repeatL_length]
  rfl
theorem pgGet_new (k : Nat) : pgGet (fun _ => ⟨#[]⟩) k = zerosB := by
  unfold pgGet
  rw [if_pos (by rw [ByteArray.toList_eq]; rfl)]
theorem drel_new : DRel (fun _ => ⟨#[]⟩) false 0 0 (fun _ => none) (-1) 0 :=
  ⟨fun k _ => pgGet_new k, fun k _ => by rw [pgGet_new k]; exact zerosB_size, fun h => (by cases h), fun _ => rfl, rfl⟩
theorem DRel.on {pg : Nat → ByteArray} {cut : Bool} {left torn : Int} {F : Int → Option ByteArray} {rleft rtorn : Int} (h : DRel pg cut left torn F rleft rtorn) : onB cut left = (rleft != 0) := by
  unfold onB
  cases hc : cut
  · rw [h.cutF hc]; rfl
  · obtain ⟨h1, h2⟩ := h.cutT hc
    rw [h1]
    simp only [Bool.not_true, Bool.false_or]
    by_cases h0 : left = 0
    · subst h0; rfl
    · have : (left != 0) = true := by simpa using h0
      rw [this]
      simp
      omega
theorem isEmpty_of_size {s : ByteArray} (h : s.size = 1024) : s.toList.isEmpty = false := by
  rw [ByteArray.toList_eq]
  cases hl : s.data.toList with
  | nil => rw [size_data, hl] at h; simp at h
  | cons a l => rfl
theorem pgGet_put {pg : Nat → ByteArray} {k : Nat} {s : ByteArray} (hs : s.size = 1024) (i : Nat) : pgGet (pgPut pg k s) i = if i = k then s else pgGet pg i := by
  unfold pgGet pgPut
  by_cases e : i = k
  · simp only [if_pos e, isEmpty_of_size hs]
    simp
  · simp only [if_neg e]
theorem mapGet_put (F : Int → Option ByteArray) (k : Int) (s : ByteArray) (i : Int) : mapGet (fun i => if i = k then some s else F i) i = if i = k then s else mapGet F i := by
  unfold mapGet
  by_cases e : i = k
  · simp [e]
  · simp [e]
theorem tearS_size {s old : ByteArray} {n : Nat} (h1 : s.size = 1024) (h2 : old.size = 1024) (hn : n ≤ 1024) : (tearS s old n).size = 1024 := by
  unfold tearS tearB
  show (List.toArray _).size = 1024
  rw [List.size_toArray, List.length_append, List.length_take, List.length_drop, ← size_data, ← size_data]
  omega
theorem DRel.put {pg : Nat → ByteArray} {cut : Bool} {left torn : Int} {F : Int → Option ByteArray} {rleft rtorn : Int} (h : DRel pg cut left torn F rleft rtorn) (k : Nat) (s : ByteArray) (hs : s.size = 1024) :
    (∀ i : Nat, i < 4001 → pgGet (pgPut pg k s) i = mapGet (fun i => if i = (k : Int) then some s else F i) i) ∧ ∀ i : Nat, i < 4001 → (pgGet (pgPut pg k s) i).size = 1024 := by
  refine ⟨fun i hi => ?_, fun i hi => ?_⟩
  · rw [pgGet_put hs, mapGet_put]
    by_cases e : i = k
    · rw [if_pos e, if_pos (by omega)]
    · rw [if_neg e, if_neg (by omega), h.eq i hi]
  · rw [pgGet_put hs]
    split
    · exact hs
    · exact h.sz i hi
/-- The same page is written to both. -/
theorem both_write {pg : Nat → ByteArray} {cut : Bool} {left torn : Int} {F : Int → Option ByteArray} {rleft rtorn : Int} (h : DRel pg cut left torn F rleft rtorn) (B R M m : Nat) (hm : m < 1000000) (k : Int) (s : ByteArray) (hs : s.size = 1024)
    (hl : -1000000 < left ∧ left ≤ 9223372036854775807) :
    ∃ (err : Value) (n : Int) (pg' : Nat → ByteArray) (left' torn' : Int) (F' : Int → Option ByteArray) (rleft' rtorn' : Int) (m' : Nat),
      (∀ w, DiskAt w B pg cut left torn → Calls Tryd.prog 35 #[.pointer (some ⟨B, 0, none⟩), .int .i64 k, .string s] w fun e w' => e = .returned err ∧ DiskAt w' B pg' cut left' torn' ∧ w.grownBy w' (some B)) ∧
      (∀ w, RefAt w R M m F rleft rtorn → Calls Tryd.prog 40 #[.pointer (some ⟨R, 0, none⟩), .int .i64 k, .string s] w fun e w' => e = .returned (.int .i64 n) ∧ RefAt w' R M m' F' rleft' rtorn' ∧ GrX (fun k => k = R ∨ k = M) w w') ∧
      (∀ w, ErrIs w err n (-1)) ∧ DRel pg' cut left' torn' F' rleft' rtorn' ∧ m' ≤ m + 1 ∧ left - 1 ≤ left' ∧ left' ≤ left := by
  by_cases hk : k < 0 ∨ 4001 ≤ k
  · refine ⟨.iface 31 (.int .i64 2), 2, pg, left, torn, F, rleft, rtorn, m, fun w hd => (write_bad B k hk s w).mono ?_, fun w hr => (write_r_bad R k hk s w).mono ?_, fun w => .inr (.inl ⟨rfl, rfl⟩), h, by omega, by omega, by omega⟩
    · rintro e w' ⟨rfl, g⟩
      exact ⟨rfl, hd.gr g, grown_of_gr g _⟩
    · rintro e w' ⟨rfl, g⟩
      exact ⟨rfl, hr.gr g, GrX.of_gr g⟩
  · obtain ⟨k, rfl⟩ := Int.eq_ofNat_of_zero_le (show 0 ≤ k by omega)
    have hk' : k < 4001 := by omega
    have hon := h.on
    cases hb : onB cut left
    · rw [hb] at hon
      have hr0 : rleft = 0 := by
        have : (rleft != 0) = false := hon.symm
        simpa using this
      subst hr0
      have hcut : cut = true := by
        cases hc : cut
        · have := h.cutF hc; omega
        · rfl
      have hlt := h.cutT hcut
      have hn : clampT torn ≤ 1024 := by unfold clampT; omega
      have hsz := h.sz k hk'
      have hmz : (mapGet F k).size = 1024 := by rw [← h.eq k hk']; exact hsz
      have hts : (tearS s (pgGet pg k) (clampT torn)).size = 1024 := tearS_size hs hsz hn
      have hput := h.put k (tearS s (pgGet pg k) (clampT torn)) hts
      refine ⟨_, 14, _, left, 0, _, 0, 0, m + 1, fun w hd => write_off B pg cut left torn k hk' s hs hb hsz w hd, fun w hr => write_r_off R M m F (clampT torn) hn k hk' s hs hmz hm w (by rw [← h.tn]; exact hr), fun w => .inr (.inl ⟨rfl, rfl⟩), ?_, by omega, by omega, by omega⟩
      rw [← h.eq k hk']
      exact ⟨hput.1, hput.2, fun _ => ⟨hlt.1, hlt.2⟩, fun hc => (by rw [hcut] at hc; cases hc), rfl⟩
    · rw [hb] at hon
      have hr0 : rleft ≠ 0 := by
        have : (rleft != 0) = true := hon.symm
        simpa using this
      have hput := h.put k s hs
      have hlo : -1 ≤ rleft ∧ rleft ≤ 9223372036854775807 := by
        cases hc : cut
        · have := h.cutF hc; omega
        · have := h.cutT hc; omega
      refine ⟨_, 0, _, left - 1, torn, _, _, rtorn, m + 1, fun w hd => write_on B pg cut left torn k hk' s hs hb (by omega) w hd, fun w hr => write_r_on R M m F rleft rtorn k hk' s hs hr0 hlo hm w hr, fun w => .inl ⟨rfl, rfl, rfl⟩, ?_, by omega, by omega, by omega⟩
      refine ⟨hput.1, hput.2, fun hc => ?_, fun hc => ?_, h.tn⟩
      · have hh := h.cutT hc
        have : 0 < left := by
          unfold onB at hb
          rw [hc] at hb
          simpa using hb
        rw [if_pos (by omega)]
        omega
      · have hh := h.cutF hc
        rw [if_neg (by omega)]
        exact hh
theorem DRel.cut {pg : Nat → ByteArray} {cut : Bool} {left torn : Int} {F : Int → Option ByteArray} {rleft rtorn : Int} (h : DRel pg cut left torn F rleft rtorn) (n t : Int) : DRel pg (decide (0 ≤ n)) (max n 0) t F (max n (-1)) (min (max t 0) 1024) := by
  refine ⟨h.eq, h.sz, fun hc => ?_, fun hc => ?_, by unfold clampT; omega⟩
  · have := of_decide_eq_true hc; omega
  · have := of_decide_eq_false hc; omega
end Go.Proofs.YthenhglpljdhfaaDoor
