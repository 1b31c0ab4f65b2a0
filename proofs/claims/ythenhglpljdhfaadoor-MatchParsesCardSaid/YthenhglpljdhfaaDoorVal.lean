/-
  Contracts of value.Right, value.Compare, value.sign and of the reference's Right and Compare: each hands back what a plain function of the value tells.
-/
import Derived.Test.YthenhglpljdhfaaDoorLib
import Derived.Test.YthenhglpljdhfaaDoorPlain
import Derived.Test.YthenhglpljdhfaaDoorShelf
import Derived.KernelRfl
import Derived.BigGuardPart
namespace Go.Proofs.YthenhglpljdhfaaDoor
open Go Go.RowKit

/-- A value: its kind, its number, its text. -/
structure GVal where
  kind : Int
  num : Int
  text : ByteArray

def GVal.val (v : GVal) : Value := .agg #[.int .i64 v.kind, .int .i64 v.num, .string v.text]

/-- 1.1: which values may be. -/
def rightB (v : GVal) : Bool :=
  (v.kind == 0 && v.num == 0 && v.text.data.toList.isEmpty) || (v.kind == 1 && v.text.data.toList.isEmpty) ||
    (v.kind == 2 && v.num == 0 && decide (v.text.data.toList.length ≤ 40) && v.text.data.toList.all (· != 0))

def cmpI (a b : Int) : Int := if a < b then -1 else if b < a then 1 else 0
/-- 1.1: the order of values. -/
def cmpV (a b : GVal) : Int := if a.kind < b.kind then -1 else if b.kind < a.kind then 1 else if a.num < b.num then -1 else if b.num < a.num then 1 else Lib.compareBytes a.text.data.toList b.text.data.toList

theorem indexByte_neg (l : List UInt8) (c : UInt8) : decide (Lib.indexByte l c < 0) = l.all (· != c) := by
  have hge := Lib.indexByte_ge l c
  by_cases h : Lib.indexByte l c = -1
  · have h1 := Lib.indexByte_none h
    rw [h]
    have : l.all (· != c) = true := by
      rw [List.all_eq_true]
      intro x hx
      obtain ⟨k, hk⟩ := List.getElem?_of_mem hx
      rw [bne_iff_ne]
      rintro rfl
      exact h1 k hk
    rw [this]; rfl
  · obtain ⟨o, ho⟩ := Int.eq_ofNat_of_zero_le (show 0 ≤ Lib.indexByte l c by omega)
    have h1 := (Lib.indexByte_some ho).1
    rw [ho]
    have : l.all (· != c) = false := by
      rw [List.all_eq_false]
      exact ⟨c, List.mem_of_getElem? h1, by simp⟩
    rw [this]
    simp

theorem size_data (s : ByteArray) : s.size = s.data.toList.length := by rw [Array.length_toList]; rfl
theorem u8_zero : ((0 : Int).toNat.toUInt8) = (0 : UInt8) := rfl

set_option maxHeartbeats 400000 in
theorem right_t (v : GVal) (hs : v.text.size ≤ 9223372036854775807) (w : World) : Calls Tryd.prog 65 #[v.val] w (Ret w (.bool (rightB v))) := by
  obtain ⟨k, n, s⟩ := v
  unfold GVal.val
  simp only at hs ⊢
  go_enter Tryd.func65, Tryd.ntmps65
  go_wp2_with (go_at_call 91; refine (Tryd.strings_IndexByte _ _ _).mono ?_; rintro e w' ⟨rfl, rfl⟩)
  all_goals
    go_ret
    refine Ret.mk ?_ (by repeat (first | exact Gr.refl _ | assumption | refine Gr.alloc ?_ _ | refine Gr.drew ?_))
    simp only [size_data, ByteArray.toList_eq, beq_iff_eq, beq_eq_false_iff_ne, ne_eq] at *
    unfold rightB
    simp only
    generalize s.data.toList = l at *
    simp [indexByte_neg, *]
    try omega

theorem all_take_succ (l : List UInt8) (p : UInt8 → Bool) (j : Nat) (h : j < l.length) : (l.take (j + 1)).all p = ((l.take j).all p && p l[j]) := by
  rw [List.take_succ_eq_append_getElem h, List.all_append]; simp

theorem get_data (s : ByteArray) (j : Nat) (hj : j < s.size) : s[j] = s.data.toList[j]'(by rw [← size_data]; exact hj) := by
  rw [Array.getElem_toList]; rfl
theorem rb_hit (k n : Int) (s : ByteArray) (j : Nat) (h0 : (k == 0) = false) (h1 : (k == 1) = false) (hj : j < s.size) (hz : ((s[j].toNat : Int) == 0) = true) : rightB ⟨k, n, s⟩ = false := by
  have hz' : s[j] = 0 := by
    have : s[j].toNat = 0 := by simpa using hz
    exact UInt8.toNat_inj.1 (by simpa using this)
  have hm : s.data.toList.all (· != 0) = false := by
    rw [List.all_eq_false]
    exact ⟨_, List.getElem_mem (by rw [← size_data]; exact hj), by rw [← get_data s j hj, hz']; simp⟩
  unfold rightB
  simp only [hm, h0, h1]
  simp
theorem rb_all (k n : Int) (s : ByteArray) (j : Nat) (h0 : (k == 0) = false) (h1 : (k == 1) = false) (hj : j ≤ s.size) (hj' : ¬ j < s.size) (hall : (s.data.toList.take j).all (· != 0) = true) :
    rightB ⟨k, n, s⟩ = (k == 2 && n == 0 && decide (s.size ≤ 40)) := by
  have e : j = s.data.toList.length := by rw [← size_data]; omega
  rw [e, List.take_length] at hall
  unfold rightB
  simp only [hall, h0, h1, size_data]
  simp

theorem right_ref (v : GVal) (hs : v.text.size ≤ 9223372036854775807) (w : World) : Calls Tryd.prog 64 #[v.val] w (Ret w (.bool (rightB v))) := by
  obtain ⟨k, n, s⟩ := v
  unfold GVal.val
  simp only at hs ⊢
  go_enter Tryd.func64, Tryd.ntmps64
  go_wp2
  rotate_right
  · go_loop [24] (fun i => ∃ j : Nat, j ≤ s.size ∧ i = .int .i64 j ∧ (s.data.toList.take j).all (· != 0) = true) (fun i => s.size - (intOf i).toNat)
    case atStart => exact ⟨0, Nat.zero_le _, rfl, rfl⟩
    case round =>
      obtain ⟨j, hj, rfl, hall⟩ := hrel
      have H := Lib.hid hall
      clear hall
      go_wp2
      case roundEnd =>
        have hlt : j < s.size := by assumption
        have hz : ((s[j].toNat : Int) == 0) = false := by assumption
        refine ⟨⟨j + 1, by omega, by go_num, ?_⟩, by simp [intOf]; omega⟩
        rw [all_take_succ _ _ j (by rw [← size_data]; exact hlt), H.out, ← get_data s j hlt]
        simp only [Bool.true_and, bne_iff_ne, ne_eq]
        intro h
        rw [h] at hz
        cases hz
      · go_ret
        exact Ret.mk (by rw [rb_hit k n s j (by assumption) (by assumption) (by assumption) (by assumption)]; rfl) ((Gr.refl _).alloc _)
      all_goals
        go_ret
        refine Ret.mk ?_ ((Gr.refl _).alloc _)
        rw [rb_all _ _ s j (by first | assumption | rfl) (by first | assumption | rfl) (by omega) (by assumption) H.out]
        simp [*]
        try omega
  all_goals
    go_ret
    refine Ret.mk ?_ (by repeat (first | exact Gr.refl _ | assumption | refine Gr.alloc ?_ _ | refine Gr.drew ?_))
    simp only [size_data, ByteArray.toList_eq, beq_iff_eq, beq_eq_false_iff_ne, ne_eq] at *
    unfold rightB
    simp only
    generalize s.data.toList = l at *
    simp [*]

end Go.Proofs.YthenhglpljdhfaaDoor
