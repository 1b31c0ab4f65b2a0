/-
  The contract of posting.get.
-/
import Derived.Test.YtkdplnbdhkckhaaPostVX
namespace Go.Proofs.Ytkdplnbdhkckhaa
open Go Go.RowKit

def get5 (l : List UInt8) : Option (Nat × List UInt8) := getF 5 l
/-- A number and the rest, as get hands them back. -/
def getVal (l : List UInt8) : Value := match get5 l with
  | some (n, r) => .tuple #[.int .i64 (n : Int), .string ⟨r.toArray⟩, .bool true]
  | none => .tuple #[.int .i64 0, .string ⟨#[]⟩, .bool false]
/-- k bytes were read, n is what they come to. -/
def GInv (l : List UInt8) (k n : Nat) : Prop := n < 128 ^ k ∧ get5 l = (getF (5 - k) (l.drop k)).map fun x => (n + 128 ^ k * x.1, x.2)
theorem ginv_zero (l : List UInt8) : GInv l 0 0 := ⟨by simp, by simp [get5]⟩
theorem ginv_step {l : List UInt8} {k n : Nat} (h : GInv l k n) (h5 : k < 5) (hk : k < l.length) (hc : ¬ l[k].toNat < 128) : GInv l (k + 1) (n + 128 ^ k * (l[k].toNat - 128)) := by
  have h8 := UInt8.toNat_lt l[k]
  refine ⟨?_, ?_⟩
  · have h1 := h.1
    rw [Nat.pow_succ]
    generalize 128 ^ k = P at h1 ⊢
    have h2 : P * (l[k].toNat - 128) ≤ P * 127 := Nat.mul_le_mul_left _ (by omega)
    exact Nat.lt_of_lt_of_eq (Nat.add_lt_add_of_lt_of_le h1 h2) (by omega)
  · have h2 := h.2
    obtain ⟨m, hm⟩ : ∃ m, 5 - k = m + 1 := ⟨4 - k, by omega⟩
    have hm' : 5 - (k + 1) = m := by omega
    rw [hm, List.drop_eq_getElem_cons hk, getF, if_neg hc, Option.map_map] at h2
    rw [h2, hm']
    refine Option.map_congr fun x _ => ?_
    simp only [Function.comp_apply, Prod.mk.injEq, and_true]
    rw [Nat.pow_succ, Nat.mul_add, ← Nat.mul_assoc, Nat.add_assoc]
theorem ginv_hit {l : List UInt8} {k n : Nat} (h : GInv l k n) (h5 : k < 5) (hk : k < l.length) (hc : l[k].toNat < 128) : get5 l = some (n + 128 ^ k * l[k].toNat, l.drop (k + 1)) := by
  have h2 := h.2
  rw [List.drop_eq_getElem_cons hk, show 5 - k = (5 - (k + 1)) + 1 by omega, getF, if_pos hc] at h2
  exact h2
theorem ginv_out {l : List UInt8} {k n : Nat} (h : GInv l k n) (hk : k = 5 ∨ l.length ≤ k) : get5 l = none := by
  have h2 := h.2
  rcases hk with rfl | hk
  · rw [Nat.sub_self, getF] at h2
    exact h2
  · rw [List.drop_of_length_le hk] at h2
    rw [h2]
    cases 5 - k <;> rfl

theorem and_u8 (c : UInt8) : bits BinOp.and IntKind.u8 (c.toNat : Int) 127 = ((c.toNat % 128 : Nat) : Int) := by
  have h : ∀ r : Fin 256, bits BinOp.and IntKind.u8 ((r.val : Nat) : Int) 127 = ((r.val % 128 : Nat) : Int) := by decide +kernel
  exact h ⟨c.toNat, UInt8.toNat_lt c⟩
theorem or_shift (n d k : Nat) (hn : n < 128 ^ k) (hk : k < 5) (hd : d < 128) : bits BinOp.or IntKind.i64 (n : Int) ((128 ^ k * d : Nat) : Int) = ((n + 128 ^ k * d : Nat) : Int) := by
  have hp : 128 ^ k ≤ 268435456 := by
    rw [show (268435456 : Nat) = 128 ^ 4 by decide]
    exact Nat.pow_le_pow_right (by omega) (by omega)
  have hm : 128 ^ k * d ≤ 268435456 * 127 := Nat.mul_le_mul hp (by omega)
  show IntKind.i64.wrap ((BitVec.ofInt 64 (n : Int) ||| BitVec.ofInt 64 ((128 ^ k * d : Nat) : Int)).toNat : Int) = _
  rw [BitVec.toNat_or, ofInt_64 _ (by omega), ofInt_64 _ (by omega), IntKind.wrap_i64]
  have h := Nat.two_pow_add_eq_or_of_lt (i := 7 * k) (b := n) (by rw [Nat.pow_mul]; exact hn) d
  rw [Nat.pow_mul, show (2 : Nat) ^ 7 = 128 by decide] at h
  rw [Nat.or_comm, ← h]
  omega
set_option maxRecDepth 100000 in
set_option maxHeartbeats 800000 in
theorem get_p (s : ByteArray) (hs : s.size < 4294967281) (w : World) : Calls Try.prog 24 #[.string s] w (Ret w (getVal s.data.toList)) := by
  go_enter Try.func24, Try.ntmps24
  go_wp2_with fail
  go_loop [10, 5] (fun i u => ∃ k n : Nat, k ≤ 5 ∧ k ≤ s.size ∧ i = .int .i64 k ∧ u = .int .i64 n ∧ GInv s.data.toList k n) (fun i _ => 5 - (intOf i).toNat)
  case atStart => exact ⟨0, 0, by omega, by omega, rfl, rfl, ginv_zero _⟩
  case round =>
    obtain ⟨k, n, hk5, hks, rfl, rfl, hi⟩ := hrel
    have HI := Lib.hid hi
    have hn := hi.1
    clear hi
    by_cases hlt : k < 5 ∧ k < s.size
    · obtain ⟨h5, hlt⟩ := hlt
      have hmin : (k : Int) < min (s.size : Int) 5 := by omega
      have hc8 := UInt8.toNat_lt s[k]
      have hcl := get_data s k hlt
      have hb := and_u8 s[k]
      have hd := Nat.mod_lt s[k].toNat (show 128 > 0 by omega)
      generalize hcc : s[k] = cc at *
      generalize hdd : cc.toNat % 128 = d at *
      have HCL := Lib.hid hcl
      have HDD := Lib.hid hdd
      have ho := or_shift n d k hn h5 hd
      clear hcl hdd
      rcases (show k = 0 ∨ k = 1 ∨ k = 2 ∨ k = 3 ∨ k = 4 by omega) with rfl | rfl | rfl | rfl | rfl
      · simp only [Nat.reducePow, Nat.one_mul, Int.natCast_mul, Int.natCast_add, Int.cast_ofNat_Int, Int.mul_comm _ (d : Int)] at ho hn
        cases h128 : decide ((cc.toNat : Int) < 128)
        · go_wp2_with fail
          simp only [decide_eq_false_iff_not] at h128
          have hst := ginv_step HI.out (by omega) (by rw [← size_data]; exact hlt) (by rw [← HCL.out]; omega)
          rw [← HCL.out] at hst
          have hdd := HDD.out
          refine ⟨⟨_, _, ?_, ?_, ?_, ?_, hst⟩, by simp [intOf]⟩
          · omega
          · omega
          · rfl
          · rw [show cc.toNat - 128 = d by omega]
            simp [Int.mul_comm]
        · simp only [decide_eq_true_eq] at h128
          have hht := ginv_hit HI.out (by omega) (by rw [← size_data]; exact hlt) (by rw [← HCL.out]; omega)
          rw [← HCL.out] at hht
          have hdd := HDD.out
          have HHT := Lib.hid hht
          clear hht
          go_wp2_with fail
          go_region
          go_wp2
          have hex : s.extract 1 s.size = ⟨(s.data.toList.drop 1).toArray⟩ := by
            apply bytes_ext
            rw [Lib.extract_data, List.take_of_length_le (by rw [List.length_drop, ← size_data]; omega)]
          refine bodyPost_ret (v := .tuple #[.int .i64 ((n : Int) + (d : Int)), .string (s.extract 1 s.size), .bool true]) (by simp [results, Try.results24, go_sem]) rfl ?_
          unfold getVal
          rw [HHT.out, hex]
          refine Ret.mk ?_ (by repeat (first | exact Gr.refl _ | refine Gr.drew ?_))
          simp only
          rw [show cc.toNat = d by omega]
          simp [Int.mul_comm]
      · simp only [Nat.reducePow, Nat.one_mul, Int.natCast_mul, Int.natCast_add, Int.cast_ofNat_Int, Int.mul_comm _ (d : Int)] at ho hn
        cases h128 : decide ((cc.toNat : Int) < 128)
        · go_wp2_with fail
          simp only [decide_eq_false_iff_not] at h128
          have hst := ginv_step HI.out (by omega) (by rw [← size_data]; exact hlt) (by rw [← HCL.out]; omega)
          rw [← HCL.out] at hst
          have hdd := HDD.out
          refine ⟨⟨_, _, ?_, ?_, ?_, ?_, hst⟩, by simp [intOf]⟩
          · omega
          · omega
          · rfl
          · rw [show cc.toNat - 128 = d by omega]
            simp [Int.mul_comm]
        · simp only [decide_eq_true_eq] at h128
          have hht := ginv_hit HI.out (by omega) (by rw [← size_data]; exact hlt) (by rw [← HCL.out]; omega)
          rw [← HCL.out] at hht
          have hdd := HDD.out
          have HHT := Lib.hid hht
          clear hht
          go_wp2_with fail
          go_region
          go_wp2
          have hex : s.extract 2 s.size = ⟨(s.data.toList.drop 2).toArray⟩ := by
            apply bytes_ext
            rw [Lib.extract_data, List.take_of_length_le (by rw [List.length_drop, ← size_data]; omega)]
          refine bodyPost_ret (v := .tuple #[.int .i64 ((n : Int) + (d : Int) * 128), .string (s.extract 2 s.size), .bool true]) (by simp [results, Try.results24, go_sem]) rfl ?_
          unfold getVal
          rw [HHT.out, hex]
          refine Ret.mk ?_ (by repeat (first | exact Gr.refl _ | refine Gr.drew ?_))
          simp only
          rw [show cc.toNat = d by omega]
          simp [Int.mul_comm]
      · simp only [Nat.reducePow, Nat.one_mul, Int.natCast_mul, Int.natCast_add, Int.cast_ofNat_Int, Int.mul_comm _ (d : Int)] at ho hn
        cases h128 : decide ((cc.toNat : Int) < 128)
        · go_wp2_with fail
          simp only [decide_eq_false_iff_not] at h128
          have hst := ginv_step HI.out (by omega) (by rw [← size_data]; exact hlt) (by rw [← HCL.out]; omega)
          rw [← HCL.out] at hst
          have hdd := HDD.out
          refine ⟨⟨_, _, ?_, ?_, ?_, ?_, hst⟩, by simp [intOf]⟩
          · omega
          · omega
          · rfl
          · rw [show cc.toNat - 128 = d by omega]
            simp [Int.mul_comm]
        · simp only [decide_eq_true_eq] at h128
          have hht := ginv_hit HI.out (by omega) (by rw [← size_data]; exact hlt) (by rw [← HCL.out]; omega)
          rw [← HCL.out] at hht
          have hdd := HDD.out
          have HHT := Lib.hid hht
          clear hht
          go_wp2_with fail
          go_region
          go_wp2
          have hex : s.extract 3 s.size = ⟨(s.data.toList.drop 3).toArray⟩ := by
            apply bytes_ext
            rw [Lib.extract_data, List.take_of_length_le (by rw [List.length_drop, ← size_data]; omega)]
          refine bodyPost_ret (v := .tuple #[.int .i64 ((n : Int) + (d : Int) * 16384), .string (s.extract 3 s.size), .bool true]) (by simp [results, Try.results24, go_sem]) rfl ?_
          unfold getVal
          rw [HHT.out, hex]
          refine Ret.mk ?_ (by repeat (first | exact Gr.refl _ | refine Gr.drew ?_))
          simp only
          rw [show cc.toNat = d by omega]
          simp [Int.mul_comm]
      · simp only [Nat.reducePow, Nat.one_mul, Int.natCast_mul, Int.natCast_add, Int.cast_ofNat_Int, Int.mul_comm _ (d : Int)] at ho hn
        cases h128 : decide ((cc.toNat : Int) < 128)
        · go_wp2_with fail
          simp only [decide_eq_false_iff_not] at h128
          have hst := ginv_step HI.out (by omega) (by rw [← size_data]; exact hlt) (by rw [← HCL.out]; omega)
          rw [← HCL.out] at hst
          have hdd := HDD.out
          refine ⟨⟨_, _, ?_, ?_, ?_, ?_, hst⟩, by simp [intOf]⟩
          · omega
          · omega
          · rfl
          · rw [show cc.toNat - 128 = d by omega]
            simp [Int.mul_comm]
        · simp only [decide_eq_true_eq] at h128
          have hht := ginv_hit HI.out (by omega) (by rw [← size_data]; exact hlt) (by rw [← HCL.out]; omega)
          rw [← HCL.out] at hht
          have hdd := HDD.out
          have HHT := Lib.hid hht
          clear hht
          go_wp2_with fail
          go_region
          go_wp2
          have hex : s.extract 4 s.size = ⟨(s.data.toList.drop 4).toArray⟩ := by
            apply bytes_ext
            rw [Lib.extract_data, List.take_of_length_le (by rw [List.length_drop, ← size_data]; omega)]
          refine bodyPost_ret (v := .tuple #[.int .i64 ((n : Int) + (d : Int) * 2097152), .string (s.extract 4 s.size), .bool true]) (by simp [results, Try.results24, go_sem]) rfl ?_
          unfold getVal
          rw [HHT.out, hex]
          refine Ret.mk ?_ (by repeat (first | exact Gr.refl _ | refine Gr.drew ?_))
          simp only
          rw [show cc.toNat = d by omega]
          simp [Int.mul_comm]
      · simp only [Nat.reducePow, Nat.one_mul, Int.natCast_mul, Int.natCast_add, Int.cast_ofNat_Int, Int.mul_comm _ (d : Int)] at ho hn
        cases h128 : decide ((cc.toNat : Int) < 128)
        · go_wp2_with fail
          simp only [decide_eq_false_iff_not] at h128
          have hst := ginv_step HI.out (by omega) (by rw [← size_data]; exact hlt) (by rw [← HCL.out]; omega)
          rw [← HCL.out] at hst
          have hdd := HDD.out
          refine ⟨⟨_, _, ?_, ?_, ?_, ?_, hst⟩, by simp [intOf]⟩
          · omega
          · omega
          · rfl
          · rw [show cc.toNat - 128 = d by omega]
            simp [Int.mul_comm]
        · simp only [decide_eq_true_eq] at h128
          have hht := ginv_hit HI.out (by omega) (by rw [← size_data]; exact hlt) (by rw [← HCL.out]; omega)
          rw [← HCL.out] at hht
          have hdd := HDD.out
          have HHT := Lib.hid hht
          clear hht
          go_wp2_with fail
          go_region
          go_wp2
          have hex : s.extract 5 s.size = ⟨(s.data.toList.drop 5).toArray⟩ := by
            apply bytes_ext
            rw [Lib.extract_data, List.take_of_length_le (by rw [List.length_drop, ← size_data]; omega)]
          refine bodyPost_ret (v := .tuple #[.int .i64 ((n : Int) + (d : Int) * 268435456), .string (s.extract 5 s.size), .bool true]) (by simp [results, Try.results24, go_sem]) rfl ?_
          unfold getVal
          rw [HHT.out, hex]
          refine Ret.mk ?_ (by repeat (first | exact Gr.refl _ | refine Gr.drew ?_))
          simp only
          rw [show cc.toNat = d by omega]
          simp [Int.mul_comm]
    · have hmin : ¬ (k : Int) < min (s.size : Int) 5 := by omega
      go_wp2_with fail
      refine bodyPost_ret (v := .tuple #[.int .i64 0, .string ⟨#[]⟩, .bool false]) (by simp [results, Try.results24, go_sem]) rfl ?_
      unfold getVal
      rw [ginv_out HI.out (by rw [← size_data]; omega)]
      exact Ret.mk rfl (Gr.refl _)
end Go.Proofs.Ytkdplnbdhkckhaa
