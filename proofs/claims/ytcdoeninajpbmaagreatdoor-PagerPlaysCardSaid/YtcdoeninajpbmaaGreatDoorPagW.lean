/-
  The contracts of pager.two, pager.from and pager.fill.
-/
import Derived.Test.YtcdoeninajpbmaaGreatDoorPagP
import Derived.Test.YtcdoeninajpbmaaGreatDoorDisk
import Derived.RegionTactic
import Derived.BigRegion
namespace Go.Proofs.YtcdoeninajpbmaaGreatDoor
open Go Go.RowKit

theorem repeat_replicate (c : UInt8) : ∀ n, Lib.repeatL [c] n = List.replicate n c
  | 0 => rfl
  | n + 1 => by
    rw [List.replicate_succ, ← repeat_replicate c n]
    rfl
theorem zerosB_fill : zerosB.data.toList = fillF [] := by
  show (Lib.repeatL [0] 1024).toArray.toList = [] ++ List.replicate (1024 - ([] : List UInt8).length) 0
  rw [List.toList_toArray, repeat_replicate, List.nil_append, List.length_nil]
set_option maxHeartbeats 800000 in
theorem two_g (n : Int) (w : World) : Calls Tryz.prog 51 #[.int .i64 n] w (Ret w (.string ⟨(two8 n).toArray⟩)) := by
  have hu1 : IntKind.u8.wrap (n / 256) = ((((n / 256) % 256).toNat.toUInt8).toNat : Int) := by
    show (n / 256) % 256 = _
    simp
    omega
  have hu2 : IntKind.u8.wrap n = (((n % 256).toNat.toUInt8).toNat : Int) := by
    show n % 256 = _
    simp
    omega
  have H8 : Hid (two8 n = [((n / 256) % 256).toNat.toUInt8, (n % 256).toNat.toUInt8]) := Lib.hid rfl
  generalize ((n / 256) % 256).toNat.toUInt8 = a at *
  generalize (n % 256).toNat.toUInt8 = b at *
  have hc : ∀ w : World, (convert 84 9 (.slice (some ⟨w.heap.size, 0, none⟩) 2 2)).run Tryz.prog (w.alloc (.cells #[.int .u8 (a.toNat : Int), .int .u8 (b.toNat : Int)] 5)) = .ok (.string ⟨#[a, b]⟩) (w.alloc (.cells #[.int .u8 (a.toNat : Int), .int .u8 (b.toNat : Int)] 5)) := fun w =>
    own_string (a0 := w) (l := [a, b]) (World.ownsRow_lit w #[.int .u8 (a.toNat : Int), .int .u8 (b.toNat : Int)] 2 (Nat.le_refl _) (by decide) rfl)
  go_enter Tryz.func51, Tryz.ntmps51
  go_wp2_with fail
  go_ret
  exact Ret.mk (by rw [H8.out]; rfl) ((Gr.refl w).alloc _)
theorem add_bytes (l m : List UInt8) (h : l.length + m.length ≤ 100000000000) : ∀ w, (Op.stringOp .add ⟨l.toArray⟩ ⟨m.toArray⟩).run Tryz.prog w = .ok (.string ⟨(l ++ m).toArray⟩) w := fun w => by
  rw [run_string_add_sum w _ _ (by rw [ba_len, ba_len]; omega), ByteArray.mk_append_mk]
theorem or_byte_i (U c : Nat) (hU : U < 256) (hc : c < 256) : bits BinOp.or IntKind.i64 ((U : Int) * 256) (c : Int) = 256 * (U : Int) + (c : Int) := by
  have e : ((U : Int) * 256) = ((U * 256 : Nat) : Int) := by omega
  rw [e]
  show IntKind.i64.wrap ((BitVec.ofInt 64 ((U * 256 : Nat) : Int) ||| BitVec.ofInt 64 (c : Int)).toNat : Int) = _
  rw [BitVec.toNat_or, ofInt_64 _ (by omega), ofInt_64 _ (by omega), IntKind.wrap_i64]
  have h := Nat.two_pow_add_eq_or_of_lt (i := 8) (b := c) hc U
  rw [Nat.mul_comm] at h
  rw [show (2 : Nat) ^ 8 = 256 from rfl] at h
  rw [← h]
  omega
set_option maxHeartbeats 800000 in
theorem from_g (s : ByteArray) (hs : 2 ≤ s.size) (w : World) : Calls Tryz.prog 38 #[.string s] w fun e w' => e = .returned (.int .i64 (fromF s.data.toList 0)) ∧ w' = w.drew := by
  have h0 : 0 < s.size := by omega
  have h1 : 1 < s.size := by omega
  have e0 : s[0] = s.data.toList.getD 0 0 := by
    rw [get_data s 0 h0, List.getD_eq_getElem?_getD, List.getElem?_eq_getElem (by rw [← size_data]; exact h0)]
    rfl
  have e1 : s[1] = s.data.toList.getD (0 + 1) 0 := by
    rw [get_data s 1 h1, List.getD_eq_getElem?_getD, List.getElem?_eq_getElem (by rw [← size_data]; exact h1)]
    rfl
  have HF : Hid (fromF s.data.toList 0 = 256 * ((s[0].toNat : Nat) : Int) + ((s[1].toNat : Nat) : Int)) := Lib.hid (by rw [e0, e1]; rfl)
  have ho := or_byte_i s[0].toNat s[1].toNat (s[0].toNat_lt) (s[1].toNat_lt)
  have hw : wrap64 ((s[0].toNat : Int) * 256) = (s[0].toNat : Int) * 256 := by
    have := s[0].toNat_lt
    unfold wrap64
    omega
  have hwa : wrap64 (s[0].toNat : Int) = (s[0].toNat : Int) := by
    have := s[0].toNat_lt
    unfold wrap64
    omega
  have hwb : wrap64 (s[1].toNat : Int) = (s[1].toNat : Int) := by
    have := s[1].toNat_lt
    unfold wrap64
    omega
  clear e0 e1
  generalize hA : s[0] = a at *
  generalize hB : s[1] = b at *
  go_enter Tryz.func38, Tryz.ntmps38
  go_wp2_with fail
  go_region
  go_wp2_with fail
  go_ret
  refine ⟨?_, rfl⟩
  rw [HF.out]
  rfl
theorem ba_eta (l : List UInt8) : (⟨l.toArray⟩ : ByteArray).data.toList = l := by show l.toArray.toList = l; simp
set_option maxHeartbeats 800000 in
theorem fill_g (s : ByteArray) (hs : s.size ≤ 1024) (w : World) : Calls Tryz.prog 29 #[.string s] w (Ret w (.string ⟨(fillF s.data.toList).toArray⟩)) := by
  have hr : ∀ w, Calls Tryz.prog 30 #[.string ⟨#[0]⟩, .int .i64 (1024 - (s.size : Int))] w (Ret w (.string ⟨(List.replicate (1024 - s.size) (0 : UInt8)).toArray⟩)) := fun w => by
    have := repeat_t ⟨#[0]⟩ (1024 - s.size) w (by omega) (show 1 ≤ 100000 by omega)
    rw [show ((1024 - s.size : Nat) : Int) = 1024 - (s.size : Int) by omega] at this
    rw [← repeat_replicate]
    exact this
  have ha : ∀ w, (Op.stringOp .add s ⟨(List.replicate (1024 - s.size) (0 : UInt8)).toArray⟩).run Tryz.prog w = .ok (.string ⟨(fillF s.data.toList).toArray⟩) w := fun w => by
    rw [run_string_add_sum w _ _ (by rw [ba_len (List.replicate (1024 - s.size) 0), List.length_replicate]; omega)]
    congr 2
  have hw : IntKind.i64.wrap (1024 - (s.size : Int)) = 1024 - (s.size : Int) := by rw [IntKind.wrap_i64]; omega
  generalize (⟨(fillF s.data.toList).toArray⟩ : ByteArray) = r at *
  generalize (⟨(List.replicate (1024 - s.size) (0 : UInt8)).toArray⟩ : ByteArray) = z at *
  go_enter Tryz.func29, Tryz.ntmps29
  go_wp2_with fail
  refine (hr w).mono ?_
  rintro e w1 ⟨rfl, hg1⟩
  go_wp2_with fail
  go_ret
  exact Ret.mk rfl hg1
end Go.Proofs.YtcdoeninajpbmaaGreatDoor
