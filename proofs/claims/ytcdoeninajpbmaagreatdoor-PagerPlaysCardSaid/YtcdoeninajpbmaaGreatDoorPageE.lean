/-
  The contract of the laws' page: a page of a letter, the first letters another one.
-/
import Derived.Test.YtcdoeninajpbmaaGreatDoorPagQ
import Derived.Deep.RegionWith
namespace Go.Proofs.YtcdoeninajpbmaaGreatDoor
open Go Go.RowKit

def pgHi (n : Int) : UInt8 := ((n / 256) % 256).toNat.toUInt8
def pgLo (n : Int) : UInt8 := (n % 256).toNat.toUInt8
def pgK (n : Int) : Nat := (n % 1024).toNat
def pageB (n : Int) : ByteArray := ⟨(Lib.repeatL [pgHi n] (pgK n) ++ Lib.repeatL [pgLo n] (1024 - pgK n)).toArray⟩
theorem pageB_size (n : Int) : (pageB n).size = 1024 := by
  unfold pageB
  rw [ba_len, List.length_append, Lib.repeatL_length, Lib.repeatL_length]
  have : pgK n ≤ 1024 := by unfold pgK; omega
  simp
  omega
theorem one_drew (c : UInt8) (q : Int) (hq : q = (c.toNat : Int)) (w : World) : (convert 84 9 (.slice (some ⟨w.heap.size, 0, none⟩) 1 1)).run Tryz.prog (w.alloc (.cells #[.int .u8 q] 5)).drew = .ok (.string ⟨#[c]⟩) (w.alloc (.cells #[.int .u8 q] 5)).drew := by
  subst hq
  refine own_string (a0 := w) (l := [c]) ?_
  exact ownsRow_gr (World.ownsRow_lit w #[.int .u8 (c.toNat : Int)] 1 (Nat.le_refl _) (by decide) rfl) ((Gr.refl _).drew)
theorem conv_first (c : UInt8) {w w2 : World} {o : Obj} (h : Gr ((w.alloc (.cells #[.int .u8 (c.toNat : Int)] 5)).alloc o) w2) : (convert 84 9 (.slice (some ⟨w.heap.size, 0, none⟩) 1 1)).run Tryz.prog w2 = .ok (.string ⟨#[c]⟩) w2 := by
  refine own_string (a0 := w) (l := [c]) ?_
  exact ownsRow_gr (World.ownsRow_lit w #[.int .u8 (c.toNat : Int)] 1 (Nat.le_refl _) (by decide) rfl) (((Gr.refl _).alloc _).trans h)
theorem conv_second (c : UInt8) {w w2 : World} {o : Obj} (h : Gr ((w.alloc o).alloc (.cells #[.int .u8 (c.toNat : Int)] 5)) w2) : (convert 84 9 (.slice (some ⟨w.heap.size + 1, 0, none⟩) 1 1)).run Tryz.prog w2 = .ok (.string ⟨#[c]⟩) w2 := by
  have e : w.heap.size + 1 = (w.alloc o).heap.size := by simp
  rw [e]
  refine own_string (a0 := w.alloc o) (l := [c]) ?_
  exact ownsRow_gr (World.ownsRow_lit (w.alloc o) #[.int .u8 (c.toNat : Int)] 1 (Nat.le_refl _) (by decide) rfl) h
theorem gr_undrew {w w2 : World} (h : Gr w.drew w2) : Gr w w2 := (Gr.refl w).drew.trans h
set_option maxRecDepth 100000 in
set_option maxHeartbeats 4000000 in
theorem page_l (n : Int) (hn : -9223372036854775808 ≤ n ∧ n ≤ 9223372036854775807) (w : World) : Calls Tryz.prog 11 #[.int .i64 n] w (Ret w (.string (pageB n))) := by
  go_enter Tryz.func11, Tryz.ntmps11
  have hk : (IntKind.u64.wrap n).tmod 1024 = ((pgK n : Nat) : Int) := by
    show (n % 18446744073709551616).tmod 1024 = _
    rw [Int.tmod_eq_emod_of_nonneg (by omega)]
    unfold pgK
    omega
  have hkn : pgK n < 1024 := by unfold pgK; omega
  have HPB : Hid (pageB n = ⟨(Lib.repeatL [pgHi n] (pgK n) ++ Lib.repeatL [pgLo n] (1024 - pgK n)).toArray⟩) := Lib.hid rfl
  have HHI : Hid ((n / 256) % 256 = ((pgHi n).toNat : Int)) := Lib.hid (by unfold pgHi; simp; omega)
  have HLO : Hid (n % 256 = ((pgLo n).toNat : Int)) := Lib.hid (by unfold pgLo; simp; omega)
  generalize pgHi n = a at *
  generalize pgLo n = b at *
  generalize pgK n = k at *
  generalize pageB n = pb at *
  go_wp2_with fail
  have r1 : ∀ w, Calls Tryz.prog 30 #[.string ⟨#[a]⟩, .int .i64 k] w (Ret w (.string ⟨(Lib.repeatL [a] k).toArray⟩)) := fun w => repeat_t ⟨#[a]⟩ k w (by omega) (show 1 ≤ 100000 by omega)
  have r2 : ∀ w, Calls Tryz.prog 30 #[.string ⟨#[b]⟩, .int .i64 (1024 - (k : Int))] w (Ret w (.string ⟨(Lib.repeatL [b] (1024 - k)).toArray⟩)) := fun w => by
    have := repeat_t ⟨#[b]⟩ (1024 - k) w (by omega) (show 1 ≤ 100000 by omega)
    rw [show ((1024 - k : Nat) : Int) = 1024 - (k : Int) by omega] at this
    exact this
  have hu1 : IntKind.u8.wrap (n / 256) = (a.toNat : Int) := HHI.out
  have hu2 : IntKind.u8.wrap n = (b.toNat : Int) := HLO.out
  have hu3 : IntKind.i64.wrap (1024 - (k : Int)) = 1024 - (k : Int) := by rw [IntKind.wrap_i64]; omega
  have hs1 := one_string a _ rfl
  have hs1d := fun w => one_drew a _ rfl w
  have hs2 := one_string b _ rfl
  have hs2d := fun w => one_drew b _ rfl w
  have hf1 : ∀ w o, (convert 84 9 (.slice (some ⟨w.heap.size, 0, none⟩) 1 1)).run Tryz.prog (((World.alloc w (.cells #[.int .u8 (a.toNat : Int)] 5)).alloc o).drew) = .ok (.string ⟨#[a]⟩) _ := fun w o => conv_first a ((Gr.refl _).drew)
  have hf2 : ∀ w o, (convert 84 9 (.slice (some ⟨w.heap.size, 0, none⟩) 1 1)).run Tryz.prog (((World.alloc w (.cells #[.int .u8 (b.toNat : Int)] 5)).alloc o).drew) = .ok (.string ⟨#[b]⟩) _ := fun w o => conv_first b ((Gr.refl _).drew)
  have hg1 : ∀ w o, (convert 84 9 (.slice (some ⟨w.heap.size + 1, 0, none⟩) 1 1)).run Tryz.prog (((World.alloc w o).alloc (.cells #[.int .u8 (a.toNat : Int)] 5)).drew) = .ok (.string ⟨#[a]⟩) _ := fun w o => conv_second a ((Gr.refl _).drew)
  have hg2 : ∀ w o, (convert 84 9 (.slice (some ⟨w.heap.size + 1, 0, none⟩) 1 1)).run Tryz.prog (((World.alloc w o).alloc (.cells #[.int .u8 (b.toNat : Int)] 5)).drew) = .ok (.string ⟨#[b]⟩) _ := fun w o => conv_second b ((Gr.refl _).drew)
  have hadd : ∀ w, (Op.stringOp .add ⟨(Lib.repeatL [a] k).toArray⟩ ⟨(Lib.repeatL [b] (1024 - k)).toArray⟩).run Tryz.prog w = .ok (.string pb) w := fun w => by
    rw [run_string_add_sum w _ _ (by rw [ba_len, ba_len, Lib.repeatL_length, Lib.repeatL_length]; simp; omega), ByteArray.mk_append_mk, HPB.out]
  clear HHI HLO
  go_region_with (first
    | (go_at_call_of 30 (Value.string ⟨#[a]⟩); refine (r1 _).mono ?_; rintro e w2 ⟨rfl, hgg2⟩; first | (with_reducible have hcv := conv_first b (gr_undrew hgg2)) | (with_reducible have hcv := conv_second b (gr_undrew hgg2)) | skip)
    | (go_at_call_of 30 (Value.string ⟨#[b]⟩); refine (r2 _).mono ?_; rintro e w3 ⟨rfl, hgg3⟩))
  all_goals
    go_wp2
    go_ret
    refine Ret.mk rfl ?_
    refine Gr.trans ?_ hgg3
    repeat (with_reducible first | refine Gr.drew ?_ | refine Gr.alloc ?_ _)
    refine Gr.trans ?_ hgg2
    repeat (with_reducible first | refine Gr.drew ?_ | refine Gr.alloc ?_ _)
    exact Gr.refl _
end Go.Proofs.YtcdoeninajpbmaaGreatDoor
