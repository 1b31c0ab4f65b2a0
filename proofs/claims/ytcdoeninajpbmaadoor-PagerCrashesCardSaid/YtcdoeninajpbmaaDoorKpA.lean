/-
  Contracts of pick and page, of the laws on pagers.
-/
import Derived.Test.YtcdoeninajpbmaaDoorPagQ
import Derived.Deep.RegionWith
namespace Go.Proofs.YtcdoeninajpbmaaDoor
open Go Go.RowKit

theorem pick_k (a n : Int) (hn : 1 ≤ n ∧ n ≤ 100000) (w : World) : Calls Tryd.prog 10 #[.int .i64 a, .int .i64 n] w fun e w' => e = .returned (.int .i64 (pickK a n : Int)) ∧ w' = w := by
  have h1 : IntKind.u64.wrap n = n := by show n % 18446744073709551616 = n; omega
  have h2 : (IntKind.u64.wrap a).tmod n = (pickK a n : Int) := by
    show (a % 18446744073709551616).tmod n = _
    rw [Int.tmod_eq_emod_of_nonneg (by omega)]
    unfold pickK
    have := Int.emod_nonneg (a % 18446744073709551616) (show n ≠ 0 by omega)
    omega
  have h3 : (pickK a n : Int) < n := by
    unfold pickK
    have := Int.emod_nonneg (a % 18446744073709551616) (show n ≠ 0 by omega)
    have := Int.emod_lt_of_pos (a % 18446744073709551616) (show 0 < n by omega)
    omega
  have h0 : (n == 0) = false := by simp; omega
  generalize pickK a n = r at *
  go_enter Tryd.func10, Tryd.ntmps10
  go_wp2
  all_goals first | omega | skip
  all_goals
    go_ret
    exact ⟨rfl, rfl⟩
theorem one_drew (c : UInt8) (q : Int) (hq : q = (c.toNat : Int)) (w : World) : (convert 73 9 (.slice (some ⟨w.heap.size, 0, none⟩) 1 1)).run Tryd.prog (w.alloc (.cells #[.int .u8 q] 5)).drew = .ok (.string ⟨#[c]⟩) (w.alloc (.cells #[.int .u8 q] 5)).drew := by
  subst hq
  refine own_string (a0 := w) (l := [c]) ?_
  exact ownsRow_gr (World.ownsRow_lit w #[.int .u8 (c.toNat : Int)] 1 (Nat.le_refl _) (by decide) rfl) ((Gr.refl _).drew)
theorem conv_first (c : UInt8) {w w2 : World} {o : Obj} (h : Gr ((w.alloc (.cells #[.int .u8 (c.toNat : Int)] 5)).alloc o) w2) : (convert 73 9 (.slice (some ⟨w.heap.size, 0, none⟩) 1 1)).run Tryd.prog w2 = .ok (.string ⟨#[c]⟩) w2 := by
  refine own_string (a0 := w) (l := [c]) ?_
  exact ownsRow_gr (World.ownsRow_lit w #[.int .u8 (c.toNat : Int)] 1 (Nat.le_refl _) (by decide) rfl) (((Gr.refl _).alloc _).trans h)
theorem conv_second (c : UInt8) {w w2 : World} {o : Obj} (h : Gr ((w.alloc o).alloc (.cells #[.int .u8 (c.toNat : Int)] 5)) w2) : (convert 73 9 (.slice (some ⟨w.heap.size + 1, 0, none⟩) 1 1)).run Tryd.prog w2 = .ok (.string ⟨#[c]⟩) w2 := by
  have e : w.heap.size + 1 = (w.alloc o).heap.size := by simp
  rw [e]
  refine own_string (a0 := w.alloc o) (l := [c]) ?_
  exact ownsRow_gr (World.ownsRow_lit (w.alloc o) #[.int .u8 (c.toNat : Int)] 1 (Nat.le_refl _) (by decide) rfl) h
theorem gr_undrew {w w2 : World} (h : Gr w.drew w2) : Gr w w2 := (Gr.refl w).drew.trans h
set_option maxRecDepth 100000 in
set_option maxHeartbeats 4000000 in
theorem page_k (n : Int) (hn : -9223372036854775808 ≤ n ∧ n ≤ 9223372036854775807) (w : World) : Calls Tryd.prog 15 #[.int .i64 n] w (Ret w (.string (kpageB n))) := by
  go_enter Tryd.func15, Tryd.ntmps15
  go_wp2_with fail
  refine (pick_k n 1024 (by omega) _).mono ?_
  rintro e w1 ⟨rfl, rfl⟩
  have hkp : pickK n 1024 = kgK n := by unfold pickK kgK; omega
  rw [hkp]
  have hkn : kgK n < 1024 := by unfold kgK; omega
  have HPB : Hid (kpageB n = ⟨(Lib.repeatL [kgHi n] (kgK n) ++ Lib.repeatL [kgLo n] (1024 - kgK n)).toArray⟩) := Lib.hid rfl
  have HHI : Hid ((n / 256) % 256 = ((kgHi n).toNat : Int)) := Lib.hid (by unfold kgHi; simp; omega)
  have HLO : Hid (n % 256 = ((kgLo n).toNat : Int)) := Lib.hid (by unfold kgLo; simp; omega)
  generalize kgHi n = a at *
  generalize kgLo n = b at *
  generalize kgK n = k at *
  generalize kpageB n = pb at *
  go_wp2_with fail
  have r1 : ∀ w, Calls Tryd.prog 34 #[.string ⟨#[a]⟩, .int .i64 k] w (Ret w (.string ⟨(Lib.repeatL [a] k).toArray⟩)) := fun w => repeat_t ⟨#[a]⟩ k w (by omega) (show 1 ≤ 100000 by omega)
  have r2 : ∀ w, Calls Tryd.prog 34 #[.string ⟨#[b]⟩, .int .i64 (1024 - (k : Int))] w (Ret w (.string ⟨(Lib.repeatL [b] (1024 - k)).toArray⟩)) := fun w => by
    have := repeat_t ⟨#[b]⟩ (1024 - k) w (by omega) (show 1 ≤ 100000 by omega)
    rw [show ((1024 - k : Nat) : Int) = 1024 - (k : Int) by omega] at this
    exact this
  have hu1 : IntKind.u8.wrap (n / 256) = (a.toNat : Int) := HHI.out
  have hu2 : IntKind.u8.wrap n = (b.toNat : Int) := HLO.out
  have hu3 : IntKind.i64.wrap (1024 - (k : Int)) = 1024 - (k : Int) := by rw [IntKind.wrap_i64]; omega
  have hs1 := one_string a _ rfl
  have hs1d := fun w => one_drew a _ rfl w
  have hs2 := one_string b _ rfl
  have hs2d := fun w => one_drew b _ rfl w
  have hf1 : ∀ w o, (convert 73 9 (.slice (some ⟨w.heap.size, 0, none⟩) 1 1)).run Tryd.prog (((World.alloc w (.cells #[.int .u8 (a.toNat : Int)] 5)).alloc o).drew) = .ok (.string ⟨#[a]⟩) _ := fun w o => conv_first a ((Gr.refl _).drew)
  have hf2 : ∀ w o, (convert 73 9 (.slice (some ⟨w.heap.size, 0, none⟩) 1 1)).run Tryd.prog (((World.alloc w (.cells #[.int .u8 (b.toNat : Int)] 5)).alloc o).drew) = .ok (.string ⟨#[b]⟩) _ := fun w o => conv_first b ((Gr.refl _).drew)
  have hg1 : ∀ w o, (convert 73 9 (.slice (some ⟨w.heap.size + 1, 0, none⟩) 1 1)).run Tryd.prog (((World.alloc w o).alloc (.cells #[.int .u8 (a.toNat : Int)] 5)).drew) = .ok (.string ⟨#[a]⟩) _ := fun w o => conv_second a ((Gr.refl _).drew)
  have hg2 : ∀ w o, (convert 73 9 (.slice (some ⟨w.heap.size + 1, 0, none⟩) 1 1)).run Tryd.prog (((World.alloc w o).alloc (.cells #[.int .u8 (b.toNat : Int)] 5)).drew) = .ok (.string ⟨#[b]⟩) _ := fun w o => conv_second b ((Gr.refl _).drew)
  have hadd : ∀ w, (Op.stringOp .add ⟨(Lib.repeatL [a] k).toArray⟩ ⟨(Lib.repeatL [b] (1024 - k)).toArray⟩).run Tryd.prog w = .ok (.string pb) w := fun w => by
    rw [run_string_add_sum w _ _ (by rw [ba_len, ba_len, Lib.repeatL_length, Lib.repeatL_length]; simp; omega), ByteArray.mk_append_mk, HPB.out]
  clear HHI HLO
  go_region_with (first
    | (go_at_call_of 34 (Value.string ⟨#[a]⟩); refine (r1 _).mono ?_; rintro e w2 ⟨rfl, hgg2⟩; first | (with_reducible have hcv := conv_first b (gr_undrew hgg2)) | (with_reducible have hcv := conv_second b (gr_undrew hgg2)) | skip)
    | (go_at_call_of 34 (Value.string ⟨#[b]⟩); refine (r2 _).mono ?_; rintro e w3 ⟨rfl, hgg3⟩))
  all_goals
    go_wp2
    go_ret
    refine Ret.mk rfl ?_
    refine Gr.trans ?_ hgg3
    repeat (with_reducible first | refine Gr.drew ?_ | refine Gr.alloc ?_ _)
    refine Gr.trans ?_ hgg2
    repeat (with_reducible first | refine Gr.drew ?_ | refine Gr.alloc ?_ _)
    exact Gr.refl _
end Go.Proofs.YtcdoeninajpbmaaDoor
