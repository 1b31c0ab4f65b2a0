/-
  The contract of written: a page that was torn.
-/
import Derived.Test.YthenhglpljdhfaaDoorTearK
namespace Go.Proofs.YthenhglpljdhfaaDoor
open Go Go.RowKit

theorem rep_take (c : UInt8) (a b : Nat) : (Lib.repeatL [c] (a + b)).take a = Lib.repeatL [c] a := by
  rw [Lib.repeatL_add, List.take_left' (by rw [Lib.repeatL_length]; simp)]
theorem rep_drop (c : UInt8) (a b : Nat) : (Lib.repeatL [c] (a + b)).drop a = Lib.repeatL [c] b := by
  rw [Lib.repeatL_add, List.drop_left' (by rw [Lib.repeatL_length]; simp)]
set_option maxRecDepth 100000 in
set_option maxHeartbeats 1600000 in
theorem written_t (w : World) (he : ErrTypeAt w) : Calls Tryd.prog 31 #[] w (Ret w (.bool true)) := by
  have HE := Lib.hid he
  clear he
  go_enter Tryd.func31, Tryd.ntmps31
  go_wp2_with fail
  have hgd : Gr w (w.alloc (.cells Tryd.zeroCells54 54)) := (Gr.refl w).alloc _
  have hd0 := disk_new w
  generalize (w.alloc (.cells Tryd.zeroCells54 54)) = W1 at *
  have hwB : w.heap.size ≤ w.heap.size := Nat.le_refl _
  generalize hB : w.heap.size = B at hd0 ⊢
  refine (cut_d B _ false 0 0 0 2 W1 hd0).mono ?_
  rintro e w2 ⟨rfl, hd2, hgr2⟩
  have gx2 := (GrX.of_grown (S := fun i => i = B) hgr2 rfl).gr hgd (fun i hi => by rw [hi, hB]; exact Nat.le_refl _)
  have HD2 := Lib.hid hd2
  clear hd2 hgr2
  go_wp2_with fail
  refine (repeat_t ⟨#[120]⟩ 1024 _ (by omega) (show 1 ≤ 100000 by omega)).mono ?_
  rintro e w3 ⟨rfl, hg3⟩
  have HD3 := Lib.hid (HD2.out.gr hg3)
  have hgA := gx2.trans hg3
  have hxs : (⟨(Lib.repeatL [120] 1024).toArray⟩ : ByteArray).size = 1024 := by show (List.toArray _).size = 1024; rw [List.size_toArray, Lib.repeatL_length]; rfl
  have hdt : (⟨(Lib.repeatL [120] 1024).toArray⟩ : ByteArray).data.toList = Lib.repeatL [120] 1024 := by simp
  have hxx : (⟨(Lib.repeatL (⟨#[120]⟩ : ByteArray).data.toList 1024).toArray⟩ : ByteArray) = ⟨(Lib.repeatL [120] 1024).toArray⟩ := rfl
  rw [hxx]
  have hts : tearS ⟨(Lib.repeatL [120] 1024).toArray⟩ zerosB 2 = ⟨(Lib.repeatL [120] 2 ++ Lib.repeatL [0] 1022).toArray⟩ := by
    unfold tearS tearB
    have hz : zerosB.data.toList = Lib.repeatL [0] 1024 := by unfold zerosB; simp
    rw [hdt, hz, show (1024 : Nat) = 2 + 1022 from rfl, rep_take, rep_drop]
  have HTS := Lib.hid hts
  clear hts hdt hxx
  have hxs' := Lib.hid hxs
  clear hxs
  generalize (⟨(Lib.repeatL [120] 1024).toArray⟩ : ByteArray) = xp at *
  go_wp2_with fail
  have hwo := write_off B (fun _ => ⟨#[]⟩) (decide ((0 : Int) ≤ 0)) (max 0 0) 2 3 (by omega) xp hxs'.out rfl (by rw [pgGet_new]; exact zerosB_size) w3 HD3.out
  refine hwo.mono ?_
  rintro e w4 ⟨rfl, hd4, hgr4⟩
  have hgB := (GrX.of_grown (S := fun i => i = B) hgr4 rfl).gr hgA (fun i hi => by rw [hi, hB]; exact Nat.le_refl _)
  have HD4 := Lib.hid hd4
  clear hd4 hgr4 hwo
  have hts2 : (tearS xp zerosB 2).size = 1024 := tearS_size hxs'.out zerosB_size (by omega)
  have hpv : pgGet (pgPut (fun _ => ⟨#[]⟩) 3 (tearS xp (pgGet (fun _ => ⟨#[]⟩) 3) (clampT 2))) 3 = ⟨(Lib.repeatL [120] 2 ++ Lib.repeatL [0] 1022).toArray⟩ := by
    rw [pgGet_new, show clampT 2 = 2 from rfl, pgGet_put hts2, if_pos rfl]
    exact HTS.out
  have hrd := read_d B _ _ _ _ 3 (by omega) w4 HD4.out
  rw [hpv] at hrd
  clear hpv hts2
  go_wp2_with fail
  refine hrd.mono ?_
  rintro e w5 ⟨rfl, hg5⟩
  have hgC := hgB.trans hg5
  clear hrd
  have hadd : ∀ w, (Op.stringOp .add ⟨#[120, 120]⟩ ⟨(Lib.repeatL [0] 1022).toArray⟩).run Tryd.prog w = .ok (.string ⟨(Lib.repeatL [120] 2 ++ Lib.repeatL [0] 1022).toArray⟩) w := fun w => by
    rw [run_string_add_sum w _ _ (by show 2 + (List.toArray _).size ≤ _; rw [List.size_toArray, Lib.repeatL_length]; simp)]
    rfl
  have hrz : ∀ w, Calls Tryd.prog 62 #[.string ⟨#[0]⟩, .int .i64 1022] w (Ret w (.string ⟨(Lib.repeatL [0] 1022).toArray⟩)) := fun w => repeat_t ⟨#[0]⟩ 1022 w (by omega) (show 1 ≤ 100000 by omega)
  generalize (⟨(Lib.repeatL [120] 2 ++ Lib.repeatL [0] 1022).toArray⟩ : ByteArray) = pq at *
  generalize (⟨(Lib.repeatL [0] 1022).toArray⟩ : ByteArray) = pz at *
  go_wp2_with fail
  refine (tell_t _ 14 (-1) _ (HE.out.gr hgC) (.inr (.inl ⟨rfl, rfl⟩))).mono ?_
  rintro e w6 ⟨rfl, hg6⟩
  have hgD := hgC.trans hg6
  go_wp2_with fail
  refine (hrz _).mono ?_
  rintro e w7 ⟨rfl, hg7⟩
  go_wp2_with fail
  go_ret
  exact Ret.mk rfl (hgD.trans hg7)
end Go.Proofs.YthenhglpljdhfaaDoor
