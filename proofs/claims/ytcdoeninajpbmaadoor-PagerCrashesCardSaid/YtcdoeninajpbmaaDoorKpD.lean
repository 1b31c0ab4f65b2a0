/-
  The contract of paged, of the laws on pagers: a page that was committed.
-/
import Derived.Test.YtcdoeninajpbmaaDoorKpC
import Derived.Test.YtcdoeninajpbmaaDoorPagJ
namespace Go.Proofs.YtcdoeninajpbmaaDoor
open Go Go.RowKit

theorem PgF.gr {PB DB M M' : Nat} {w0 w w' : World} (h : PgF PB DB M M' w w') (g0 : Gr w0 w) (h1 : w0.heap.size ≤ PB) (h2 : w0.heap.size ≤ DB) (h3 : w0.heap.size ≤ M) : Gr w0 w' ∧ w0.heap.size ≤ M' := by
  refine ⟨h.2.gr g0 fun k e => ?_, ?_⟩
  · rcases e with rfl | rfl | rfl <;> assumption
  · have := g0.size
    rcases h.1 with e | e <;> omega
theorem zero_disk : Tryd.zeroCells27 = Array.replicate 4001 (.string ⟨#[]⟩) ++ #[.bool false, .int .i64 0, .int .i64 0] := by kernel_rfl
/-- A disk that has just been made. -/
theorem disk_made (w : World) : DkAt (w.alloc (.cells Tryd.zeroCells27 27)) w.heap.size dk0 := by
  rw [zero_disk]
  refine ⟨fun k hk => ?_, ?_, ?_, ?_, fun o => by simp⟩
  · rw [World.cell?_alloc_new, Array.getElem?_append_left (by simpa using hk)]
    simp [hk, dk0]
  all_goals
    rw [World.cell?_alloc_new, Array.getElem?_append_right (by simp)]
    simp [dk0]
set_option maxRecDepth 100000 in
/-- An opening, where nothing is left to do. -/
theorem open_s (DB : Nat) (d : Dk) (sv : Head) (w : World) (hd : DkAt w DB d) (hc : Clean d sv) (hl : -890000 ≤ d.left ∧ d.left ≤ 1000000) :
    Calls Tryd.prog 5 #[.pointer (some ⟨DB, 0, none⟩)] w fun e w' => ∃ PB M, e = .returned (.tuple #[.pointer (some ⟨PB, 0, none⟩), .nilIface]) ∧ PgS w' PB DB M 0 (.new (headD d.pg)) (headD d.pg) 0 d ∧ w.heap.size ≤ PB ∧ w.heap.size ≤ M ∧ GrX (fun b => b = DB) w w' := by
  have hlt := hd.lt
  refine (open_g DB d w hd hc.whole hl).mono ?_
  rintro e w' ⟨h1, h2, h3⟩
  rw [hc.openE] at h1 h3
  rw [wrsD_nil] at h1 h3
  rw [if_pos rfl] at h3
  obtain ⟨PB, M, rfl, h4, h5, h6⟩ := h3
  exact ⟨PB, M, rfl, ⟨⟨0, Nat.le_refl _, h4⟩, h1, by omega, by omega⟩, h5, h6, h2⟩
theorem allocF_zero : allocF headZ = some 1 := allocF_first (by omega) (fun j hj => by
  have e : j = 0 := by omega
  rw [e]
  rfl) rfl
theorem allocZ : allocV (Ch.new headZ) = .tuple #[.int .i64 1, .nilIface] := by
  unfold allocV Ch.new
  rw [allocF_zero]
  rfl
def cZ1 : Ch := ⟨headZ.put 1 true, setF (fun _ => none) 1 (some zerosB)⟩
theorem allocZ1 : (Ch.new headZ).alloc = cZ1 := by
  unfold Ch.alloc Ch.new
  rw [allocF_zero]
  rfl
theorem useZ1 : inUse cZ1.h 1 = true := rfl
def cZ3 : Ch := ⟨cZ1.h.setRoot 2 1 9, setF cZ1.F 1 (some (kpageB 7))⟩
theorem writeZ : cZ1.write 1 (kpageB 7) = ⟨cZ1.h, setF cZ1.F 1 (some (kpageB 7))⟩ := if_pos rfl
theorem cZ3_fine : cZ3.fine := by
  have h1 : cZ1.fine := by rw [← allocZ1]; exact (Ch.new_fine headZ_fine).alloc_fine
  have h2 := h1.write_fine 1 (kpageB_size 7)
  rw [writeZ] at h2
  exact ⟨fine_set h2.head 2 (by omega) (by omega), h2.dirty⟩
theorem usedN_used {h g : Head} (e : h.used = g.used) : ∀ n, usedN h n = usedN g n
  | 0 => rfl
  | n + 1 => by rw [usedN, usedN, usedN_used e n, e]
theorem usedZ3 : usedN cZ3.h 2000 = 2 := by
  rw [usedN_used (h := cZ3.h) (g := headZ.put 1 true) rfl, usedN_put headZ 1 rfl 2000, usedN_zero 1999]
  rfl
set_option maxRecDepth 100000 in
set_option maxHeartbeats 4000000 in
theorem paged_k (w : World) : Calls Tryd.prog 4 #[] w (Ret w (.bool true)) := by
  go_enter Tryd.func4, Tryd.ntmps4
  go_wp2_with fail
  have hg0 : Gr w (w.alloc (.cells Tryd.zeroCells27 27)) := (Gr.refl w).alloc _
  have hd0 := disk_made w
  generalize (Tryd.zeroCells27) = Z at *
  have HG0 := Lib.hid hg0
  have HD0 := Lib.hid hd0
  clear hg0 hd0
  generalize hDB : w.heap.size = DB at *
  have HDB := Lib.hid hDB
  clear hDB
  refine (open_s DB dk0 headZ _ HD0.out clean0 (by decide)).mono ?_
  rintro e w1 ⟨PB, M, rfl, hs, hle1, hle2, hgx⟩
  rw [headD_zero] at hs
  have HB : Hid (w.heap.size ≤ PB ∧ w.heap.size ≤ DB ∧ w.heap.size ≤ M) := Lib.hid (by have := HG0.out.size; have := HDB.out; omega)
  have HS := Lib.hid hs
  have HG1 := Lib.hid (hgx.gr HG0.out (fun k e => by have e2 : k = DB := e; rw [e2]; exact HB.out.2.1))
  clear hs hle1 hle2 hgx
  go_wp2_with fail
  have hal := alloc_s HS.out (by omega)
  rw [allocZ, allocZ1] at hal
  refine hal.mono ?_
  rintro e w2 ⟨rfl, hs, hf⟩
  have HS2 := Lib.hid hs
  have HG2 := Lib.hid (hf.gr HG1.out HB.out.1 HB.out.2.1 HB.out.2.2).1
  clear hs hf hal
  go_wp2_with fail
  refine (page_k 7 (by omega) _).mono ?_
  rintro e w3 ⟨rfl, hg3⟩
  have HS3 := Lib.hid (HS2.out.gr hg3)
  have HG3 := Lib.hid (HG2.out.trans hg3)
  clear hg3
  go_wp2_with fail
  have hwr := write_s HS3.out (by omega) 1 (kpageB 7) (kpageB_size 7)
  rw [useZ1, writeZ] at hwr
  refine hwr.mono ?_
  rintro e w4 ⟨rfl, hs, hf⟩
  have HS4 := Lib.hid hs
  have HG4 := Lib.hid (hf.gr HG3.out HB.out.1 HB.out.2.1 HB.out.2.2).1
  clear hs hf hwr
  unfold rangeV
  go_wp2_with fail
  refine (setRoot_s HS4.out 2 1 9 (by omega) (by omega) (by omega)).mono ?_
  rintro e w5 ⟨rfl, hs, hf⟩
  have hs' : PgS w5 PB DB M (0 + 1 + 1) cZ3 headZ 0 dk0 := hs
  have HS5 := Lib.hid hs'
  have HG5 := Lib.hid (hf.gr HG4.out HB.out.1 HB.out.2.1 HB.out.2.2).1
  clear hs hs' hf
  go_wp2_with fail
  have hpw := wrsD_power (d := dk0) rfl (commitE cZ3.h cZ3.F)
  have hlen := commitE_len cZ3_fine.dirty cZ3.h
  have hcl := clean0.commit cZ3_fine hpw.1
  refine (commit_s HS5.out cZ3_fine.dirty clean0.whole (by decide) (by omega) hpw.1).mono ?_
  rintro e w6 ⟨rfl, M6, hs, hf⟩
  have hl6 : -890000 ≤ (wrsD dk0 (commitE cZ3.h cZ3.F)).2.left ∧ (wrsD dk0 (commitE cZ3.h cZ3.F)).2.left ≤ 1000000 := by
    rw [hpw.2.2]
    show _ ≤ (0 : Int) - _ ∧ (0 : Int) - _ ≤ _
    omega
  have HCL := Lib.hid hcl
  have HDK := Lib.hid hs.dk
  have HG6 := Lib.hid (hf.gr HG5.out HB.out.1 HB.out.2.1 HB.out.2.2).1
  clear hs hf hpw hlen hcl
  generalize (wrsD dk0 (commitE cZ3.h cZ3.F)).2 = d1 at *
  go_wp2_with fail
  refine (open_s DB d1 cZ3.h _ HDK.out HCL.out.1 hl6).mono ?_
  rintro e w7 ⟨PB7, M7, rfl, hs, hle1, hle2, hgx⟩
  have HS7 := Lib.hid hs
  have HG7 := Lib.hid (hgx.gr HG6.out (fun k e => by have e2 : k = DB := e; rw [e2]; exact HB.out.2.1))
  have HSM := Lib.hid HCL.out.1.head
  have hr1 := (HSM.out.2 2 (by omega)).1
  have hr2 := (HSM.out.2 2 (by omega)).2
  have hu := inUse_same HSM.out 1
  have hus := usedN_same HSM.out 2000 (Nat.le_refl _)
  have hp1 := HCL.out.2 1 (by omega) (by omega)
  rw [usedZ3] at hus
  have hp2 : pageNow d1.pg (fun _ => none) 1 = kpageB 7 := hp1
  have hrd := fun w' (g : Gr w7 w') => read_s (HS7.out.gr g) 1
  have hrt := fun w' (g : Gr w7 w') => root_s (HS7.out.gr g) 2 (by omega)
  have hud := fun w' (g : Gr w7 w') => used_s (HS7.out.gr g)
  unfold Ch.new at hrd hrt hud
  simp only at hrd hrt hud
  rw [hr1, hr2] at hrt
  rw [hus] at hud
  rw [hu, if_pos (show inUse cZ3.h 1 = true from rfl), show (1 : Int).toNat = 1 from rfl, hp2] at hrd
  have hrt' : ∀ w', Gr w7 w' → Calls Tryd.prog 18 #[.pointer (some ⟨PB7, 0, none⟩), .int .i64 2] w' (Ret w' (.tuple #[.int .i64 1, .int .i64 9, .nilIface])) := hrt
  have hud' : ∀ w', Gr w7 w' → Calls Tryd.prog 19 #[.pointer (some ⟨PB7, 0, none⟩)] w' (Ret w' (.int .i64 2)) := hud
  have hpg := fun w => page_k 7 (by omega) w
  clear hs hle1 hle2 hgx hr1 hr2 hu hus hp1 hp2 hrt hud
  generalize kpageB 7 = pb at *
  go_wp2_with fail
  refine (hrd _ (Gr.refl _)).mono ?_
  rintro e w8 ⟨rfl, hg8⟩
  go_wp2_with fail
  refine (hrt' _ hg8).mono ?_
  rintro e w9 ⟨rfl, hg9⟩
  have hg79 := hg8.trans hg9
  go_wp2_with fail
  refine (hpg _).mono ?_
  rintro e w10 ⟨rfl, hg10⟩
  have hg710 := hg79.trans hg10
  go_wp2_with fail
  refine (hud' _ hg710).mono ?_
  rintro e w11 ⟨rfl, hg11⟩
  go_wp2_with fail
  go_ret
  exact Ret.mk rfl (HG7.out.trans (hg710.trans hg11))
end Go.Proofs.YtcdoeninajpbmaaDoor
