/-
  The walk of the law DiskPlays: it returns true.
-/
import Derived.Test.YthenhglpljdhfaaDoorDiskB
import Derived.Test.YthenhglpljdhfaaDoorPostLaw
import Derived.Test.YthenhglpljdhfaaDoorPage
import Derived.Deep.RegionHeld3
namespace Go.Proofs.YthenhglpljdhfaaDoor
open Go Go.RowKit

/-- What is to be written: what, where, which. -/
structure GWrite where
  what : Int
  at_ : Int
  n : Int
def WritesAt (w : World) (b off : Nat) (xs : List GWrite) : Prop :=
  ∀ i (h : i < xs.length), w.cell? ⟨b, off + i * 3, none⟩ = some (.int .i64 xs[i].what) ∧ w.cell? ⟨b, off + i * 3 + 1, none⟩ = some (.int .i64 xs[i].at_) ∧ w.cell? ⟨b, off + i * 3 + 2, none⟩ = some (.int .i64 xs[i].n)
theorem WritesAt.gr {w w' : World} {b off : Nat} {xs : List GWrite} (h : WritesAt w b off xs) (g : Gr w w') : WritesAt w' b off xs :=
  fun i hi => ⟨g.keeps (h i hi).1, g.keeps (h i hi).2.1, g.keeps (h i hi).2.2⟩
def I64 (n : Int) : Prop := -9223372036854775808 ≤ n ∧ n ≤ 9223372036854775807

set_option maxRecDepth 100000 in
set_option maxHeartbeats 4000000 in
theorem diskPlays_walk (xs : List GWrite) (b off c : Nat) (ao : Option Addr) (hao : 0 < xs.length → ao = some ⟨b, off, none⟩) (hl : xs.length ≤ 9223372036854775807) (q : Int) (hq : I64 q)
    (hr : ∀ i (h : i < xs.length), I64 xs[i].at_ ∧ I64 xs[i].n) (w : World) (hc : WritesAt w b off xs) (he : ErrTypeAt w) :
    Calls Tryd.prog 7 #[.slice ao xs.length c, .int .i64 q] w (Ret w (.bool true)) := by
  have HE := Lib.hid he
  have HC := Lib.hid hc
  have HA := Lib.hid hao
  have HR := Lib.hid hr
  have HQ := Lib.hid hq
  clear hc hao he hr hq
  by_cases h40 : xs.length ≤ 40
  · have g1 : decide ((40 : Int) < (xs.length : Int)) = false := by simp; omega
    go_enter Tryd.func7, Tryd.ntmps7
    go_wp2_with fail
    have hgd : Gr w (w.alloc (.cells Tryd.zeroCells54 54)) := (Gr.refl w).alloc _
    have hd0 := disk_new w
    have hBl : w.heap.size < (w.alloc (.cells Tryd.zeroCells54 54)).heap.size := by simp
    generalize (w.alloc (.cells Tryd.zeroCells54 54)) = W1 at *
    have HB0 := Lib.hid (Nat.le_refl w.heap.size)
    generalize hB : w.heap.size = B at hd0 hBl HB0 ⊢
    have HBB := Lib.hid hB
    refine (newDisk_r W1).mono ?_
    rintro e W2 ⟨R, M, rfl, hr0, hR, hM, hg2⟩
    have HD0 := Lib.hid (hd0.gr hg2)
    have HR0 := Lib.hid hr0
    have hgW := hgd.trans hg2
    clear hd0 hr0
    have hBR : B ≠ R := by omega
    have hBM : B ≠ M := by omega
    have hwB : w.heap.size ≤ B := Nat.le_of_eq HBB.out
    have hwR : w.heap.size ≤ R := by have := hgd.size; omega
    have hwM : w.heap.size ≤ M := by have := hgd.size; omega
    clear hgd hg2 hR hM hBl HB0 hB
    go_wp2_with fail
    go_loopw [7] (fun i w' => ∃ (j : Nat) (pg : Nat → ByteArray) (cut : Bool) (left torn : Int) (F : Int → Option ByteArray) (rleft rtorn : Int) (m : Nat), j ≤ xs.length ∧ i = .int .i64 j ∧ Gr w w' ∧ DiskAt w' B pg cut left torn ∧ RefAt w' R M m F rleft rtorn ∧
      DRel pg cut left torn F rleft rtorn ∧ m ≤ j ∧ -(j : Int) ≤ left ∧ left ≤ 9223372036854775807) (fun i _ => xs.length - (intOf i).toNat)
    case atStart => exact ⟨0, _, _, _, _, _, _, _, 0, Nat.zero_le _, rfl, hgW, HD0.out, HR0.out, drel_new, Nat.le_refl _, by omega, by omega⟩
    case round =>
      obtain ⟨j, pg, cut, left, torn, F, rleft, rtorn, m, hj, rfl, hg, hd, hrf, hrel2, hmj, hl1, hl2⟩ := hrel
      have HD := Lib.hid hd
      have HRF := Lib.hid hrf
      have HREL := Lib.hid hrel2
      clear hd hrf hrel2
      by_cases hlt : j < xs.length
      · obtain rfl := HA.out (by omega)
        obtain ⟨c0, c1, c2⟩ := HC.out.gr hg j hlt
        obtain ⟨hk64, hn64⟩ := HR.out j hlt
        generalize hx : xs[j] = x at *
        obtain ⟨x1, k, n⟩ := x
        simp only at c0 c1 c2 hk64 hn64
        have hk6 := hk64
        unfold I64 at hk6
        have hgx : Gr wr (wr.alloc (.cells #[.int .i64 x1, .int .i64 k, .int .i64 n] 66)) := (Gr.refl wr).alloc _
        have y0 : (wr.alloc (.cells #[.int .i64 x1, .int .i64 k, .int .i64 n] 66)).cell? ⟨wr.heap.size, 0, none⟩ = some (.int .i64 x1) := by rw [World.cell?_alloc_new]; rfl
        have y1 : (wr.alloc (.cells #[.int .i64 x1, .int .i64 k, .int .i64 n] 66)).cell? ⟨wr.heap.size, 1, none⟩ = some (.int .i64 k) := by rw [World.cell?_alloc_new]; rfl
        have y2 : (wr.alloc (.cells #[.int .i64 x1, .int .i64 k, .int .i64 n] 66)).cell? ⟨wr.heap.size, 2, none⟩ = some (.int .i64 n) := by rw [World.cell?_alloc_new]; rfl
        have hxB : wr.heap.size ≠ B := by have := lt_of_cell HD.out.2.1; omega
        have hxR : wr.heap.size ≠ R := by have := lt_of_cell HRF.out.1; omega
        have hxM : wr.heap.size ≠ M := by have := HRF.out.2.2.2.2.1.lt; omega
        have HDX := Lib.hid (HD.out.gr hgx)
        have HRX := Lib.hid (HRF.out.gr hgx)
        by_cases hw0 : x1 = 0
        · have hw0' : (x1 == 0) = true := by simpa using hw0
          clear hw0
          obtain ⟨err, nn, pg', left', torn', F', rleft', rtorn', m', hdw, hrw, herr, hrel', hm', hlo', hhi'⟩ := both_write HREL.out B R M m (by omega) k (pageB n) (pageB_size n) (by omega)
          have HDW := Lib.hid hdw
          have HRW := Lib.hid hrw
          have HERR := Lib.hid herr
          have HREL' := Lib.hid hrel'
          clear hdw hrw herr hrel'
          go_wp2_with fail
          have hdr : Gr (wr.alloc (.cells #[.int .i64 x1, .int .i64 k, .int .i64 n] 66)) (wr.alloc (.cells #[.int .i64 x1, .int .i64 k, .int .i64 n] 66)).drew := (Gr.refl _).drew
          have HDc := Lib.hid (HDX.out.gr hdr)
          have HRc := Lib.hid (HRX.out.gr hdr)
          have Gc := Lib.hid ((hg.trans hgx).trans hdr)
          have Y1 := hdr.keeps y1
          have Y2 := hdr.keeps y2
          go_region_held3 (fun w' => w'.cell? ⟨wr.heap.size, 1, none⟩ = some (.int .i64 k) ∧ w'.cell? ⟨wr.heap.size, 2, none⟩ = some (.int .i64 n)) (first | exact ⟨Y1, Y2⟩ | exact ⟨y1, y2⟩ | (refine ⟨?_, ?_⟩ <;> assumption)) (first
            | (go_at_call 39; refine (page_l n hn64 _).mono ?_; rintro e w3 ⟨rfl, hgp⟩; have Y1 := hgp.keeps Y1; have Y2 := hgp.keeps Y2; have HDc := Lib.hid (HDc.out.gr hgp); have HRc := Lib.hid (HRc.out.gr hgp); have Gc := Lib.hid (Gc.out.trans hgp); clear hgp)
            | (go_at_call 35; refine (HDW.out _ HDc.out).mono ?_; rintro e w4 ⟨rfl, hd4, hgr4⟩; have gx4 := GrX.of_grown (S := fun i => i = B) hgr4 rfl; have Y1 := gx4.keeps hxB Y1; have Y2 := gx4.keeps hxB Y2; have HDc := Lib.hid hd4; have HRc := Lib.hid (HRc.out.keepX gx4 (fun h => hBR h.symm) (fun h => hBM h.symm)); have Gc := Lib.hid (gx4.gr Gc.out (fun i hi => by rw [hi]; exact hwB)); clear hd4 hgr4 gx4)
            | (go_at_call 40; refine (HRW.out _ HRc.out).mono ?_; rintro e w5 ⟨rfl, hr5, gx5⟩; have Y1 := gx5.keeps (fun h => h.elim hxR hxM) Y1; have Y2 := gx5.keeps (fun h => h.elim hxR hxM) Y2; have HRc := Lib.hid hr5; have HDc := Lib.hid (HDc.out.keepX gx5 (fun h => h.elim hBR hBM)); have Gc := Lib.hid (gx5.gr Gc.out (fun i hi => by rcases hi with hi | hi <;> rw [hi] <;> assumption)); clear hr5 gx5)
            | (go_at_call 22; refine (bare_true err nn _ (HE.out.gr Gc.out) (HERR.out _)).mono ?_; rintro e w6 ⟨rfl, hgb⟩; have Y1 := hgb.keeps Y1; have Y2 := hgb.keeps Y2; have HDc := Lib.hid (HDc.out.gr hgb); have HRc := Lib.hid (HRc.out.gr hgb); have Gc := Lib.hid (Gc.out.trans hgb); clear hgb))
          have HDC := HDc
          have HRC := HRc
          have HLC := HREL'
          have hgc := Gc.out
          have y1 := Y1
          clear Y1 Y2 HDc HRc Gc
          go_wp2_with fail
          have hon : ∀ w, DiskAt w B pg' cut left' torn' → Calls Tryd.prog 37 #[.pointer (some ⟨B, 0, none⟩)] w (Ret w (.bool (rleft' != 0))) := fun w h => by
            have := on_d B pg' cut left' torn' w h
            rw [HLC.out.on] at this
            exact this
          rcases (show k < 0 ∨ 4001 ≤ k ∨ (0 ≤ k ∧ k < 4001) by omega) with hneg | hbig | hkr
          · refine (read_d_bad B k (.inl hneg) _).mono ?_
            rintro e w6 ⟨rfl, hg6⟩
            have hg16 := hgc.trans hg6
            have HD6 := Lib.hid (HDC.out.gr hg6)
            have HR6 := Lib.hid (HRC.out.gr hg6)
            have y16 := hg6.keeps y1
            have r16 := HR6.out.2.1
            have f1 := fun d os => cell_regrown y16 d os
            have f2 := fun d os => cell_regrown r16 d os
            have hth : decide (0 ≤ k) = false := by simp; omega
            go_wp2_with fail
            all_goals first | omega | skip
            clear y16 r16
            refine wp_region_quiet_below (by kernel_rfl) (by kernel_rfl) ?_
            repeat (go_big_quiet_step (first | (go_at_call 37; exact Ret.regrown (hon _ (HD6.out.gr (gr_regrown ⟨⟨_, _⟩, rfl⟩)))) | (go_at_call 42; exact Ret.regrown (get_r R M m' F' rleft' rtorn' k (by omega) _ (HR6.out.gr (gr_regrown ⟨⟨_, _⟩, rfl⟩))))))
            refine wpQuiet_nil ?_
            intro w7 hw7
            have hg7 := gr_regrown hw7
            clear hw7 f1 f2
            go_wp2_with fail
            exact ⟨⟨j + 1, pg', cut, left', torn', F', rleft', rtorn', m', by omega, by go_num, hg16.trans hg7, HD6.out.gr hg7, HR6.out.gr hg7, HLC.out, by omega, by omega, by omega⟩, by simp [intOf]; omega⟩
          · refine (read_d_bad B k (.inr hbig) _).mono ?_
            rintro e w6 ⟨rfl, hg6⟩
            have hg16 := hgc.trans hg6
            have HD6 := Lib.hid (HDC.out.gr hg6)
            have HR6 := Lib.hid (HRC.out.gr hg6)
            have y16 := hg6.keeps y1
            have r16 := HR6.out.2.1
            have f1 := fun d os => cell_regrown y16 d os
            have f2 := fun d os => cell_regrown r16 d os
            have hth : decide (0 ≤ k) = true := by simp; omega
            have hth2 : decide (k < 4001) = false := by simp; omega
            go_wp2_with fail
            all_goals first | omega | skip
            clear y16 r16
            refine wp_region_quiet_below (by kernel_rfl) (by kernel_rfl) ?_
            repeat (go_big_quiet_step (first | (go_at_call 37; exact Ret.regrown (hon _ (HD6.out.gr (gr_regrown ⟨⟨_, _⟩, rfl⟩)))) | (go_at_call 42; exact Ret.regrown (get_r R M m' F' rleft' rtorn' k (by omega) _ (HR6.out.gr (gr_regrown ⟨⟨_, _⟩, rfl⟩))))))
            refine wpQuiet_nil ?_
            intro w7 hw7
            have hg7 := gr_regrown hw7
            clear hw7 f1 f2
            go_wp2_with fail
            exact ⟨⟨j + 1, pg', cut, left', torn', F', rleft', rtorn', m', by omega, by go_num, hg16.trans hg7, HD6.out.gr hg7, HR6.out.gr hg7, HLC.out, by omega, by omega, by omega⟩, by simp [intOf]; omega⟩
          · obtain ⟨kk, rfl⟩ := Int.eq_ofNat_of_zero_le (show 0 ≤ k by omega)
            have hgt : ∀ w, RefAt w R M m' F' rleft' rtorn' → Calls Tryd.prog 42 #[.pointer (some ⟨R, 0, none⟩), .int .i64 (kk : Int)] w (Ret w (.string (pgGet pg' kk))) := fun w h => by
              have := get_r R M m' F' rleft' rtorn' (kk : Int) (by omega) w h
              rw [← HLC.out.eq kk (by omega)] at this
              exact this
            refine (read_d B pg' cut left' torn' kk (by omega) _ HDC.out).mono ?_
            rintro e w6 ⟨rfl, hg6⟩
            have hg16 := hgc.trans hg6
            have HD6 := Lib.hid (HDC.out.gr hg6)
            have HR6 := Lib.hid (HRC.out.gr hg6)
            have y16 := hg6.keeps y1
            have r16 := HR6.out.2.1
            have f1 := fun d os => cell_regrown y16 d os
            have f2 := fun d os => cell_regrown r16 d os
            have hth : decide (0 ≤ (kk : Int)) = true := by simp
            have hth2 : decide ((kk : Int) < 4001) = true := by simp; omega
            go_wp2_with fail
            all_goals first | omega | skip
            clear y16 r16
            refine wp_region_quiet_below (by kernel_rfl) (by kernel_rfl) ?_
            repeat (go_big_quiet_step (first | (go_at_call 37; exact Ret.regrown (hon _ (HD6.out.gr (gr_regrown ⟨⟨_, _⟩, rfl⟩)))) | (go_at_call 42; exact Ret.regrown (hgt _ (HR6.out.gr (gr_regrown ⟨⟨_, _⟩, rfl⟩))))))
            refine wpQuiet_nil ?_
            intro w7 hw7
            have hg7 := gr_regrown hw7
            clear hw7 f1 f2
            go_wp2_with fail
            exact ⟨⟨j + 1, pg', cut, left', torn', F', rleft', rtorn', m', by omega, by go_num, hg16.trans hg7, HD6.out.gr hg7, HR6.out.gr hg7, HLC.out, by omega, by omega, by omega⟩, by simp [intOf]; omega⟩
        · have hw0' : (x1 == 0) = false := by simpa using hw0
          by_cases hw1 : x1 = 1
          · have hw1' : (x1 == 1) = true := by simpa using hw1
            clear hw0 hw1
            go_wp2_with fail
            refine (cut_d B pg cut left torn k n _ HDX.out).mono ?_
            rintro e w3 ⟨rfl, hd3, hgr3⟩
            have gx3 := GrX.of_grown (S := fun i => i = B) hgr3 rfl
            have HR3 := Lib.hid (HRX.out.keepX gx3 (fun h => hBR h.symm) (fun h => hBM h.symm))
            have y0 := gx3.keeps hxB y0
            have y1 := gx3.keeps hxB y1
            have y2 := gx3.keeps hxB y2
            have HD3 := Lib.hid hd3
            have hg3 := gx3.gr (hg.trans hgx) (fun i hi => by rw [hi]; exact hwB)
            clear hd3 hgr3 gx3
            go_wp2_with fail
            refine (cutAt_r R M m F rleft rtorn k n _ HR3.out).mono ?_
            rintro e w4 ⟨rfl, hr4, gx4⟩
            have hd4 := HD3.out.keepX gx4 (fun h => h.elim hBR hBM)
            have y1 := gx4.keeps (fun h => h.elim hxR hxM) y1
            have hgc := gx4.gr hg3 (fun i hi => by rcases hi with hi | hi <;> rw [hi] <;> assumption)
            have hrel2 := HREL.out.cut k n
            have hlb : 0 ≤ max k 0 ∧ max k 0 ≤ 9223372036854775807 := by omega
            clear gx4 hg3
            generalize decide (0 ≤ k) = cut2 at hd4 hrel2
            generalize max k 0 = left2 at hd4 hrel2 hlb
            generalize max k (-1) = rleft2 at hr4 hrel2
            generalize min (max n 0) 1024 = rtorn2 at hr4 hrel2
            have HDC := Lib.hid hd4
            have HRC := Lib.hid hr4
            have HLC := Lib.hid hrel2
            clear hd4 hr4 hrel2
            go_wp2_with fail
            have hon : ∀ w, DiskAt w B pg cut2 left2 n → Calls Tryd.prog 37 #[.pointer (some ⟨B, 0, none⟩)] w (Ret w (.bool (rleft2 != 0))) := fun w h => by
              have := on_d B pg cut2 left2 n w h
              rw [HLC.out.on] at this
              exact this
            rcases (show k < 0 ∨ 4001 ≤ k ∨ (0 ≤ k ∧ k < 4001) by omega) with hneg | hbig | hkr
            · refine (read_d_bad B k (.inl hneg) _).mono ?_
              rintro e w6 ⟨rfl, hg6⟩
              have hg16 := hgc.trans hg6
              have HD6 := Lib.hid (HDC.out.gr hg6)
              have HR6 := Lib.hid (HRC.out.gr hg6)
              have y16 := hg6.keeps y1
              have r16 := HR6.out.2.1
              have f1 := fun d os => cell_regrown y16 d os
              have f2 := fun d os => cell_regrown r16 d os
              have hth : decide (0 ≤ k) = false := by simp; omega
              go_wp2_with fail
              all_goals first | omega | skip
              clear y16 r16
              refine wp_region_quiet_below (by kernel_rfl) (by kernel_rfl) ?_
              repeat (go_big_quiet_step (first | (go_at_call 37; exact Ret.regrown (hon _ (HD6.out.gr (gr_regrown ⟨⟨_, _⟩, rfl⟩)))) | (go_at_call 42; exact Ret.regrown (get_r R M m F rleft2 rtorn2 k (by omega) _ (HR6.out.gr (gr_regrown ⟨⟨_, _⟩, rfl⟩))))))
              refine wpQuiet_nil ?_
              intro w7 hw7
              have hg7 := gr_regrown hw7
              clear hw7 f1 f2
              go_wp2_with fail
              exact ⟨⟨j + 1, pg, cut2, left2, n, F, rleft2, rtorn2, m, by omega, by go_num, hg16.trans hg7, HD6.out.gr hg7, HR6.out.gr hg7, HLC.out, by omega, by omega, by omega⟩, by simp [intOf]; omega⟩
            · refine (read_d_bad B k (.inr hbig) _).mono ?_
              rintro e w6 ⟨rfl, hg6⟩
              have hg16 := hgc.trans hg6
              have HD6 := Lib.hid (HDC.out.gr hg6)
              have HR6 := Lib.hid (HRC.out.gr hg6)
              have y16 := hg6.keeps y1
              have r16 := HR6.out.2.1
              have f1 := fun d os => cell_regrown y16 d os
              have f2 := fun d os => cell_regrown r16 d os
              have hth : decide (0 ≤ k) = true := by simp; omega
              have hth2 : decide (k < 4001) = false := by simp; omega
              go_wp2_with fail
              all_goals first | omega | skip
              clear y16 r16
              refine wp_region_quiet_below (by kernel_rfl) (by kernel_rfl) ?_
              repeat (go_big_quiet_step (first | (go_at_call 37; exact Ret.regrown (hon _ (HD6.out.gr (gr_regrown ⟨⟨_, _⟩, rfl⟩)))) | (go_at_call 42; exact Ret.regrown (get_r R M m F rleft2 rtorn2 k (by omega) _ (HR6.out.gr (gr_regrown ⟨⟨_, _⟩, rfl⟩))))))
              refine wpQuiet_nil ?_
              intro w7 hw7
              have hg7 := gr_regrown hw7
              clear hw7 f1 f2
              go_wp2_with fail
              exact ⟨⟨j + 1, pg, cut2, left2, n, F, rleft2, rtorn2, m, by omega, by go_num, hg16.trans hg7, HD6.out.gr hg7, HR6.out.gr hg7, HLC.out, by omega, by omega, by omega⟩, by simp [intOf]; omega⟩
            · obtain ⟨kk, rfl⟩ := Int.eq_ofNat_of_zero_le (show 0 ≤ k by omega)
              have hgt : ∀ w, RefAt w R M m F rleft2 rtorn2 → Calls Tryd.prog 42 #[.pointer (some ⟨R, 0, none⟩), .int .i64 (kk : Int)] w (Ret w (.string (pgGet pg kk))) := fun w h => by
                have := get_r R M m F rleft2 rtorn2 (kk : Int) (by omega) w h
                rw [← HLC.out.eq kk (by omega)] at this
                exact this
              refine (read_d B pg cut2 left2 n kk (by omega) _ HDC.out).mono ?_
              rintro e w6 ⟨rfl, hg6⟩
              have hg16 := hgc.trans hg6
              have HD6 := Lib.hid (HDC.out.gr hg6)
              have HR6 := Lib.hid (HRC.out.gr hg6)
              have y16 := hg6.keeps y1
              have r16 := HR6.out.2.1
              have f1 := fun d os => cell_regrown y16 d os
              have f2 := fun d os => cell_regrown r16 d os
              have hth : decide (0 ≤ (kk : Int)) = true := by simp
              have hth2 : decide ((kk : Int) < 4001) = true := by simp; omega
              go_wp2_with fail
              all_goals first | omega | skip
              clear y16 r16
              refine wp_region_quiet_below (by kernel_rfl) (by kernel_rfl) ?_
              repeat (go_big_quiet_step (first | (go_at_call 37; exact Ret.regrown (hon _ (HD6.out.gr (gr_regrown ⟨⟨_, _⟩, rfl⟩)))) | (go_at_call 42; exact Ret.regrown (hgt _ (HR6.out.gr (gr_regrown ⟨⟨_, _⟩, rfl⟩))))))
              refine wpQuiet_nil ?_
              intro w7 hw7
              have hg7 := gr_regrown hw7
              clear hw7 f1 f2
              go_wp2_with fail
              exact ⟨⟨j + 1, pg, cut2, left2, n, F, rleft2, rtorn2, m, by omega, by go_num, hg16.trans hg7, HD6.out.gr hg7, HR6.out.gr hg7, HLC.out, by omega, by omega, by omega⟩, by simp [intOf]; omega⟩
          · have hw1' : (x1 == 1) = false := by simpa using hw1
            go_wp2_with fail
            have HDC := Lib.hid HDX.out
            have HRC := Lib.hid HRX.out
            have HLC := Lib.hid HREL.out
            have hgc := hg.trans hgx
            have hon : ∀ w, DiskAt w B pg cut left torn → Calls Tryd.prog 37 #[.pointer (some ⟨B, 0, none⟩)] w (Ret w (.bool (rleft != 0))) := fun w h => by
              have := on_d B pg cut left torn w h
              rw [HLC.out.on] at this
              exact this
            rcases (show k < 0 ∨ 4001 ≤ k ∨ (0 ≤ k ∧ k < 4001) by omega) with hneg | hbig | hkr
            · refine (read_d_bad B k (.inl hneg) _).mono ?_
              rintro e w6 ⟨rfl, hg6⟩
              have hg16 := hgc.trans hg6
              have HD6 := Lib.hid (HDC.out.gr hg6)
              have HR6 := Lib.hid (HRC.out.gr hg6)
              have y16 := hg6.keeps y1
              have r16 := HR6.out.2.1
              have f1 := fun d os => cell_regrown y16 d os
              have f2 := fun d os => cell_regrown r16 d os
              have hth : decide (0 ≤ k) = false := by simp; omega
              go_wp2_with fail
              all_goals first | omega | skip
              clear y16 r16
              refine wp_region_quiet_below (by kernel_rfl) (by kernel_rfl) ?_
              repeat (go_big_quiet_step (first | (go_at_call 37; exact Ret.regrown (hon _ (HD6.out.gr (gr_regrown ⟨⟨_, _⟩, rfl⟩)))) | (go_at_call 42; exact Ret.regrown (get_r R M m F rleft rtorn k (by omega) _ (HR6.out.gr (gr_regrown ⟨⟨_, _⟩, rfl⟩))))))
              refine wpQuiet_nil ?_
              intro w7 hw7
              have hg7 := gr_regrown hw7
              clear hw7 f1 f2
              go_wp2_with fail
              exact ⟨⟨j + 1, pg, cut, left, torn, F, rleft, rtorn, m, by omega, by go_num, hg16.trans hg7, HD6.out.gr hg7, HR6.out.gr hg7, HLC.out, by omega, by omega, by omega⟩, by simp [intOf]; omega⟩
            · refine (read_d_bad B k (.inr hbig) _).mono ?_
              rintro e w6 ⟨rfl, hg6⟩
              have hg16 := hgc.trans hg6
              have HD6 := Lib.hid (HDC.out.gr hg6)
              have HR6 := Lib.hid (HRC.out.gr hg6)
              have y16 := hg6.keeps y1
              have r16 := HR6.out.2.1
              have f1 := fun d os => cell_regrown y16 d os
              have f2 := fun d os => cell_regrown r16 d os
              have hth : decide (0 ≤ k) = true := by simp; omega
              have hth2 : decide (k < 4001) = false := by simp; omega
              go_wp2_with fail
              all_goals first | omega | skip
              clear y16 r16
              refine wp_region_quiet_below (by kernel_rfl) (by kernel_rfl) ?_
              repeat (go_big_quiet_step (first | (go_at_call 37; exact Ret.regrown (hon _ (HD6.out.gr (gr_regrown ⟨⟨_, _⟩, rfl⟩)))) | (go_at_call 42; exact Ret.regrown (get_r R M m F rleft rtorn k (by omega) _ (HR6.out.gr (gr_regrown ⟨⟨_, _⟩, rfl⟩))))))
              refine wpQuiet_nil ?_
              intro w7 hw7
              have hg7 := gr_regrown hw7
              clear hw7 f1 f2
              go_wp2_with fail
              exact ⟨⟨j + 1, pg, cut, left, torn, F, rleft, rtorn, m, by omega, by go_num, hg16.trans hg7, HD6.out.gr hg7, HR6.out.gr hg7, HLC.out, by omega, by omega, by omega⟩, by simp [intOf]; omega⟩
            · obtain ⟨kk, rfl⟩ := Int.eq_ofNat_of_zero_le (show 0 ≤ k by omega)
              have hgt : ∀ w, RefAt w R M m F rleft rtorn → Calls Tryd.prog 42 #[.pointer (some ⟨R, 0, none⟩), .int .i64 (kk : Int)] w (Ret w (.string (pgGet pg kk))) := fun w h => by
                have := get_r R M m F rleft rtorn (kk : Int) (by omega) w h
                rw [← HLC.out.eq kk (by omega)] at this
                exact this
              refine (read_d B pg cut left torn kk (by omega) _ HDC.out).mono ?_
              rintro e w6 ⟨rfl, hg6⟩
              have hg16 := hgc.trans hg6
              have HD6 := Lib.hid (HDC.out.gr hg6)
              have HR6 := Lib.hid (HRC.out.gr hg6)
              have y16 := hg6.keeps y1
              have r16 := HR6.out.2.1
              have f1 := fun d os => cell_regrown y16 d os
              have f2 := fun d os => cell_regrown r16 d os
              have hth : decide (0 ≤ (kk : Int)) = true := by simp
              have hth2 : decide ((kk : Int) < 4001) = true := by simp; omega
              go_wp2_with fail
              all_goals first | omega | skip
              clear y16 r16
              refine wp_region_quiet_below (by kernel_rfl) (by kernel_rfl) ?_
              repeat (go_big_quiet_step (first | (go_at_call 37; exact Ret.regrown (hon _ (HD6.out.gr (gr_regrown ⟨⟨_, _⟩, rfl⟩)))) | (go_at_call 42; exact Ret.regrown (hgt _ (HR6.out.gr (gr_regrown ⟨⟨_, _⟩, rfl⟩))))))
              refine wpQuiet_nil ?_
              intro w7 hw7
              have hg7 := gr_regrown hw7
              clear hw7 f1 f2
              go_wp2_with fail
              exact ⟨⟨j + 1, pg, cut, left, torn, F, rleft, rtorn, m, by omega, by go_num, hg16.trans hg7, HD6.out.gr hg7, HR6.out.gr hg7, HLC.out, by omega, by omega, by omega⟩, by simp [intOf]; omega⟩
      · have hq6 := HQ.out
        unfold I64 at hq6
        rcases (show q < 0 ∨ 4001 ≤ q ∨ (0 ≤ q ∧ q < 4001) by omega) with hneg | hbig | hin
        · go_wp2_with fail
          refine (read_d_bad B q (.inl hneg) _).mono ?_
          rintro e w6 ⟨rfl, hg6⟩
          have hg16 := hg.trans hg6
          go_wp2_with fail
          all_goals first | omega | skip
          refine (bare_true _ _ _ (HE.out.gr hg16) (.inr (.inl ⟨rfl, rfl⟩))).mono ?_
          rintro e w7 ⟨rfl, hg7⟩
          go_wp2_with fail
          go_ret
          exact Ret.mk rfl (hg16.trans hg7)
        · go_wp2_with fail
          refine (read_d_bad B q (.inr hbig) _).mono ?_
          rintro e w6 ⟨rfl, hg6⟩
          have hg16 := hg.trans hg6
          go_wp2_with fail
          all_goals first | omega | skip
          refine (bare_true _ _ _ (HE.out.gr hg16) (.inr (.inl ⟨rfl, rfl⟩))).mono ?_
          rintro e w7 ⟨rfl, hg7⟩
          go_wp2_with fail
          go_ret
          exact Ret.mk rfl (hg16.trans hg7)
        · obtain ⟨kk, rfl⟩ := Int.eq_ofNat_of_zero_le (show 0 ≤ q by omega)
          go_wp2_with fail
          refine (read_d B pg cut left torn kk (by omega) _ HD.out).mono ?_
          rintro e w6 ⟨rfl, hg6⟩
          have hg16 := hg.trans hg6
          have HD6 := Lib.hid (HD.out.gr hg6)
          have HR6 := Lib.hid (HRF.out.gr hg6)
          go_wp2_with fail
          all_goals first | omega | skip
          have hgt : ∀ w, RefAt w R M m F rleft rtorn → Calls Tryd.prog 42 #[.pointer (some ⟨R, 0, none⟩), .int .i64 (kk : Int)] w (Ret w (.string (pgGet pg kk))) := fun w h => by
            have := get_r R M m F rleft rtorn (kk : Int) (by omega) w h
            rw [← HREL.out.eq kk (by omega)] at this
            exact this
          refine (hgt _ HR6.out).mono ?_
          rintro e w7 ⟨rfl, hg7⟩
          have HD7 := Lib.hid (HD6.out.gr hg7)
          have hg17 := hg16.trans hg7
          go_wp2_with fail
          refine (write_len B pg cut left torn kk (by omega) ⟨#[120]⟩ (by decide) _ HD7.out).mono ?_
          rintro e w8 ⟨rfl, hg8⟩
          have hg18 := hg17.trans hg8
          go_wp2_with fail
          refine (bare_true _ _ _ (HE.out.gr hg18) (.inr (.inl ⟨rfl, rfl⟩))).mono ?_
          rintro e w9 ⟨rfl, hg9⟩
          go_wp2_with fail
          go_ret
          exact Ret.mk rfl (hg18.trans hg9)
  · go_enter Tryd.func7, Tryd.ntmps7
    go_wp2_with fail
    all_goals first | omega | skip
    go_ret
    exact Ret.mk rfl (Gr.refl _)
end Go.Proofs.YthenhglpljdhfaaDoor
