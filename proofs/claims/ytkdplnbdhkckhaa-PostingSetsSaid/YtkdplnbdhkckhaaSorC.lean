/-
  sort.siftDown_func and sort.heapSort_func, the functions given being any that do as SortBy says. (Printed by gen_sor.py.)
-/
import Derived.Test.YtkdplnbdhkckhaaSorB
import Derived.Sort.WalkB2
namespace Go.Proofs.Ytkdplnbdhkckhaa
open Go Go.RowKit Go.Sort
section
variable {α : Type} [Inhabited α] {lt : α → α → Bool} {R : World → Array α → Prop} {B size g : Nat} {lb : Array Value} {sf : Nat} {sb : Array Value}
set_option maxHeartbeats 4000000 in
set_option maxRecDepth 100000 in
theorem siftDown_w (S : SortBy Try.prog lt R B size g lb sf sb) (lo hi first : Nat) (d : Array α) (w : World) (h : R w d) (hlo : lo ≤ hi) (hb : first + hi ≤ size) :
    Calls Try.prog 103 #[dataV g lb sf sb, .int .i64 lo, .int .i64 hi, .int .i64 first] w fun e w' => e = .returned (.tuple #[]) ∧ SoAt R B w (siftDown lt hi first lo d) w' := by
  obtain ⟨D, w1, hD, hw1, hbx, hDB, hR, hfin⟩ := sort_begin S h 98
  have eg := S.enter
  have HS := Lib.hid S
  have hlim := S.lim
  have HFIN := Lib.hid hfin
  have HBX := Lib.hid hbx
  have HR := Lib.hid hR
  clear S h hfin hbx hR
  unfold dataV
  go_enter Try.func103, Try.ntmps103
  go_wp2_with fail
  rw [← hw1, ← hD]
  clear hw1 hD
  go_loopg [8] (hi - lo) (fun kx s8 wr => ∃ (root : Nat) (dk : Array α), s8 = .int .i64 root ∧ root ≤ hi ∧ hi - root ≤ kx ∧ SoAt R B w1 dk wr ∧ Hid (siftDown lt hi first root dk = siftDown lt hi first lo d))
  case atStart => exact ⟨lo, d, rfl, hlo, Nat.le_refl _, SoAt.start HR.out, Lib.hid rfl⟩
  case round =>
    obtain ⟨root, dk, rfl, hr, hkx, hso, HE⟩ := hrel
    have HSO := Lib.hid hso
    clear hso
    obtain ⟨c0, c1⟩ := HBX.out.so HSO.out hDB
    by_cases h0 : hi ≤ 2 * root + 1
    · have h0z : decide ((hi : Int) ≤ 2 * (root : Int) + 1) = true := by simp; omega
      go_wp2_with fail
      go_end0
      refine ⟨rfl, HFIN.out _ _ ?_⟩
      rw [← HE.out, sd_end lt dk h0]
      exact HSO.out
    · have h0z : decide ((hi : Int) ≤ 2 * (root : Int) + 1) = false := by simp; omega
      by_cases h1 : 2 * root + 2 < hi
      · have h1z : decide (2 * (root : Int) + 1 + 1 < (hi : Int)) = true := by simp; omega
        cases hL : lt dk[first + (2 * root + 1)]! dk[first + (2 * root + 2)]! with
        | true =>
          have HL := Lib.hid hL
          clear hL
          cases hG : lt dk[first + root]! dk[first + (2 * root + 2)]! with
          | true =>
            have HG := Lib.hid hG
            clear hG
            go_wp2_with (first
              | (go_at_fn g; refine (HSO.out.lessI HS.out (first + (2 * root + 1)) (first + (2 * root + 2)) (by omega) (by omega) (by omega) (by omega)).mono ?_; rintro e w2 ⟨rfl, k1⟩
                 rw [HL.out]
                 obtain ⟨b0, b1⟩ := HBX.out.so k1 hDB
                 have k1 := Lib.hid k1)
              | (go_at_fn g; refine (k1.out.lessI HS.out (first + root) (first + (2 * root + 2)) (by omega) (by omega) (by omega) (by omega)).mono ?_; rintro e w3 ⟨rfl, k2⟩
                 rw [HG.out]
                 obtain ⟨d0, d1⟩ := HBX.out.so k2 hDB
                 obtain ⟨w4, hs, k3⟩ := k2.swapI HS.out ((first : Int) + (root : Int)) ((first : Int) + (2 * (root : Int) + 1 + 1)) (first + root) (first + (2 * root + 2)) (by omega) (by omega) (by omega) (by omega)
                 have K3 := Lib.hid k3
                 clear k2 k3))
            go_roundg (hi - (2 * root + 2))
            case measure => omega
            case rel => exact ⟨2 * root + 2, swp dk (first + root) (first + (2 * root + 2)), by go_num, by omega, Nat.le_refl _, K3.out, Lib.hid (by rw [← HE.out, sd_right_go lt dk h1 HL.out HG.out])⟩
          | false =>
            have HG := Lib.hid hG
            clear hG
            go_wp2_with (first
              | (go_at_fn g; refine (HSO.out.lessI HS.out (first + (2 * root + 1)) (first + (2 * root + 2)) (by omega) (by omega) (by omega) (by omega)).mono ?_; rintro e w2 ⟨rfl, k1⟩
                 rw [HL.out]
                 obtain ⟨b0, b1⟩ := HBX.out.so k1 hDB
                 have k1 := Lib.hid k1)
              | (go_at_fn g; refine (k1.out.lessI HS.out (first + root) (first + (2 * root + 2)) (by omega) (by omega) (by omega) (by omega)).mono ?_; rintro e w3 ⟨rfl, k2⟩
                 rw [HG.out]
                 have K2 := Lib.hid k2
                 clear k2))
            ((try simp only [Exit.inBlock, Exit.then]); refine bodyPost_ret (results_none rfl _ _ _) rfl ?_)
            refine ⟨rfl, HFIN.out _ _ ?_⟩
            rw [← HE.out, sd_right_stop lt dk h1 HL.out HG.out]
            exact K2.out
        | false =>
          have HL := Lib.hid hL
          clear hL
          cases hG : lt dk[first + root]! dk[first + (2 * root + 1)]! with
          | true =>
            have HG := Lib.hid hG
            clear hG
            go_wp2_with (first
              | (go_at_fn g; refine (HSO.out.lessI HS.out (first + (2 * root + 1)) (first + (2 * root + 2)) (by omega) (by omega) (by omega) (by omega)).mono ?_; rintro e w2 ⟨rfl, k1⟩
                 rw [HL.out]
                 obtain ⟨b0, b1⟩ := HBX.out.so k1 hDB
                 have k1 := Lib.hid k1)
              | (go_at_fn g; refine (k1.out.lessI HS.out (first + root) (first + (2 * root + 1)) (by omega) (by omega) (by omega) (by omega)).mono ?_; rintro e w3 ⟨rfl, k2⟩
                 rw [HG.out]
                 obtain ⟨d0, d1⟩ := HBX.out.so k2 hDB
                 obtain ⟨w4, hs, k3⟩ := k2.swapI HS.out ((first : Int) + (root : Int)) ((first : Int) + (2 * (root : Int) + 1)) (first + root) (first + (2 * root + 1)) (by omega) (by omega) (by omega) (by omega)
                 have K3 := Lib.hid k3
                 clear k2 k3))
            go_roundg (hi - (2 * root + 1))
            case measure => omega
            case rel => exact ⟨2 * root + 1, swp dk (first + root) (first + (2 * root + 1)), by go_num, by omega, Nat.le_refl _, K3.out, Lib.hid (by rw [← HE.out, sd_left_go lt dk (by omega) (fun _ => HL.out) HG.out])⟩
          | false =>
            have HG := Lib.hid hG
            clear hG
            go_wp2_with (first
              | (go_at_fn g; refine (HSO.out.lessI HS.out (first + (2 * root + 1)) (first + (2 * root + 2)) (by omega) (by omega) (by omega) (by omega)).mono ?_; rintro e w2 ⟨rfl, k1⟩
                 rw [HL.out]
                 obtain ⟨b0, b1⟩ := HBX.out.so k1 hDB
                 have k1 := Lib.hid k1)
              | (go_at_fn g; refine (k1.out.lessI HS.out (first + root) (first + (2 * root + 1)) (by omega) (by omega) (by omega) (by omega)).mono ?_; rintro e w3 ⟨rfl, k2⟩
                 rw [HG.out]
                 have K2 := Lib.hid k2
                 clear k2))
            ((try simp only [Exit.inBlock, Exit.then]); refine bodyPost_ret (results_none rfl _ _ _) rfl ?_)
            refine ⟨rfl, HFIN.out _ _ ?_⟩
            rw [← HE.out, sd_left_stop lt dk (by omega) (fun _ => HL.out) HG.out]
            exact K2.out
      · have h1z : decide (2 * (root : Int) + 1 + 1 < (hi : Int)) = false := by simp; omega
        cases hG : lt dk[first + root]! dk[first + (2 * root + 1)]! with
        | true =>
          have HG := Lib.hid hG
          clear hG
          go_wp2_with (first
            | (go_at_fn g; refine (HSO.out.lessI HS.out (first + root) (first + (2 * root + 1)) (by omega) (by omega) (by omega) (by omega)).mono ?_; rintro e w3 ⟨rfl, k2⟩
               rw [HG.out]
               obtain ⟨d0, d1⟩ := HBX.out.so k2 hDB
               obtain ⟨w4, hs, k3⟩ := k2.swapI HS.out ((first : Int) + (root : Int)) ((first : Int) + (2 * (root : Int) + 1)) (first + root) (first + (2 * root + 1)) (by omega) (by omega) (by omega) (by omega)
               have K3 := Lib.hid k3
               clear k2 k3))
          go_roundg (hi - (2 * root + 1))
          case measure => omega
          case rel => exact ⟨2 * root + 1, swp dk (first + root) (first + (2 * root + 1)), by go_num, by omega, Nat.le_refl _, K3.out, Lib.hid (by rw [← HE.out, sd_left_go lt dk (by omega) (fun h => absurd h h1) HG.out])⟩
        | false =>
          have HG := Lib.hid hG
          clear hG
          go_wp2_with (first
            | (go_at_fn g; refine (HSO.out.lessI HS.out (first + root) (first + (2 * root + 1)) (by omega) (by omega) (by omega) (by omega)).mono ?_; rintro e w3 ⟨rfl, k2⟩
               rw [HG.out]
               have K2 := Lib.hid k2
               clear k2))
          ((try simp only [Exit.inBlock, Exit.then]); refine bodyPost_ret (results_none rfl _ _ _) rfl ?_)
          refine ⟨rfl, HFIN.out _ _ ?_⟩
          rw [← HE.out, sd_left_stop lt dk (by omega) (fun h => absurd h h1) HG.out]
          exact K2.out
end
end Go.Proofs.Ytkdplnbdhkckhaa
