/-
  sort.partitionEqual_func, the functions given being any that do as SortBy says. (Printed by a program.)
-/
import Derived.Test.YtkdplnbdhkckhaaSorD
import Derived.Sort.WalkC
import Derived.Deep.CutBlock
import Derived.Deep.DeepCutAuto
namespace Go.Proofs.Ytkdplnbdhkckhaa
open Go Go.RowKit Go.Sort
section
variable {α : Type} [Inhabited α] {lt : α → α → Bool} {R : World → Array α → Prop} {B size g : Nat} {lb : Array Value} {sf : Nat} {sb : Array Value}
set_option maxHeartbeats 40000000 in
set_option maxRecDepth 100000 in
theorem partitionEqual_w (S : SortBy Try.prog lt R B size g lb sf sb) (a b pv : Nat) (d : Array α) (w : World) (h : R w d) (hab : a < b) (hp : a ≤ pv ∧ pv < b) (hb : b ≤ size) :
    Calls Try.prog 99 #[dataV g lb sf sb, .int .i64 a, .int .i64 b, .int .i64 pv] w fun e w' => e = .returned (.int .i64 ((partitionEqual lt d a b pv).1 : Nat)) ∧ SoAt R B w (partitionEqual lt d a b pv).2 w' := by
  obtain ⟨D, w1, hD, hw1, hbx, hDB, hR, hfin⟩ := sort_begin S h 98
  have eg := S.enter
  have HS := Lib.hid S
  have hlim := S.lim
  have HFIN := Lib.hid hfin
  have HBX := Lib.hid hbx
  have HR := Lib.hid hR
  clear S h hfin hbx hR
  unfold dataV
  obtain ⟨w2, hs0, hso0⟩ := (SoAt.start HR.out).swap HS.out a pv (by omega) (by omega)
  have H0 : Hid (SoAt R B w1 (swp d a pv) w2) := Lib.hid hso0
  obtain ⟨j0, hj0⟩ : ∃ j0 : Nat, j0 = b - 1 := ⟨_, rfl⟩
  have hjb : (b : Int) - 1 = (j0 : Int) := by omega
  have HJB := Lib.hid hjb
  have HJ0 := Lib.hid hj0
  have hjlt : j0 < b ∧ a ≤ j0 := by omega
  clear hso0 hj0
  go_enter Try.func99, Try.ntmps99
  obtain ⟨c0, c1⟩ := HBX.out
  rw [hw1] at hs0 c0 c1
  rw [hD] at c0 c1
  go_upto_block 0 with fail
  rw [← hD]
  clear c0 c1 hs0 hw1 hD hjb
  obtain ⟨d0, hd0⟩ : ∃ d0, swp d a pv = d0 := ⟨_, rfl⟩
  rw [hd0] at H0
  have HD0 := Lib.hid hd0
  clear hd0
  go_wp2_with fail
  go_loopg [9, 10] (j0 + 1 - a) (fun kx s9 s10 wr => ∃ (i j : Nat) (dk : Array α), s9 = .int .i64 i ∧ s10 = .int .i64 j ∧ a < i ∧ i ≤ j + 1 ∧ j < b ∧ j + 1 - i ≤ kx ∧ SoAt R B w1 dk wr ∧ Hid (partEqLoop lt a i j dk = partEqLoop lt a (a + 1) j0 d0))
  case atStart => exact ⟨a + 1, j0, d0, by first | rfl | go_num, rfl, by omega, by omega, by omega, by omega, H0.out, Lib.hid rfl⟩
  case round =>
    obtain ⟨i, j, dk, rfl, rfl, hai, hij, hjb2, hkx, hso, HE⟩ := hrel
    have HSO := Lib.hid hso
    clear hso
    go_upto_block 2 with fail
    go_cut [9] (fun su wx => ∃ i2 : Nat, su = .int .i64 i2 ∧ i ≤ i2 ∧ i2 ≤ j + 1 ∧ SoAt R B w1 dk wx ∧ Hid (i2 = scanUp (fun x => !lt dk[a]! x) dk j (i)))
    case first =>
      as_aux_lemma =>
        go_wp2_with fail
        go_loopw [9] (fun vi wr2 => ∃ (i2 : Nat), vi = .int .i64 i2 ∧ i ≤ i2 ∧ i2 ≤ j + 1 ∧ SoAt R B w1 dk wr2 ∧ Hid (scanUp (fun x => !lt dk[a]! x) dk j i2 = scanUp (fun x => !lt dk[a]! x) dk j (i))) (fun vi _ => j + 1 - (intOf vi).toNat)
        case atStart => exact ⟨i, by first | rfl | go_num, Nat.le_refl _, by omega, HSO.out, Lib.hid rfl⟩
        case round =>
          obtain ⟨i2, rfl, hi1, hi2, hso, HU⟩ := hrel
          have HSU := Lib.hid hso
          clear hso
          obtain ⟨c0, c1⟩ := HBX.out.so HSU.out hDB
          by_cases hle : i2 ≤ j
          · have e1 : decide ((i2 : Int) ≤ (j : Int)) = true := by simp; omega
            cases hL : lt dk[a]! dk[i2]! with
            | false =>
              have HL := Lib.hid hL
              clear hL
              go_wp2_with (first
                | (go_at_fn g; refine (HSU.out.lessI HS.out (a) (i2) (by omega) (by omega) (by omega) (by omega)).mono ?_; rintro e wq ⟨rfl, k⟩
                   rw [HL.out]
                   have K := Lib.hid k
                   clear k))
              go_roundw
              case rel => exact ⟨i2 + 1, by go_num, by omega, by omega, K.out, Lib.hid (by rw [← HU.out, scanUp_go _ _ _ _ hle (by simp [HL.out])])⟩
              case measure => simp [intOf]; omega
            | true =>
              have HL := Lib.hid hL
              clear hL
              go_wp2_with (first
                | (go_at_fn g; refine (HSU.out.lessI HS.out (a) (i2) (by omega) (by omega) (by omega) (by omega)).mono ?_; rintro e wq ⟨rfl, k⟩
                   rw [HL.out]
                   have K := Lib.hid k
                   clear k))
              go_meet
              exact ⟨i2, rfl, hi1, hi2, K.out, Lib.hid (by rw [← HU.out, scanUp_end _ _ _ _ (.inr (by simp [HL.out]))])⟩
          · have e1 : decide ((i2 : Int) ≤ (j : Int)) = false := by simp; omega
            go_wp2_with fail
            go_meet
            exact ⟨i2, rfl, hi1, hi2, HSU.out, Lib.hid (by rw [← HU.out, scanUp_end _ _ _ _ (.inl hle)])⟩
    case rest =>
      obtain ⟨i1, rfl, hi1a, hi1b, hsou1, HI1⟩ := hcut
      have HU1 := Lib.hid hsou1
      clear hsou1
      go_upto_block 4 with fail
      go_cut [10] (fun su wx => ∃ j2 : Nat, su = .int .i64 j2 ∧ i1 ≤ j2 + 1 ∧ j2 ≤ j ∧ SoAt R B w1 dk wx ∧ Hid (j2 = scanDown (fun x => lt dk[a]! x) dk i1 j))
      case first =>
        as_aux_lemma =>
          go_wp2_with fail
          go_loopw [10] (fun vi wr2 => ∃ (j2 : Nat), vi = .int .i64 j2 ∧ i1 ≤ j2 + 1 ∧ j2 ≤ j ∧ SoAt R B w1 dk wr2 ∧ Hid (scanDown (fun x => lt dk[a]! x) dk i1 j2 = scanDown (fun x => lt dk[a]! x) dk i1 j)) (fun vi _ => (intOf vi).toNat)
          case atStart => exact ⟨j, rfl, by omega, Nat.le_refl _, HU1.out, Lib.hid rfl⟩
          case round =>
            obtain ⟨j2, rfl, hj1, hj2, hso, HU⟩ := hrel
            have HSU := Lib.hid hso
            clear hso
            obtain ⟨c0, c1⟩ := HBX.out.so HSU.out hDB
            by_cases hle : i1 ≤ j2
            · have e1 : decide ((i1 : Int) ≤ (j2 : Int)) = true := by simp; omega
              cases hL : lt dk[a]! dk[j2]! with
              | true =>
                have HL := Lib.hid hL
                clear hL
                go_wp2_with (first
                  | (go_at_fn g; refine (HSU.out.lessI HS.out (a) (j2) (by omega) (by omega) (by omega) (by omega)).mono ?_; rintro e wq ⟨rfl, k⟩
                     rw [HL.out]
                     have K := Lib.hid k
                     clear k))
                go_roundw
                case rel => exact ⟨j2 - 1, by rw [show ((j2 - 1 : Nat) : Int) = (j2 : Int) - 1 by omega], by omega, by omega, K.out, Lib.hid (by rw [← HU.out, scanDown_go _ _ _ _ hle (by omega) (by simp [HL.out])])⟩
                case measure => simp [intOf]; omega
              | false =>
                have HL := Lib.hid hL
                clear hL
                go_wp2_with (first
                  | (go_at_fn g; refine (HSU.out.lessI HS.out (a) (j2) (by omega) (by omega) (by omega) (by omega)).mono ?_; rintro e wq ⟨rfl, k⟩
                     rw [HL.out]
                     have K := Lib.hid k
                     clear k))
                go_meet
                exact ⟨j2, rfl, hj1, hj2, K.out, Lib.hid (by rw [← HU.out, scanDown_end _ _ _ _ (.inr (by simp [HL.out]))])⟩
            · have e1 : decide ((i1 : Int) ≤ (j2 : Int)) = false := by simp; omega
              go_wp2_with fail
              go_meet
              exact ⟨j2, rfl, hj1, hj2, HSU.out, Lib.hid (by rw [← HU.out, scanDown_end _ _ _ _ (.inl hle)])⟩
      case rest =>
        obtain ⟨j1, rfl, hj1a, hj1b, hsod1, HJ1⟩ := hcut
        have HD1 := Lib.hid hsod1
        clear hsod1
        by_cases hgt : j1 < i1
        · have e1 : decide ((j1 : Int) < (i1 : Int)) = true := by simp; omega
          go_wp2_with fail
          go_ret
          have e : partitionEqual lt d a b pv = (i1, dk) := by
            unfold partitionEqual
            rw [← HJ0.out, HD0.out, ← HE.out, partEq_break lt a i j dk HI1.out HJ1.out hgt]
          rw [e]
          exact ⟨rfl, HFIN.out _ _ HD1.out⟩
        · have e1 : decide ((j1 : Int) < (i1 : Int)) = false := by simp; omega
          have hlt3 := scans_lt lt a i j dk (by omega) HI1.out HJ1.out (by omega)
          obtain ⟨w3, hs, hso3⟩ := HD1.out.swap HS.out i1 j1 (by omega) (by omega)
          obtain ⟨c0, c1⟩ := HBX.out.so HD1.out hDB
          have H3 := Lib.hid hso3
          clear hso3
          go_wp2_with fail
          go_roundg (j1 - 1 + 1 - (i1 + 1))
          case measure => omega
          case rel => exact ⟨i1 + 1, j1 - 1, swp dk i1 j1, by go_num, by rw [show ((j1 - 1 : Nat) : Int) = (j1 : Int) - 1 by omega], by omega, by omega, by omega, by omega, H3.out, Lib.hid (by rw [← HE.out, partEq_go lt a i j dk HI1.out HJ1.out (by omega)])⟩
end
end Go.Proofs.Ytkdplnbdhkckhaa
