/-
  sort.partialInsertionSort_func, the functions given being any that do as SortBy says. (Printed by a program.)
-/
import Derived.Test.YtkdplnbdhkckhaaSorF
import Derived.Sort.WalkA6
namespace Go.Proofs.Ytkdplnbdhkckhaa
open Go Go.RowKit Go.Sort
section
variable {α : Type} [Inhabited α] {lt : α → α → Bool} {R : World → Array α → Prop} {B size g : Nat} {lb : Array Value} {sf : Nat} {sb : Array Value}
set_option maxHeartbeats 40000000 in
set_option maxRecDepth 100000 in
theorem partialIns_w (S : SortBy Try.prog lt R B size g lb sf sb) (a b : Nat) (d : Array α) (w : World) (h : R w d) (hab : a < b) (hb : b ≤ size) :
    Calls Try.prog 98 #[dataV g lb sf sb, .int .i64 a, .int .i64 b] w fun e w' => e = .returned (.bool (partialInsertionSort lt d a b).2) ∧ SoAt R B w (partialInsertionSort lt d a b).1 w' := by
  obtain ⟨D, w1, hD, hw1, hbx, hDB, hR, hfin⟩ := sort_begin S h 98
  have eg := S.enter
  have HS := Lib.hid S
  have hlim := S.lim
  have HFIN := Lib.hid hfin
  have HBX := Lib.hid hbx
  have HR := Lib.hid hR
  clear S h hfin hbx hR
  unfold dataV
  go_enter Try.func98, Try.ntmps98
  go_wp2_with fail
  rw [← hw1, ← hD]
  clear hw1 hD
  go_loopg [7, 8] 5 (fun kx s7 s8 wr => ∃ (i s : Nat) (dk : Array α), s7 = .int .i64 i ∧ s8 = .int .i64 s ∧ a < i ∧ i ≤ b ∧ s ≤ 5 ∧ 5 - s ≤ kx ∧ SoAt R B w1 dk wr ∧ Hid (partialIns lt a b (5 - s) i dk = partialInsertionSort lt d a b))
  case atStart => exact ⟨a + 1, 0, d, by first | rfl | go_num, rfl, by omega, by omega, by omega, by omega, SoAt.start HR.out, Lib.hid rfl⟩
  case round =>
    obtain ⟨i, s, dk, rfl, rfl, hai, hib, hs5, hkx, hso, HE⟩ := hrel
    have HSO := Lib.hid hso
    clear hso
    by_cases hs : s < 5
    · have e5 : decide ((s : Int) < 5) = true := by simp; omega
      go_upto_block 2 with fail
      clear e5
      go_cut [7] (fun su wx => ∃ k : Nat, su = .int .i64 k ∧ i ≤ k ∧ k ≤ b ∧ SoAt R B w1 dk wx ∧ Hid (scanSorted lt dk b i = k))
      case first =>
        as_aux_lemma =>
          go_wp2_with fail
          go_loopw [7] (fun vi wr2 => ∃ (k : Nat), vi = .int .i64 k ∧ i ≤ k ∧ k ≤ b ∧ SoAt R B w1 dk wr2 ∧ Hid (scanSorted lt dk b k = scanSorted lt dk b i)) (fun vi _ => b - (intOf vi).toNat)
          case atStart => exact ⟨i, rfl, Nat.le_refl _, hib, HSO.out, Lib.hid rfl⟩
          case round =>
            obtain ⟨k, rfl, hk1, hk2, hso, HU⟩ := hrel
            have HSU := Lib.hid hso
            clear hso
            obtain ⟨c0, c1⟩ := HBX.out.so HSU.out hDB
            by_cases hlt : k < b
            · have e1 : decide ((k : Int) < (b : Int)) = true := by simp; omega
              cases hL : lt dk[k]! dk[k - 1]! with
              | false =>
                have HL := Lib.hid hL
                clear hL
                go_wp2_with (first
                  | (go_at_fn g; refine (HSU.out.lessI HS.out (k) (k - 1) (by omega) (by omega) (by omega) (by omega)).mono ?_; rintro e wq ⟨rfl, k⟩
                     rw [HL.out]
                     have K := Lib.hid k
                     clear k))
                go_roundw
                case rel => exact ⟨k + 1, by go_num, by omega, by omega, K.out, Lib.hid (by rw [← HU.out, scanSorted_go lt dk b k hlt HL.out])⟩
                case measure => simp [intOf]; omega
              | true =>
                have HL := Lib.hid hL
                clear hL
                go_wp2_with (first
                  | (go_at_fn g; refine (HSU.out.lessI HS.out (k) (k - 1) (by omega) (by omega) (by omega) (by omega)).mono ?_; rintro e wq ⟨rfl, k⟩
                     rw [HL.out]
                     have K := Lib.hid k
                     clear k))
                go_meet
                exact ⟨k, rfl, hk1, hk2, K.out, Lib.hid (by rw [← HU.out, scanSorted_stop lt dk b k (.inr HL.out)])⟩
            · have e1 : decide ((k : Int) < (b : Int)) = false := by simp; omega
              go_wp2_with fail
              go_meet
              exact ⟨k, rfl, hk1, hk2, HSU.out, Lib.hid (by rw [← HU.out, scanSorted_stop lt dk b k (.inl hlt)])⟩
      case rest =>
        obtain ⟨k, rfl, hk1, hk2, hso, HK⟩ := hcut
        have HSK := Lib.hid hso
        clear hso
        by_cases hkb : k = b
        · have e1 : ((k : Int) == (b : Int)) = true := by simp; omega
          clear hkx
          go_wp2_with fail
          go_ret
          have e : partialInsertionSort lt d a b = (dk, true) := by rw [← HE.out, pi_true lt a b s i dk hs (HK.out.trans hkb)]
          rw [e]
          exact ⟨rfl, HFIN.out _ _ HSK.out⟩
        have e1 : ((k : Int) == (b : Int)) = false := by simp; omega
        by_cases h50 : b - a < 50
        · have e2 : decide ((b : Int) - (a : Int) < 50) = true := by simp; omega
          go_wp2_with fail
          go_ret
          have e : partialInsertionSort lt d a b = (dk, false) := by rw [← HE.out, pi_short lt a b s i dk hs (by rw [HK.out]; exact hkb) h50]
          rw [e]
          exact ⟨rfl, HFIN.out _ _ HSK.out⟩
        have e2 : decide ((b : Int) - (a : Int) < 50) = false := by simp; omega
        have HGO := Lib.hid (pi_go lt a b s i k dk hs HK.out hkb h50)
        obtain ⟨w3, hs3, hso3⟩ := HSK.out.swapI HS.out (k : Int) ((k : Int) - 1) k (k - 1) (by omega) (by omega) (by omega) (by omega)
        obtain ⟨c0, c1⟩ := HBX.out.so HSK.out hDB
        have H3 := Lib.hid hso3
        clear hso3
        go_upto_if 47 with (fail)
        clear hs3 c0 c1 e1 e2
        obtain ⟨cb, hcb⟩ : ∃ cb, decide ((2 : Int) ≤ (k : Int) - (a : Int)) = cb := ⟨_, rfl⟩
        rw [hcb]
        have HCB := Lib.hid hcb
        clear hcb
        obtain ⟨d3, hd3⟩ : ∃ d3, swp dk k (k - 1) = d3 := ⟨_, rfl⟩
        rw [hd3] at H3 HGO
        clear hd3
        go_cut [9] (fun _ wx => ∃ d4, SoAt R B w1 d4 wx ∧ Hid (d4 = fixDown lt a k d3))
        case first =>
          as_aux_lemma =>
            by_cases hc : k - a ≥ 2
            · obtain rfl : cb = true := by rw [← HCB.out]; simp; omega
              go_wp2_with fail
              go_loopg [9] (k - 1) (fun kx s9 wr2 => ∃ (j : Nat) (dj : Array α), s9 = .int .i64 j ∧ j ≤ k - 1 ∧ j ≤ kx ∧ SoAt R B w1 dj wr2 ∧ Hid (shiftDown lt j dj = shiftDown lt (k - 1) d3))
              case atStart => exact ⟨k - 1, d3, by rw [show ((k - 1 : Nat) : Int) = (k : Int) - 1 by omega], Nat.le_refl _, Nat.le_refl _, H3.out, Lib.hid rfl⟩
              case round =>
                obtain ⟨j, dj, rfl, hj1, hj2, hso, HU⟩ := hrel
                have HSU := Lib.hid hso
                clear hso
                obtain ⟨c0, c1⟩ := HBX.out.so HSU.out hDB
                by_cases hj : 1 ≤ j
                · have e3 : decide ((1 : Int) ≤ (j : Int)) = true := by simp; omega
                  cases hL : lt dj[j]! dj[j - 1]! with
                  | true =>
                    have HL := Lib.hid hL
                    clear hL
                    go_wp2_with (first
                      | (go_at_fn g; refine (HSU.out.lessI HS.out (j) (j - 1) (by omega) (by omega) (by omega) (by omega)).mono ?_; rintro e wq ⟨rfl, k⟩
                         rw [HL.out]
                         obtain ⟨d0, d1⟩ := HBX.out.so k hDB
                         obtain ⟨wr3, hs, k3⟩ := k.swapI HS.out ((j : Nat) : Int) (((j : Nat) : Int) - 1) (j) (j - 1) (by omega) (by omega) (by omega) (by omega)
                         have K := Lib.hid k3
                         clear k k3))
                    go_roundg (j - 1)
                    case measure => omega
                    case rel => exact ⟨j - 1, swp dj j (j - 1), by rw [show ((j - 1 : Nat) : Int) = (j : Int) - 1 by omega], by omega, Nat.le_refl _, K.out, Lib.hid (by rw [← HU.out, shiftDown_go lt j dj hj HL.out])⟩
                  | false =>
                    have HL := Lib.hid hL
                    clear hL
                    go_wp2_with (first
                      | (go_at_fn g; refine (HSU.out.lessI HS.out (j) (j - 1) (by omega) (by omega) (by omega) (by omega)).mono ?_; rintro e wq ⟨rfl, k⟩
                         rw [HL.out]
                         have K := Lib.hid k
                         clear k))
                    go_meet
                    exact ⟨dj, K.out, Lib.hid (by unfold fixDown; rw [if_pos hc, ← HU.out, shiftDown_stop lt j dj (.inr HL.out)])⟩
                · have e3 : decide ((1 : Int) ≤ (j : Int)) = false := by simp; omega
                  go_wp2_with fail
                  go_meet
                  exact ⟨dj, HSU.out, Lib.hid (by unfold fixDown; rw [if_pos hc, ← HU.out, shiftDown_stop lt j dj (.inl (by omega))])⟩
            · obtain rfl : cb = false := by rw [← HCB.out]; simp; omega
              go_wp2_with fail
              go_meet
              exact ⟨d3, H3.out, Lib.hid (by unfold fixDown; rw [if_neg hc])⟩
        case rest =>
          obtain ⟨d4, hso4, HD4⟩ := hcut
          have H4 := Lib.hid hso4
          clear hso4
          rw [← HD4.out] at HGO
          by_cases hc : b - k ≥ 2
          · have e1 : decide ((2 : Int) ≤ (b : Int) - (k : Int)) = true := by simp; omega
            go_wp2_with fail
            go_loopg [10] (b - (k + 1)) (fun kx s9 wr2 => ∃ (j : Nat) (dj : Array α), s9 = .int .i64 j ∧ k + 1 ≤ j ∧ j ≤ b ∧ b - j ≤ kx ∧ SoAt R B w1 dj wr2 ∧ Hid (shiftUp lt b j dj = shiftUp lt b (k + 1) d4))
            case atStart => exact ⟨k + 1, d4, by first | rfl | go_num, Nat.le_refl _, by omega, Nat.le_refl _, H4.out, Lib.hid rfl⟩
            case round =>
              obtain ⟨j, dj, rfl, hj1, hj2, hj3, hso, HU⟩ := hrel
              have HSU := Lib.hid hso
              clear hso
              obtain ⟨c0, c1⟩ := HBX.out.so HSU.out hDB
              by_cases hj : j < b
              · have e3 : decide ((j : Int) < (b : Int)) = true := by simp; omega
                cases hL : lt dj[j]! dj[j - 1]! with
                | true =>
                  have HL := Lib.hid hL
                  clear hL
                  go_wp2_with (first
                    | (go_at_fn g; refine (HSU.out.lessI HS.out (j) (j - 1) (by omega) (by omega) (by omega) (by omega)).mono ?_; rintro e wq ⟨rfl, k⟩
                       rw [HL.out]
                       obtain ⟨d0, d1⟩ := HBX.out.so k hDB
                       obtain ⟨wr3, hs, k3⟩ := k.swapI HS.out ((j : Nat) : Int) (((j : Nat) : Int) - 1) (j) (j - 1) (by omega) (by omega) (by omega) (by omega)
                       have K := Lib.hid k3
                       clear k k3))
                  go_roundg (b - (j + 1))
                  case measure => omega
                  case rel => exact ⟨j + 1, swp dj j (j - 1), by go_num, by omega, by omega, Nat.le_refl _, K.out, Lib.hid (by rw [← HU.out, shiftUp_go lt b j dj hj HL.out])⟩
                | false =>
                  have HL := Lib.hid hL
                  clear hL
                  go_wp2_with (first
                    | (go_at_fn g; refine (HSU.out.lessI HS.out (j) (j - 1) (by omega) (by omega) (by omega) (by omega)).mono ?_; rintro e wq ⟨rfl, k⟩
                       rw [HL.out]
                       have K := Lib.hid k
                       clear k))
                  have e6 : fixUp lt b k d4 = dj := by unfold fixUp; rw [if_pos hc, ← HU.out, shiftUp_stop lt b j dj (.inr HL.out)]
                  go_roundg (5 - (s + 1))
                  case measure => omega
                  case rel => exact ⟨k, s + 1, fixUp lt b k d4, rfl, by go_num, by omega, by omega, by omega, Nat.le_refl _, by rw [e6]; exact K.out, Lib.hid (by rw [← HE.out, HGO.out])⟩
              · have e3 : decide ((j : Int) < (b : Int)) = false := by simp; omega
                have e6 : fixUp lt b k d4 = dj := by unfold fixUp; rw [if_pos hc, ← HU.out, shiftUp_stop lt b j dj (.inl hj)]
                go_wp2_with fail
                go_roundg (5 - (s + 1))
                case measure => omega
                case rel => exact ⟨k, s + 1, fixUp lt b k d4, rfl, by go_num, by omega, by omega, by omega, Nat.le_refl _, by rw [e6]; exact HSU.out, Lib.hid (by rw [← HE.out, HGO.out])⟩
          · have e1 : decide ((2 : Int) ≤ (b : Int) - (k : Int)) = false := by simp; omega
            have e6 : fixUp lt b k d4 = d4 := by unfold fixUp; rw [if_neg hc]
            go_wp2_with fail
            go_roundg (5 - (s + 1))
            case measure => omega
            case rel => exact ⟨k, s + 1, fixUp lt b k d4, rfl, by go_num, by omega, by omega, by omega, Nat.le_refl _, by rw [e6]; exact H4.out, Lib.hid (by rw [← HE.out, HGO.out])⟩
    · have e5 : decide ((s : Int) < 5) = false := by simp; omega
      obtain rfl : s = 5 := by omega
      go_wp2_with fail
      go_ret
      have e : partialInsertionSort lt d a b = (dk, false) := by rw [← HE.out, pi_end]
      rw [e]
      exact ⟨rfl, HFIN.out _ _ HSO.out⟩
end
end Go.Proofs.Ytkdplnbdhkckhaa
