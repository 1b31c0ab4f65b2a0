/-
  sort.heapSort_func, the functions given being any that do as SortBy says.
-/
import Derived.Test.YtkdplnbdhkckhaaSorC
import Derived.Sort.WalkB3
namespace Go.Proofs.Ytkdplnbdhkckhaa
open Go Go.RowKit Go.Sort
section
variable {α : Type} [Inhabited α] {lt : α → α → Bool} {R : World → Array α → Prop} {B size g : Nat} {lb : Array Value} {sf : Nat} {sb : Array Value}
set_option maxHeartbeats 4000000 in
set_option maxRecDepth 100000 in
theorem heapSort_w (S : SortBy Try.prog lt R B size g lb sf sb) (a b : Nat) (d : Array α) (w : World) (h : R w d) (hab : a ≤ b) (hb : b ≤ size) :
    Calls Try.prog 94 #[dataV g lb sf sb, .int .i64 a, .int .i64 b] w fun e w' => e = .returned (.tuple #[]) ∧ SoAt R B w (heapSort lt d a b) w' := by
  obtain ⟨D, w1, hD, hw1, hbx, hDB, hR, hfin⟩ := sort_begin S h 98
  have eg := S.enter
  have HS := Lib.hid S
  have hlim := S.lim
  have HFIN := Lib.hid hfin
  have HBX := Lib.hid hbx
  have HR := Lib.hid hR
  clear S h hfin hbx hR
  unfold dataV
  have ecast : ((b - a : Nat) : Int) = (b : Int) - (a : Int) := by omega
  go_enter Try.func94, Try.ntmps94
  go_wp2_with fail
  rw [← hw1, ← hD]
  clear hw1 hD
  go_loopg [9] ((b - a - 1) / 2 + 1) (fun kx s9 wr => s9 = .int .i64 ((kx : Int) - 1) ∧ kx ≤ (b - a - 1) / 2 + 1 ∧ ∃ (dk : Array α), SoAt R B w1 dk wr ∧ Hid (heapBuild lt (b - a) a kx dk = heapBuild lt (b - a) a ((b - a - 1) / 2 + 1) d))
  case atStart => exact ⟨by rw [half_start hab], Nat.le_refl _, d, SoAt.start HR.out, Lib.hid rfl⟩
  case round =>
    obtain ⟨rfl, hkk, dk, hso, HE⟩ := hrel
    have HSO := Lib.hid hso
    clear hso
    obtain ⟨c0, c1⟩ := HBX.out.so HSO.out hDB
    cases gk with
    | zero =>
      have HB : Hid (dk = heapBuild lt (b - a) a ((b - a - 1) / 2 + 1) d) := Lib.hid HE.out
      clear HE hkk c0 c1
      go_wp2_with fail
      go_loopg [10] (b - a) (fun kx s10 wr2 => s10 = .int .i64 ((kx : Int) - 1) ∧ kx ≤ b - a ∧ ∃ (dj : Array α), SoAt R B w1 dj wr2 ∧ Hid (heapPop lt a kx dj = heapPop lt a (b - a) dk))
      case atStart => exact ⟨by rw [ecast], Nat.le_refl _, dk, HSO.out, Lib.hid rfl⟩
      case round =>
        obtain ⟨rfl, hkk, dj, hso, HE2⟩ := hrel
        have HSJ := Lib.hid hso
        clear hso
        cases gk with
        | zero =>
          go_wp2_with fail
          go_end0
          have e : dj = heapSort lt d a b := by rw [heapSort, ← HB.out, ← HE2.out]; rfl
          rw [← e]
          exact ⟨rfl, HFIN.out _ _ HSJ.out⟩
        | succ kx =>
          obtain ⟨c0, c1⟩ := HBX.out.so HSJ.out hDB
          obtain ⟨w3, hs, hso3⟩ := HSJ.out.swapI HS.out (a : Int) ((a : Int) + (kx : Int)) a (a + kx) (by omega) (by omega) (by omega) (by omega)
          obtain ⟨d0, d1⟩ := HBX.out.so hso3 hDB
          have hcall := siftDown_w HS.out 0 kx a (swp dj a (a + kx)) w3 hso3.1 (Nat.zero_le _) (by omega)
          unfold dataV at hcall
          have H3 := Lib.hid hso3
          have HC := Lib.hid hcall
          clear hso3 hcall
          go_wp2_with (first
            | (go_at_call 103; refine HC.out.mono ?_; rintro e w4 ⟨rfl, k⟩
               have H4 := Lib.hid (H3.out.step k)
               clear k))
          go_roundg kx
          case measure => omega
          case rel => exact ⟨by simp, by omega, _, H4.out, HE2⟩
    | succ kx =>
      have hcall := siftDown_w HS.out kx (b - a) a dk wr HSO.out.1 (by omega) (by omega)
      unfold dataV at hcall
      rw [ecast] at hcall
      have HC := Lib.hid hcall
      clear hcall
      go_wp2_with (first
        | (go_at_call 103; refine HC.out.mono ?_; rintro e w4 ⟨rfl, k⟩
           have H4 := Lib.hid (HSO.out.step k)
           clear k))
      go_roundg kx
      case measure => omega
      case rel => exact ⟨by simp, by omega, _, H4.out, HE⟩
end
end Go.Proofs.Ytkdplnbdhkckhaa
