/-
  sort.insertionSort_func and sort.reverseRange_func, the functions given being any that do as SortBy says.
-/
import Derived.Test.YtkdplnbdhkckhaaSorA
import Derived.Sort.WalkA
import Derived.Test.YtkdplnbdhkckhaaProg
namespace Go.Proofs.Ytkdplnbdhkckhaa
open Go Go.RowKit Go.Sort

/-- The two functions lie in block D. -/
structure BoxAt (g : Nat) (lb : Array Value) (sf : Nat) (sb : Array Value) (D : Nat) (w : World) : Prop where
  c0 : w.cell? ⟨D, 0, none⟩ = some (.func (.func g) #[] lb)
  c1 : w.cell? ⟨D, 1, none⟩ = some (.func (.func sf) #[] sb)
theorem box_new (g : Nat) (lb : Array Value) (sf : Nat) (sb : Array Value) (w : World) (t : TypeId) : BoxAt g lb sf sb w.heap.size (w.alloc (.cells #[.func (.func g) #[] lb, .func (.func sf) #[] sb] t)) :=
  ⟨by rw [World.cell?_alloc_new]; rfl, by rw [World.cell?_alloc_new]; rfl⟩
section
variable {α : Type} [Inhabited α] {lt : α → α → Bool} {R : World → Array α → Prop} {B size g : Nat} {lb : Array Value} {sf : Nat} {sb : Array Value}
omit [Inhabited α] in
theorem BoxAt.so {D : Nat} {w w' : World} {d : Array α} (h : BoxAt g lb sf sb D w) (k : SoAt R B w d w') (hD : D ≠ B) : BoxAt g lb sf sb D w' := ⟨k.keeps hD h.c0, k.keeps hD h.c1⟩
theorem BoxAt.gr {D : Nat} {w w' : World} (h : BoxAt g lb sf sb D w) (k : Gr w w') : BoxAt g lb sf sb D w' := ⟨k.keeps h.c0, k.keeps h.c1⟩
/-- At the beginning of each: the two are laid in a new block. -/
theorem sort_begin (S : SortBy Try.prog lt R B size g lb sf sb) {d : Array α} {w : World} (h : R w d) (t : TypeId) :
    ∃ (D : Nat) (w1 : World), D = w.heap.size ∧ w1 = w.alloc (.cells #[.func (.func g) #[] lb, .func (.func sf) #[] sb] t) ∧ BoxAt g lb sf sb D w1 ∧ D ≠ B ∧ R w1 d ∧ (∀ d' w', SoAt R B w1 d' w' → SoAt R B w d' w') := by
  have hg := (Gr.refl w).alloc (.cells #[.func (.func g) #[] lb, .func (.func sf) #[] sb] t)
  exact ⟨_, _, rfl, rfl, box_new g lb sf sb w t, by have := S.blt h; omega, S.gr h hg, fun d' w' k => ⟨k.1, (GrX.of_gr hg).trans k.2⟩⟩
set_option maxHeartbeats 2000000 in
set_option maxRecDepth 100000 in
theorem insertionSort_w (S : SortBy Try.prog lt R B size g lb sf sb) (a b : Nat) (d : Array α) (w : World) (h : R w d) (hab : a ≤ b) (hb : b ≤ size) :
    Calls Try.prog 93 #[dataV g lb sf sb, .int .i64 a, .int .i64 b] w fun e w' => e = .returned (.tuple #[]) ∧ SoAt R B w (Sort.insertionSort lt d a b) w' := by
  obtain ⟨D, w1, hD, hw1, hbx, hDB, hR, hfin⟩ := sort_begin S h 98
  have eg := S.enter
  have HS := Lib.hid S
  have hlim := S.lim
  have HFIN := Lib.hid hfin
  have HBX := Lib.hid hbx
  have HR := Lib.hid hR
  clear S h hfin hbx hR
  unfold dataV
  go_enter Try.func93, Try.ntmps93
  go_wp2_with fail
  rw [← hw1, ← hD]
  clear hw1 hD
  go_loopw [6] (fun vi wr => ∃ (i : Nat) (dk : Array α), vi = .int .i64 i ∧ a < i ∧ i ≤ b + 1 ∧ SoAt R B w1 dk wr ∧ Hid (insOuter lt a b i dk = insOuter lt a b (a + 1) d)) (fun vi _ => b + 1 - (intOf vi).toNat)
  case atStart => exact ⟨a + 1, d, by go_num, by omega, by omega, SoAt.start HR.out, Lib.hid rfl⟩
  case round =>
    obtain ⟨i, dk, rfl, hai, hib, hso, HO⟩ := hrel
    have HSO := Lib.hid hso
    clear hso
    by_cases hlt : i < b
    · have e1 : decide ((i : Int) < b) = true := by simp; omega
      go_wp2_with fail
      go_loopw [7] (fun vj wr2 => ∃ (j : Nat) (dj : Array α), vj = .int .i64 j ∧ a ≤ j ∧ j ≤ i ∧ SoAt R B w1 dj wr2 ∧ Hid (insInner lt a j dj = insInner lt a i dk)) (fun vj _ => (intOf vj).toNat)
      case atStart => exact ⟨i, dk, rfl, by omega, Nat.le_refl _, HSO.out, Lib.hid rfl⟩
      case round =>
        obtain ⟨j, dj, rfl, haj, hji, hso, HI⟩ := hrel
        have HSJ := Lib.hid hso
        clear hso
        obtain ⟨c0, c1⟩ := HBX.out.so HSJ.out hDB
        by_cases hja : a < j
        · have e2 : decide ((a : Int) < j) = true := by simp; omega
          have hj1 : ((j - 1 : Nat) : Int) = (j : Int) - 1 := by omega
          have hl := HSJ.out.less HS.out j (j - 1) (by omega) (by omega)
          rw [hj1] at hl
          clear c1
          cases hlv : lt dj[j]! dj[j - 1]! with
          | true =>
            rw [hlv] at hl
            have HLV := Lib.hid hlv
            clear hlv
            go_wp2_with (go_at_fn g; refine hl.mono ?_; rintro e w2 ⟨rfl, hso2⟩
                         obtain ⟨d0, d1⟩ := HBX.out.so hso2 hDB
                         obtain ⟨w3, hs, hso3⟩ := hso2.swap HS.out j (j - 1) (by omega) (by omega)
                         rw [hj1] at hs
                         have HS3 := Lib.hid hso3
                         clear hso2 hso3)
            go_roundw
            case rel => exact ⟨j - 1, swp dj j (j - 1), by rw [hj1], by omega, by omega, HS3.out, Lib.hid (by rw [← HI.out, insInner_go lt a j dj hja HLV.out])⟩
            case measure => simp [intOf]; omega
          | false =>
            rw [hlv] at hl
            have HLV := Lib.hid hlv
            clear hlv
            go_wp2_with (go_at_fn g; refine hl.mono ?_; rintro e w2 ⟨rfl, hso2⟩
                         have HS2 := Lib.hid hso2
                         clear hso2)
            go_roundw
            case rel => exact ⟨i + 1, dj, by go_num, by omega, by omega, HS2.out, Lib.hid (by rw [← HO.out, insOuter_go _ _ _ _ _ hlt, ← HI.out, insInner_stop _ _ _ _ (.inr HLV.out)])⟩
            case measure => simp [intOf]; omega
        · have e2 : decide ((a : Int) < j) = false := by simp; omega
          go_wp2_with fail
          go_roundw
          case rel => exact ⟨i + 1, dj, by go_num, by omega, by omega, HSJ.out, Lib.hid (by rw [← HO.out, insOuter_go _ _ _ _ _ hlt, ← HI.out, insInner_stop _ _ _ _ (.inl (by omega))])⟩
          case measure => simp [intOf]; omega
    · have e1 : decide ((i : Int) < b) = false := by simp; omega
      go_wp2_with fail
      go_end0
      refine ⟨rfl, HFIN.out _ _ ?_⟩
      unfold Sort.insertionSort
      rw [← HO.out, insOuter_stop _ _ _ _ _ hlt]
      exact HSO.out
set_option maxHeartbeats 2000000 in
set_option maxRecDepth 100000 in
theorem reverseRange_w (S : SortBy Try.prog lt R B size g lb sf sb) (a b : Nat) (d : Array α) (w : World) (h : R w d) (hab : a ≤ b) (hb : b ≤ size) (h1 : 1 ≤ b) :
    Calls Try.prog 97 #[dataV g lb sf sb, .int .i64 a, .int .i64 b] w fun e w' => e = .returned (.tuple #[]) ∧ SoAt R B w (reverseRange d a b) w' := by
  obtain ⟨D, w1, hD, hw1, hbx, hDB, hR, hfin⟩ := sort_begin S h 98
  have eg := S.enter
  have HS := Lib.hid S
  have hlim := S.lim
  have HFIN := Lib.hid hfin
  have HBX := Lib.hid hbx
  have HR := Lib.hid hR
  clear S h hfin hbx hR
  unfold dataV
  go_enter Try.func97, Try.ntmps97
  go_wp2_with fail
  rw [← hw1, ← hD]
  clear hw1 hD
  go_loopw [6, 7] (fun vi vj wr => ∃ (i j : Nat) (dk : Array α), vi = .int .i64 i ∧ vj = .int .i64 j ∧ a ≤ i ∧ j < b ∧ SoAt R B w1 dk wr ∧ Hid (reverseLoop i j dk = reverseLoop a (b - 1) d)) (fun vi vj _ => (intOf vj - intOf vi).toNat)
  case atStart => exact ⟨a, b - 1, d, rfl, by rw [show ((b - 1 : Nat) : Int) = (b : Int) - 1 by omega], Nat.le_refl _, by omega, SoAt.start HR.out, Lib.hid rfl⟩
  case round =>
    obtain ⟨i, j, dk, rfl, rfl, hai, hjb, hso, HO⟩ := hrel
    have HSO := Lib.hid hso
    clear hso
    by_cases hlt : i < j
    · have e1 : decide ((i : Int) < j) = true := by simp; omega
      obtain ⟨c0, c1⟩ := HBX.out.so HSO.out hDB
      obtain ⟨w3, hs, hso3⟩ := HSO.out.swap HS.out i j (by omega) (by omega)
      have HS3 := Lib.hid hso3
      clear hso3
      go_wp2_with fail
      go_roundw
      case rel => exact ⟨i + 1, j - 1, swp dk i j, by go_num, by rw [show ((j - 1 : Nat) : Int) = (j : Int) - 1 by omega], by omega, by omega, HS3.out, Lib.hid (by rw [← HO.out]; conv => rhs; rw [reverseLoop, if_pos hlt])⟩
      case measure => simp [intOf]; omega
    · have e1 : decide ((i : Int) < j) = false := by simp; omega
      go_wp2_with fail
      go_end0
      refine ⟨rfl, HFIN.out _ _ ?_⟩
      have e : dk = reverseRange d a b := by unfold reverseRange; rw [← HO.out, reverseLoop, if_neg hlt]
      rw [← e]
      exact HSO.out
end
end Go.Proofs.Ytkdplnbdhkckhaa
