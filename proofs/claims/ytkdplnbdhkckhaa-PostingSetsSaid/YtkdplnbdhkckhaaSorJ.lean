/-
  sort.breakPatterns_func, the functions given being any that do as SortBy says.
-/
import Derived.Test.YtkdplnbdhkckhaaSorH
import Derived.Test.YtkdplnbdhkckhaaSortG
import Derived.Sort.Walk7
namespace Go.Proofs.Ytkdplnbdhkckhaa
open Go Go.RowKit Go.Sort
section
variable {α : Type} [Inhabited α] {lt : α → α → Bool} {R : World → Array α → Prop} {B size g : Nat} {lb : Array Value} {sf : Nat} {sb : Array Value}
/-- A store into a block that is new. -/
theorem so_set {S : Nat → Prop} {w0 w : World} (h : GrX S w0 w) (p : Addr) (v : Value) (hp : w0.heap.size ≤ p.block) : GrX S w0 (w.setCell p v) :=
  ⟨h.1, h.2.1, h.2.2.1, by simpa using h.2.2.2.1, fun k hk hs => (Below.heap_setCell _ _ _ _ (by omega)).trans (h.2.2.2.2 k hk hs)⟩
set_option maxHeartbeats 8000000 in
set_option maxRecDepth 100000 in
theorem breakPatterns_w (S : SortBy Try.prog lt R B size g lb sf sb) (a L : Nat) (d : Array α) (w : World) (h : R w d) (h8 : 8 ≤ L) (hb : a + L ≤ size) :
    Calls Try.prog 95 #[dataV g lb sf sb, .int .i64 a, .int .i64 ((a + L : Nat) : Int)] w fun e w' => e = .returned (.tuple #[]) ∧ SoAt R B w (breakPatterns d a (a + L)) w' := by
  obtain ⟨N, hNle, hNk⟩ := S.far
  have HF : Hid (FarAt R N) := Lib.hid ⟨hNle, hNk⟩
  have hNw := hNle h
  have hBw := S.blt h
  clear hNle hNk
  obtain ⟨D, w1, hD, hw1, hbx, hDB, hR, hfin⟩ := sort_begin S h 98
  have eg := S.enter
  have HS := Lib.hid S
  have hlim := S.lim
  have HFIN := Lib.hid hfin
  have HBX := Lib.hid hbx
  have HR := Lib.hid hR
  clear S h hfin hbx hR
  unfold dataV
  rw [breakPatterns_eq d a L h8]
  obtain ⟨M, hM⟩ : ∃ M : Nat, M = 1 <<< bitsLen L := ⟨_, rfl⟩
  have hM1 : 1 ≤ M := by rw [hM, Nat.one_shiftLeft]; exact Nat.two_pow_pos _
  have hM2 : M ≤ 2 * L := by rw [hM, Nat.one_shiftLeft]; exact two_pow_bitsLen_le (by omega)
  have hNP : ∀ w, Calls Try.prog 104 #[.int .i64 (L : Int)] w fun e w' => e = .returned (.int .u64 (M : Int)) ∧ w' = w := by rw [hM]; exact fun w => Any.nextPowerOfTwo Try.nextS L (by omega) w
  rw [← hM]
  have HNP := Lib.hid hNP
  clear hM hNP
  have hLz : ((a : Int) + (L : Int) - (a : Int)) = (L : Int) := by omega
  have h8z : decide ((8 : Int) ≤ (L : Int)) = true := by simp; omega
  go_enter Try.func95, Try.ntmps95
  go_wp2_with (first
    | (go_at_call 104; refine (HNP.out _).mono ?_; rintro e wq ⟨rfl, rfl⟩))
  have hr0 : (w1.alloc (.cells #[.int .u64 (L : Int)] 121)).cell? ⟨w1.heap.size, 0, none⟩ = some (.int .u64 (L : Int)) := by rw [World.cell?_alloc_new]; rfl
  have hf0 : (w1.alloc (.cells #[.int .u64 (L : Int)] 121)).frozen? ⟨w1.heap.size, 0, none⟩ = false := by simp
  have hg2 := (Gr.refl w1).alloc (.cells #[.int .u64 (L : Int)] 121)
  have hz1 : w1.heap.size = D + 1 := by rw [hw1, hD]; simp
  rw [← hw1]
  have K0 : Hid (SoAt R B w1 d (w1.alloc (.cells #[.int .u64 (L : Int)] 121))) := Lib.hid ((SoAt.start HR.out).gr HS.out hg2)
  have hRB : ¬ w1.heap.size = B := by omega
  have hNR : N ≤ w1.heap.size := by omega
  generalize w1.alloc (.cells #[.int .u64 (L : Int)] 121) = w2 at *
  obtain ⟨RB, hRBe⟩ : ∃ RB, RB = D + 1 := ⟨_, rfl⟩
  have hRBs : w1.heap.size ≤ RB := by omega
  rw [hz1, ← hRBe] at hr0 hf0 hRB hNR
  rw [← hD, ← hRBe]
  clear hw1 hD hg2 hz1 hRBe h8z
  go_loopg [9] 3 (fun g1 vi wr => ∃ (t : Nat) (r : UInt64) (dk : Array α), vi = .int .i64 ((a : Int) + (L : Int) / 4 * 2 - 1 + (t : Int)) ∧ t ≤ 3 ∧ 3 - t ≤ g1 ∧ SoAt R B w1 dk wr ∧ wr.cell? ⟨RB, 0, none⟩ = some (.int .u64 (r.toNat : Int)) ∧ wr.frozen? ⟨RB, 0, none⟩ = false ∧
      Hid (bpRest a L M (a + L / 4 * 2 - 1) (3 - t) t (r, dk) = bpRest a L M (a + L / 4 * 2 - 1) 3 0 (UInt64.ofNat L, d)))
  case atStart =>
    refine ⟨0, UInt64.ofNat L, d, by simp, by omega, by omega, K0.out, ?_, hf0, Lib.hid rfl⟩
    rw [show (UInt64.ofNat L).toNat = L from by simp; omega]
    exact hr0
  case round =>
    clear hr0 hf0
    obtain ⟨t, r, dk, rfl, ht, hg1, hso, cR, fR, HE⟩ := hrel
    have HSO := Lib.hid hso
    clear hso
    by_cases ht3 : t < 3
    · have hle : (a : Int) + (L : Int) / 4 * 2 - 1 + (t : Int) ≤ (a : Int) + (L : Int) / 4 * 2 + 1 := by omega
      obtain ⟨X, hX⟩ : ∃ X : Nat, X = r.toNat := ⟨_, rfl⟩
      have lX : X < 18446744073709551616 := by rw [hX]; exact r.toNat_lt
      obtain ⟨X2, hX2⟩ : ∃ X2 : Nat, X2 = xorNextN X := ⟨_, rfl⟩
      have lX2 : X2 < 18446744073709551616 := by rw [hX2]; exact xorNextN_lt X lX
      obtain ⟨O, hO⟩ : ∃ O : Nat, O = X2 &&& (M - 1) := ⟨_, rfl⟩
      have lO : O ≤ M - 1 := by rw [hO]; exact Nat.and_le_right
      have eAnd : bits .and .u64 (X2 : Int) ((M : Int) - 1) = (O : Int) := by
        rw [show ((M : Int) - 1) = ((M - 1 : Nat) : Int) by omega, bits_and_u64_nat _ _ lX2 (by omega), hO]
      rw [← hX] at cR
      have hNext : Calls Try.prog 105 #[.pointer (some ⟨RB, 0, none⟩)] wr fun e w' => e = .returned (.int .u64 (X2 : Int)) ∧ w' = (wr.setCell ⟨RB, 0, none⟩ (.int .u64 (X2 : Int))).drewN 3 := by
        rw [hX2]; exact Any.xorshift_Next Try.xorS RB 0 X lX wr cR fR
      have HN : Hid (X2 = (xorNext r).toNat ∧ O = (xorNext r).toNat &&& (M - 1)) := by
        have e : X2 = (xorNext r).toNat := by rw [hX2, hX, xorNext_toNat]
        exact Lib.hid ⟨e, by rw [hO, e]⟩
      clear hX hX2 hO
      have hgx : GrX (fun b => N ≤ b) wr (wr.setCell ⟨RB, 0, none⟩ (.int .u64 (X2 : Int))) := GrX.setCell wr _ hNR
      have hso2 : SoAt R B w1 dk ((wr.setCell ⟨RB, 0, none⟩ (.int .u64 (X2 : Int))).drewN 3) :=
        SoAt.gr HS.out ⟨HF.out.keep HSO.out.1 hgx, so_set HSO.out.2 _ _ hRBs⟩ ((Gr.refl _).drewN 3)
      have cR' : ((wr.setCell ⟨RB, 0, none⟩ (.int .u64 (X2 : Int))).drewN 3).cell? ⟨RB, 0, none⟩ = some (.int .u64 (X2 : Int)) := by
        rw [World.cell?_drewN]; exact World.cell?_setCell_same _ _ _ cR
      have fR' : ((wr.setCell ⟨RB, 0, none⟩ (.int .u64 (X2 : Int))).drewN 3).frozen? ⟨RB, 0, none⟩ = false := by
        rw [World.frozen?_drewN]; simpa using fR
      generalize (wr.setCell ⟨RB, 0, none⟩ (.int .u64 (X2 : Int))).drewN 3 = w4 at hNext hso2 cR' fR'
      obtain ⟨c0, c1⟩ := HBX.out.so hso2 hDB
      clear cR fR hgx c0
      by_cases hLO : L ≤ O
      · have hLOz : decide ((L : Int) ≤ (O : Int)) = true := by simp; omega
        obtain ⟨w3, hs, k3⟩ := (SoAt.start (B := B) hso2.1).swapI HS.out ((a : Int) + (L : Int) / 4 * 2 - 1 + (t : Int)) ((a : Int) + ((O : Int) - (L : Int))) (a + L / 4 * 2 - 1 + t) (a + (O - L)) (by omega) (by omega) (by omega) (by omega)
        have K3 := Lib.hid (hso2.step k3)
        have z0 := k3.keeps hRB cR'
        have z1 := (k3.2.frozen 0 (lt_of_cell cR') hRB).trans fR'
        clear k3 hso2
        go_wp2_with (first
          | (go_at_call 105; refine hNext.mono ?_; rintro e wq ⟨rfl, rfl⟩))
        go_roundg (3 - (t + 1))
        case measure => omega
        case rel => exact ⟨t + 1, xorNext r, swp dk (a + L / 4 * 2 - 1 + t) (a + (O - L)), by congr 1; push_cast; omega, by omega, Nat.le_refl _, K3.out, by rw [← HN.out.1]; exact z0, z1, Lib.hid (by rw [← HE.out, bp_step a L M _ t r dk ((O - L)) ht3 (by rw [← HN.out.2, if_pos (by omega)])])⟩
      · have hLOz : decide ((L : Int) ≤ (O : Int)) = false := by simp; omega
        obtain ⟨w3, hs, k3⟩ := (SoAt.start (B := B) hso2.1).swapI HS.out ((a : Int) + (L : Int) / 4 * 2 - 1 + (t : Int)) ((a : Int) + (O : Int)) (a + L / 4 * 2 - 1 + t) (a + O) (by omega) (by omega) (by omega) (by omega)
        have K3 := Lib.hid (hso2.step k3)
        have z0 := k3.keeps hRB cR'
        have z1 := (k3.2.frozen 0 (lt_of_cell cR') hRB).trans fR'
        clear k3 hso2
        go_wp2_with (first
          | (go_at_call 105; refine hNext.mono ?_; rintro e wq ⟨rfl, rfl⟩))
        go_roundg (3 - (t + 1))
        case measure => omega
        case rel => exact ⟨t + 1, xorNext r, swp dk (a + L / 4 * 2 - 1 + t) (a + O), by congr 1; push_cast; omega, by omega, Nat.le_refl _, K3.out, by rw [← HN.out.1]; exact z0, z1, Lib.hid (by rw [← HE.out, bp_step a L M _ t r dk (O) ht3 (by rw [← HN.out.2, if_neg (by omega)])])⟩
    · obtain rfl : t = 3 := by omega
      have hle : ¬ ((a : Int) + (L : Int) / 4 * 2 - 1 + ((3 : Nat) : Int) ≤ (a : Int) + (L : Int) / 4 * 2 + 1) := by omega
      go_wp2_with fail
      go_end0
      refine ⟨rfl, HFIN.out _ _ ?_⟩
      rw [← HE.out]
      exact HSO.out
end
end Go.Proofs.Ytkdplnbdhkckhaa
