/-
  The small functions of the law WordsPart: sameTexts, pick, worded.
-/
import Derived.Test.YthenhglpljdhfaaDoorWordPartP
namespace Go.Proofs.YthenhglpljdhfaaDoor
open Go Go.RowKit

set_option maxHeartbeats 400000 in
theorem sameTexts_k (ws : List ByteArray) (b off c b' off' c' : Nat) (ao ao' : Option Addr) (hao : 0 < ws.length → ao = some ⟨b, off, none⟩) (hao' : 0 < ws.length → ao' = some ⟨b', off', none⟩) (hl : ws.length ≤ 4611686018427387904) (w : World)
    (hc : StrsAt w b off ws) (hc' : StrsAt w b' off' ws) :
    Calls Tryd.prog 19 #[.slice ao ws.length c, .slice ao' ws.length c'] w (Ret w (.bool true)) := by
  have HC := Lib.hid hc
  have HA := Lib.hid hao
  have HC' := Lib.hid hc'
  have HA' := Lib.hid hao'
  clear hc hao hc' hao'
  go_enter Tryd.func19, Tryd.ntmps19
  go_wp2_with fail
  go_loopw [5] (fun i w' => ∃ j : Nat, j ≤ ws.length ∧ i = .int .i64 j ∧ Gr w w') (fun i _ => ws.length - (intOf i).toNat)
  case atStart => exact ⟨0, Nat.zero_le _, rfl, Gr.refl _⟩
  case round =>
    obtain ⟨j, hj, rfl, hg⟩ := hrel
    by_cases h1 : j < ws.length
    · obtain rfl := HA.out (by omega)
      obtain rfl := HA'.out (by omega)
      have f1 := HC.out.gr hg j h1
      have f2 := HC'.out.gr hg j h1
      have hne : (!ws[j].toList == ws[j].toList) = false := by simp
      go_wp2_with fail
      go_quiet (fail)
      go_wp2_with fail
      exact ⟨⟨j + 1, by omega, by go_num, hg.drewN _⟩, by simp [intOf]; omega⟩
    · go_wp2_with fail
      go_ret
      exact Ret.mk rfl hg


theorem u64_wrap (n : Int) : IntKind.u64.wrap n = n % 18446744073709551616 := rfl
theorem pick_num (n k : Int) (hk : 0 < k) (hk2 : k ≤ 9223372036854775807) : wrap64 ((IntKind.u64.wrap n).tmod k) = n % 18446744073709551616 % k := by
  rw [u64_wrap, Int.tmod_eq_emod_of_nonneg (Int.emod_nonneg _ (by decide))]
  have h1 := Int.emod_nonneg (n % 18446744073709551616) (b := k) (by omega)
  have h2 := Int.emod_lt_of_pos (n % 18446744073709551616) hk
  generalize n % 18446744073709551616 % k = m at h1 h2
  unfold wrap64
  omega
theorem pick_t (n k : Int) (hk : 0 < k) (hk2 : k ≤ 9223372036854775807) (w : World) : Calls Tryd.prog 18 #[.int .i64 n, .int .i64 k] w (Ret w (.int .i64 (n % 18446744073709551616 % k))) := by
  go_enter Tryd.func18, Tryd.ntmps18
  go_wp2_with fail
  go_ret
  exact Ret.mk (congrArg (Value.int .i64) (pick_num n k hk hk2)) (Gr.refl _)
theorem worded_words : splitS ⟨#[74, 117, 109, 112, 105, 110, 103, 45, 102, 111, 120, 101, 115, 33]⟩ = [⟨#[106, 117, 109, 112]⟩, ⟨#[102, 111, 120, 101]⟩] := by kernel_rfl
theorem worded_ties : stemS ⟨#[116, 105, 101, 115]⟩ = ⟨#[116, 105, 101, 115]⟩ := by kernel_rfl
theorem worded_parties : stemS ⟨#[112, 97, 114, 116, 105, 101, 115]⟩ = ⟨#[112, 97, 114, 116, 121]⟩ := by kernel_rfl
theorem two_at (w : World) (x y : ByteArray) : StrsAt (w.alloc (Obj.cells #[Value.string x, Value.string y] 9)) w.heap.size 0 [x, y] := by
  intro i h
  have h3 : i < 2 := h
  rcases (show i = 0 ∨ i = 1 by omega) with rfl | rfl <;> (rw [World.cell?_alloc_new]; rfl)
set_option maxHeartbeats 800000 in
theorem worded_t (w : World) (he : EndsAt w) : Calls Tryd.prog 17 #[] w (Ret w (.bool true)) := by
  have HE := Lib.hid he
  clear he
  go_enter Tryd.func17, Tryd.ntmps17
  go_wp2_with fail
  refine (split_t _ (by decide) _ HE.out).mono ?_
  rintro e w1 ⟨v1, rfl, ho, hg⟩
  rw [worded_words] at ho
  obtain ⟨ao, c, b, rfl, hao, hst⟩ := own_open ho
  clear ho
  have HA := Lib.hid hao
  have HS := Lib.hid hst
  clear hao hst
  go_wp2_with fail
  refine (sameTexts_k [⟨#[106, 117, 109, 112]⟩, ⟨#[102, 111, 120, 101]⟩] b 0 c w1.heap.size 0 2 ao _ HA.out (fun _ => rfl) (by decide) _ (HS.out.gr ((Gr.refl _).alloc _)) (two_at _ _ _)).mono ?_
  rintro e w2 ⟨rfl, hg2⟩
  have hg3 := (hg.alloc _).trans hg2
  clear hg hg2
  go_wp2_with fail
  refine (stem_t _ (by decide) _ (HE.out.gr hg3)).mono ?_
  rintro e w3 ⟨rfl, hg4⟩
  rw [worded_ties]
  have hg := hg3.trans hg4
  clear hg3 hg4
  go_wp2_with fail
  refine (stem_t _ (by decide) _ (HE.out.gr hg)).mono ?_
  rintro e w4 ⟨rfl, hg4⟩
  rw [worded_parties]
  have hg3 := hg.trans hg4
  clear hg hg4
  go_wp2_with fail
  go_ret
  exact Ret.mk rfl hg3
end Go.Proofs.YthenhglpljdhfaaDoor
