/-
  For every input the law PostingSets returns true, and its arguments read as they did. No conditions.
-/
import Derived.Test.YtkdplnbdhkckhaaRows
import Derived.Test.YtkdplnbdhkckhaaOpenP
import Derived.Test.YtkdplnbdhkckhaaSetV
import Derived.HandedShaped
import Derived.OpenShut
import Derived.ShutString
namespace Go.Proofs.Ytkdplnbdhkckhaa.postingSetsDone
open Go.ChangeShapes Go.WideShapes Go.ChangeAt Go.RowKit

theorem own : ownKnob Try.prog.godebug = none := by kernel_rfl
theorem laidOut : laidOutB Try.prog = true := by kernel_rfl
theorem isP_of {w : World} {xs : List GPlace} {b off c : Nat} {ao : Option Addr} (hao : 0 < xs.length → ao = some ⟨b, off, none⟩) (hc : PlacesAt w b off xs) (h0 : ao = none → xs.length = 0 ∧ c = 0) (h1 : ∀ x, ao = some x → x.spot = none ∧ x.block < w.heap.size) : IsP w (.slice ao xs.length c) xs := by
  cases ao with
  | none =>
    obtain ⟨e, rfl⟩ := h0 rfl
    obtain rfl := List.length_eq_zero_iff.1 e
    exact .inl ⟨rfl, rfl⟩
  | some a =>
    obtain ⟨h2, h3⟩ := h1 a rfl
    obtain ⟨k, o, s⟩ := a
    obtain rfl : s = none := h2
    refine .inr ⟨k, o, c, rfl, h3, fun i hi => ?_⟩
    have e := Option.some.inj (hao (by omega))
    injection e with e1 e2
    rw [e1, e2]
    exact hc i hi

set_option maxRecDepth 100000 in
theorem lifted (os : Os) (started : os.Started) (H : Type) (enc : TypeId × Value → H) :
    ReturnsInHanded {} Try.checked os 4 .any (Rows.postingSetsSpec.pre6 enc Try.prog Try.f4 Rows.postingSetsRow.domain false) (Rows.postingSetsSpec.post enc Try.prog Try.f4 false true false false) := by
  refine returnsInHanded_of_change_shaped (C := Try.checked) own started (by kernel_rfl) Try.func4
    (ChangeSpec.witness6 (enc := enc) (C := Try.checked) false ⟨#[], #[.slice none 0 0, .slice none 0 0, .int .i64 0, .int .i64 0], []⟩ 8 (by kernel_rfl) (by kernel_rfl) (by kernel_rfl) (by kernel_rfl)) ?_
  intro W base args ds gs before hval0 hW hcnd _ hsh _
  have hval : ∀ (j : Nat) t v, Try.f4.params[j]? = some t → args[j]? = some v → Value.okWide Try.prog W .any base t v := hval0
  have hW' := hW
  obtain ⟨p, q, hA0, hV, rfl, hfz, hnd⟩ := hW
  have hA : DataW.TrodAll enc Try.prog W 0 (fun _ => true) true Try.f4.params.toList args.toList ds p := hA0
  rw [Try.params4] at hA hval
  obtain ⟨v0, vs0, d0, ds0, p0, q0, hargs, rfl, rfl, h0, r0⟩ := trodAll_cons hA
  obtain ⟨v1, vs1, d1, ds1, p1, q1, rfl, rfl, rfl, h1, r1⟩ := trodAll_cons r0
  obtain ⟨v2, vs2, d2, ds2, p2, q2, rfl, rfl, rfl, h2, r2⟩ := trodAll_cons r1
  obtain ⟨v3, vs3, d3, ds3, p3, q3, rfl, rfl, rfl, h3, r3⟩ := trodAll_cons r2
  obtain ⟨rfl, rfl, rfl⟩ := trodAll_nil r3
  obtain rfl : args = #[v0, v1, v2, v3] := by cases args; simp_all
  obtain ⟨rfl, rfl⟩ := trodVars_none hV
  obtain ⟨a0, len0, cap0, rfl, z0, l0⟩ := okWide_slice_at Try.underlying22 (hval 0 22 v0 rfl rfl)
  obtain ⟨a1, len1, cap1, rfl, z1, l1⟩ := okWide_slice_at Try.underlying22 (hval 1 22 v1 rfl rfl)
  have k2 := h2
  obtain ⟨row, rfl, rfl, rfl, hs⟩ := open_int Try.underlying3 (hval 2 3 v2 rfl rfl) h2
  obtain ⟨far, rfl, rfl, rfl, hs3⟩ := open_int Try.underlying3 (hval 3 3 v3 rfl rfl) h3
  have k0 := h0
  have k1 := h1
  have lt0 : ∀ x ∈ p0, x.block < W.heap.size := by obtain ⟨m, hm⟩ := k0; exact DataW.trod_lt m _ _ _ hm
  have lt1 : ∀ x ∈ p1, x.block < W.heap.size := by obtain ⟨m, hm⟩ := k1; exact DataW.trod_lt m _ _ _ hm
  obtain ⟨f0, hf0⟩ := h0
  obtain ⟨f1, hf1⟩ := h1
  obtain ⟨xs, b, off, hl0, hm0, hao0, hc0, hr0⟩ := open_places hf0
  obtain ⟨ys, b', off', hl1, hm1, hao1, hc1, hr1⟩ := open_places hf1
  subst hl0 hl1
  clear hA0 hval0
  refine (sets_walk xs ys _ _ row far W (isP_of hao0 hc0 z0 l0) (isP_of hao1 hc1 z1 l1) hm0 hm1).mono fun e W' ⟨he, bel⟩ => ?_
  subst he
  exact ⟨_, rfl, _, _, _, [], _, [], hW', trodAll_mk1 (shut_bool Try.underlying4 _), (trodAll_cons_mk (Below.trod laidOut (by kernel_rfl) (of_decide_eq_true (by kernel_rfl)) k0 bel lt0) (trodAll_cons_mk (Below.trod laidOut (by kernel_rfl) (of_decide_eq_true (by kernel_rfl)) k1 bel lt1) (trodAll_cons_mk (shut_int Try.underlying3 hs) (trodAll_mk1 (shut_int Try.underlying3 hs3))))), rfl, Below.frame bel _, fun h => by cases h⟩

theorem proved : Rows.PostingSetsSaid :=
  OpenClaim.holds_of_wide 4 Try.f4 rfl rfl rfl rfl rfl rfl rfl ⟨rfl, rfl, rfl, rfl, rfl⟩ rfl rfl rfl rfl rfl (by kernel_rfl) Try.func4 (by kernel_rfl)
    (of_decide_eq_true (by kernel_rfl)) (by unfold Func.isWrapper; first | (rw [if_pos (by decide +kernel)]; kernel_rfl) | (rw [if_neg (by decide +kernel)]; exact ⟨rfl, rfl⟩))
    (fun os started H enc _ => lifted os started H enc)
#print axioms proved
end Go.Proofs.Ytkdplnbdhkckhaa.postingSetsDone
