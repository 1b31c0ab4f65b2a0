/-
  For every input the law DiskTears returns true, and its arguments read as they did; the listed variable errors.errorType is tied to the program's text. No other conditions.
-/
import Derived.Test.YthenhglpljdhfaaDoorCards
import Derived.Test.YthenhglpljdhfaaDoorTie
import Derived.Test.YthenhglpljdhfaaDoorLaidE
import Derived.Test.YthenhglpljdhfaaDoorTearL
import Derived.Test.YthenhglpljdhfaaDoorFields
import Derived.ShutString
import Derived.ChangeOld
import Derived.SevenTiedAt
namespace Go.Proofs.YthenhglpljdhfaaDoor
open Go Go.ChangeShapes Go.WideShapes Go.ChangeAt Go.RowKit
/-- A list of numbers that came in. -/
theorem open_ints {H : Type} {enc : TypeId × Value → H} {w : World} {base : Nat} {spare : Nat → Bool} {held : Bool} {fuel : Nat} {ao : Option Addr} {len cap : Nat} {x : DataW H × List MemPlace}
    (h : DataW.trod enc Tryd.prog w base spare held fuel 51 [.slice ao len cap] = some x) :
    ∃ (xs : List Int) (b off : Nat), xs.length = len ∧ len ≤ 9223372036854775807 ∧ (0 < xs.length → ao = some ⟨b, off, none⟩) ∧ IntsAt w b off xs ∧ ∀ i (hi : i < xs.length), I64 xs[i] := by
  have hC : Tryd.prog.cellsOf 3 = 1 := by kernel_rfl
  rcases Go.Deep.open_slice Tryd.underlying51 h with ⟨hcs, _⟩ | ⟨a, l, c, m, n, D, Pl, hcs, _, hlc, hcm, hm, _, hf⟩
  · simp only [List.cons.injEq, Value.slice.injEq] at hcs
    obtain ⟨⟨rfl, rfl, rfl⟩, _⟩ := hcs
    exact ⟨[], 0, 0, rfl, by omega, fun h => by simp at h, fun i hi => by simp at hi, fun i hi => by simp at hi⟩
  · simp only [List.cons.injEq, Value.slice.injEq] at hcs
    obtain ⟨⟨rfl, rfl, rfl⟩, _⟩ := hcs
    have hlm : len ≤ m := by rw [hm]; split <;> omega
    have hcell : ∀ i, i < len → ∃ v : Int, w.cell? (a.add i) = some (.int .i64 v) ∧ I64 v := by
      intro i hi
      obtain ⟨cs', hc, ht'⟩ := hf i (by omega)
      rw [hC] at hc
      obtain ⟨_, hcl, hat⟩ := World.cells?_some hc
      have h0 := hat 0 (by omega)
      match cs', hcl with
      | [v0], _ =>
        obtain ⟨n0, e0, _, w0⟩ := DataW.trod_int Tryd.underlying3 ht'
        simp only [List.cons.injEq, and_true] at e0
        subst e0
        refine ⟨n0, ?_, wf_range w0⟩
        rw [Go.Deep.add_add, Nat.mul_one, Nat.add_zero] at h0
        exact h0
    obtain ⟨xs, hl, hx⟩ := list_of hcell
    rcases Nat.eq_zero_or_pos len with h0 | h0
    · subst h0
      exact ⟨xs, 0, 0, hl, by omega, fun h => by omega, fun i hi => by omega, fun i hi => by omega⟩
    · obtain ⟨b, off, spot⟩ := a
      have hs := World.cell?_spot (hx 0 (by omega)).1
      have hs' : spot = none := by simpa [Addr.add] using hs
      subst hs'
      have he : ∀ k, (⟨b, off, none⟩ : Addr).add k = ⟨b, off + k, none⟩ := fun k => by
        unfold Addr.add
        split <;> simp_all
      refine ⟨xs, b, off, hl, Nat.le_trans hlc (Nat.le_trans hcm (by decide)), fun _ => rfl, fun i hi => ?_, fun i hi => (hx i hi).2⟩
      have := (hx i hi).1
      rw [he] at this
      exact this
end Go.Proofs.YthenhglpljdhfaaDoor
namespace Go.Proofs.YthenhglpljdhfaaDoor.diskTearsDone
open Go.ChangeShapes Go.WideShapes Go.ChangeAt Go.RowKit
theorem own : ownKnob Tryd.prog.godebug = none := by kernel_rfl
theorem laidOut : laidOutB Tryd.prog = true := by kernel_rfl

theorem door_met (os : Os) (args : Array Value) : laidMetH Tryd.prog Rows.diskTearsRow.laid ((World.doorLaid Tryd.prog 43 os).forCall (fun _ _ => 0) ⟨#[], args, []⟩).memory :=
  laidMetH_of_parts3 (fuel := 8) (laidMet_of_run' 8 (by kernel_rfl) (by kernel_rfl)) (by kernel_rfl) (by kernel_rfl)

set_option maxRecDepth 100000 in
theorem lifted (os : Os) (started : os.Started) (H : Type) (enc : TypeId × Value → H) :
    ReturnsInHanded {} Tryd.checked os 6 .any (fun w args => (Rows.diskTearsSpec.pre enc Tryd.prog Tryd.f6 [] false w args ∧ laidMetH Tryd.prog Rows.diskTearsRow.laid w) ∧ sizedMet enc Tryd.prog Tryd.f6 (OpenSpec.ofChange Rows.diskTearsSpec) false w args)
      (Rows.diskTearsSpec.post enc Tryd.prog Tryd.f6 false true false false) := by
  refine returnsInHanded_of_change_and (C := Tryd.checked) (X := fun w _ => laidMetH Tryd.prog Rows.diskTearsRow.laid w) (fun _ _ _ hh h => h.of_heap hh) own started (by kernel_rfl) Tryd.func6
    (ChangeSpec.witness_shaped (enc := enc) (C := Tryd.checked) (os := os) (X := fun w _ => laidMetH Tryd.prog Rows.diskTearsRow.laid w) false (World.doorLaid Tryd.prog 43 os) #[.slice none 0 0, .slice none 0 0, .int .i64 0, .int .i64 0] 8 rfl (World.shaped_of_RefB (by kernel_rfl) (by kernel_rfl)) (by kernel_rfl) (by kernel_rfl) (by kernel_rfl) (door_met os _)) ?_
  intro W base args ds gs before hval0 hW _ _ hL _
  have hval : ∀ (j : Nat) t v, Tryd.f6.params[j]? = some t → args[j]? = some v → Value.okWide Tryd.prog W .any base t v := hval0
  have hW' := hW
  obtain ⟨p, q, hA0, hV, rfl, hfz, hnd⟩ := hW
  have hA : DataW.TrodAll enc Tryd.prog W 0 (fun _ => true) true Tryd.f6.params.toList args.toList ds p := hA0
  rw [Tryd.params6] at hA hval
  obtain ⟨v0, vs0, d0, ds0, p0, q0, hargs, rfl, rfl, h0, r0⟩ := trodAll_cons hA
  obtain ⟨v1, vs1, d1, ds1, p1, q1, rfl, rfl, rfl, h1, r1⟩ := trodAll_cons r0
  obtain ⟨v2, vs2, d2, ds2, p2, q2, rfl, rfl, rfl, h2, r2⟩ := trodAll_cons r1
  obtain ⟨v3, vs3, d3, ds3, p3, q3, rfl, rfl, rfl, h3, r3⟩ := trodAll_cons r2
  obtain ⟨rfl, rfl, rfl⟩ := trodAll_nil r3
  obtain rfl : args = #[v0, v1, v2, v3] := by cases args; simp_all
  obtain ⟨rfl, rfl⟩ := trodVars_none hV
  obtain ⟨a0, len0, cap0, rfl⟩ := okWide_slice Tryd.underlying51 (hval 0 51 v0 rfl rfl)
  obtain ⟨a1, len1, cap1, rfl⟩ := okWide_slice Tryd.underlying51 (hval 1 51 v1 rfl rfl)
  obtain ⟨n, rfl, rfl, rfl, hn⟩ := open_int Tryd.underlying3 (hval 2 3 v2 rfl rfl) h2
  obtain ⟨u, rfl, rfl, rfl, hu⟩ := open_int Tryd.underlying3 (hval 3 3 v3 rfl rfl) h3
  have k0 := h0
  have k1 := h1
  have lt0 : ∀ x ∈ p0, x.block < W.heap.size := by obtain ⟨m, hm⟩ := k0; exact DataW.trod_lt m _ _ _ hm
  have lt1 : ∀ x ∈ p1, x.block < W.heap.size := by obtain ⟨m, hm⟩ := k1; exact DataW.trod_lt m _ _ _ hm
  obtain ⟨f0, hf0⟩ := h0
  obtain ⟨f1, hf1⟩ := h1
  obtain ⟨xs, b, off, hl0, hm0, hao0, hc0, hr0⟩ := open_ints hf0
  obtain ⟨ys, b', off', hl1, hm1, hao1, hc1, hr1⟩ := open_ints hf1
  subst hl0 hl1
  have hE := err_of_laid hL
  clear hA0 hval0
  simp only [List.append_nil] at hW'
  refine (diskTears_walk xs ys b off cap0 a0 hao0 hm0 b' off' cap1 a1 hao1 hm1 n u hr0 hr1 (wf_range hn) W hc0 hc1 hE).mono fun e W' ⟨he, bel⟩ => ?_
  subst he
  exact ⟨_, rfl, _, _, _, [], _, [], hW', trodAll_mk1 (shut_bool Tryd.underlying4 _), (trodAll_cons_mk (Below.trod laidOut (by kernel_rfl) (of_decide_eq_true (by kernel_rfl)) k0 bel lt0) (trodAll_cons_mk (Below.trod laidOut (by kernel_rfl) (of_decide_eq_true (by kernel_rfl)) k1 bel lt1) (trodAll_cons_mk (shut_int Tryd.underlying3 hn) (trodAll_mk1 (shut_int Tryd.underlying3 hu))))), rfl, Below.frame bel _, fun h => by cases h⟩

theorem row_holds : Rows.DiskTearsSaid :=
  OpenClaim.holds_of_wide 6 Tryd.f6 rfl rfl rfl rfl rfl rfl rfl ⟨rfl, rfl, rfl, rfl, rfl⟩ rfl rfl rfl rfl rfl (by kernel_rfl) Tryd.func6 (by kernel_rfl)
    (of_decide_eq_true (by kernel_rfl)) (by unfold Func.isWrapper; first | (rw [if_pos (by decide +kernel)]; kernel_rfl) | (rw [if_neg (by decide +kernel)]; exact ⟨rfl, rfl⟩))
    (fun os started H enc _ => lifted os started H enc)

theorem proved : Rows.DiskTearsCardSaid :=
  Claim7.holds_tied_plain_at .later [] [.handle] true Rows.diskTearsCard.stood.harness true
    row_holds (fun _ h => by cases h) (by kernel_rfl) (fun _ h => by cases h) diskTears_row_tie rfl ⟨rfl, rfl⟩ (by kernel_rfl) rfl
    (fun f fn hf hfn => by
      obtain rfl : f = 6 := Option.some.inj ((show Tryd.prog.funcNamed Rows.diskTearsRow.func = some 6 by kernel_rfl).symm.trans hf) |>.symm
      obtain rfl : fn = Tryd.f6 := (Option.some.inj (Tryd.func6.symm.trans hfn)).symm
      exact ⟨by kernel_rfl, fun j t ht => by
        rw [Tryd.params6] at ht
        have hm : t ∈ [51, 51, 3, 3] := by simpa using Array.mem_of_getElem? ht
        have hall : ([51, 51, 3, 3].all fun u => !Tryd.prog.wantsStandIn u) = true := by kernel_rfl
        exact (show Tryd.prog.wantsStandIn t = false by simpa using List.all_eq_true.1 hall t hm)⟩)
    (by kernel_rfl)
#print axioms proved
end Go.Proofs.YthenhglpljdhfaaDoor.diskTearsDone
