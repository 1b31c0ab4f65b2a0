/-
  For every input the law MatchParses returns true, and its argument reads as it did; the listed variables (the table of ends, errors.errorType and two of the library's tables) are tied to the program's text. No other conditions.
-/
import Derived.Test.YthenhglpljdhfaaDoorCards
import Derived.Test.YthenhglpljdhfaaDoorTie
import Derived.Test.YthenhglpljdhfaaDoorLaidE
import Derived.Test.YthenhglpljdhfaaDoorMtK
import Derived.Test.YthenhglpljdhfaaDoorMtW
import Derived.ProofKit
import Derived.LaidMore
import Derived.OpenShut
import Derived.Stop.Joined
import Derived.ShutString
import Derived.ChangeOld
import Derived.SevenTiedAt
namespace Go.Proofs.YthenhglpljdhfaaDoor
open Go Go.ChangeShapes Go.WideShapes Go.ChangeAt Go.RowKit

theorem gEnds : Tryd.prog.globalNamed "concordance/word.ends" = some 0 := by kernel_rfl
theorem tEnds : (Tryd.prog.globals[0]?).map (·.type) = some 94 := by kernel_rfl

theorem pair_of {enc : TypeId × Value → Unit} {w : World} {spare : Nat → Bool} {fuel : Nat} {cs : List Value} {x : DataW Unit × List MemPlace} {a b : List UInt8}
    (h : DataW.trod enc Tryd.prog w 0 spare false fuel 93 cs = some x) (hx : x.1 = .agg [.lit (.string a), .lit (.string b)]) : cs = [.string ⟨a.toArray⟩, .string ⟨b.toArray⟩] := by
  obtain ⟨xs, m, _, rfl, hlen, hn, hel⟩ := DataW.trod_array Tryd.underlying93 h
  have c1 : Tryd.prog.cellsOf 9 = 1 := by kernel_rfl
  have c2 : Tryd.prog.cellsOf 93 = 2 := by kernel_rfl
  rw [c2] at hlen
  simp only [c1, Nat.mul_one] at hel
  match cs, hlen, xs, hn with
  | [c0, c1], _, [x0, x1], _ =>
    have h0 := hel 0 (by decide)
    have h1 := hel 1 (by decide)
    obtain ⟨s0, e0, g0, _⟩ := DataW.trod_string Tryd.underlying9 (show DataW.trod enc Tryd.prog w 0 spare false m 9 [c0] = some x0 from h0)
    obtain ⟨s1, e1, g1, _⟩ := DataW.trod_string Tryd.underlying9 (show DataW.trod enc Tryd.prog w 0 spare false m 9 [c1] = some x1 from h1)
    simp only [List.cons.injEq, and_true] at e0 e1
    subst e0 e1 g0 g1
    simp only [List.map_cons, List.map_nil, DataW.agg.injEq, List.cons.injEq, DataW.lit.injEq, Lit.string.injEq, and_true] at hx
    obtain ⟨rfl, rfl⟩ := hx
    rfl

theorem ends_err {W : World} (h : laidMetH Tryd.prog Rows.matchParsesRow.laid W) : EndsAt W ∧ ErrTypeAt W := by
  have h' : laidMet Tryd.prog [("unicode/utf8.acceptRanges", Rows.laid_unicode_utf8_acceptRanges), ("concordance/word.ends", Rows.laid_concordance_word_ends), ("unicode/utf8.first", Rows.laid_unicode_utf8_first)] W ∧ handlesMet Tryd.prog [("errors.errorType", Rows.laid_errors_errorType)] W := h
  refine ⟨?_, err_of_handles h'.2 (List.mem_singleton.2 rfl)⟩
  obtain ⟨ps, ⟨ga, ta, csa, fa, pa, qa, _, _, _, _, hrest, _⟩, _, _⟩ := h'.1
  obtain ⟨g0, t0, cs0, f0, p0, q0, hg0, ht0, hv0, hd0, _, _⟩ := hrest
  obtain rfl := Option.some.inj (gEnds.symm.trans hg0)
  obtain rfl := Option.some.inj (tEnds.symm.trans ht0)
  obtain ⟨xs, m, _, hx, hlen, hn, hel⟩ := DataW.trod_array Tryd.underlying94 hd0
  have c2 : Tryd.prog.cellsOf 93 = 2 := by kernel_rfl
  have c14 : Tryd.prog.cellsOf 94 = 14 := by kernel_rfl
  rw [c14] at hlen
  simp only [c2] at hel
  simp only [Prod.mk.injEq] at hx
  have hx1 := hx.1
  unfold Rows.laid_concordance_word_ends at hx1
  simp only [DataW.agg.injEq] at hx1
  have key : cs0.toList = endsCells.toList := by
    generalize cs0.toList = l at *
    match l, hlen, xs, hn, hx1, hel with
    | [a0, a1, a2, a3, a4, a5, a6, a7, a8, a9, a10, a11, a12, a13], _, [x0, x1, x2, x3, x4, x5, x6], _, hx1, hel =>
      simp only [List.map_cons, List.map_nil, List.cons.injEq, and_true] at hx1
      have e0 := pair_of (hel 0 (by decide)) hx1.1.symm
      have e1 := pair_of (hel 1 (by decide)) hx1.2.1.symm
      have e2 := pair_of (hel 2 (by decide)) hx1.2.2.1.symm
      have e3 := pair_of (hel 3 (by decide)) hx1.2.2.2.1.symm
      have e4 := pair_of (hel 4 (by decide)) hx1.2.2.2.2.1.symm
      have e5 := pair_of (hel 5 (by decide)) hx1.2.2.2.2.2.1.symm
      have e6 := pair_of (hel 6 (by decide)) hx1.2.2.2.2.2.2.symm
      simp only [Nat.reduceMul, List.drop_succ_cons, List.drop_zero, List.take_succ_cons, List.take_zero, List.cons.injEq, and_true] at e0 e1 e2 e3 e4 e5 e6
      simp only [e0, e1, e2, e3, e4, e5, e6, endsCells]
  have key2 : cs0 = endsCells := Array.ext' key
  subst key2
  simp only [World.var?, hg0, Option.bind_some] at hv0
  split at hv0
  · rename_i cs t fr hh
    obtain rfl := Option.some.inj hv0
    exact ⟨_, _, hh⟩
  · cases hv0
end Go.Proofs.YthenhglpljdhfaaDoor
namespace Go.Proofs.YthenhglpljdhfaaDoor.matchParsesDone
open Go.ChangeShapes Go.WideShapes Go.ChangeAt Go.RowKit
open Go.ChangeMaps (open_string shut_string)

theorem own : ownKnob Tryd.prog.godebug = none := by kernel_rfl
theorem laidOut : laidOutB Tryd.prog = true := by kernel_rfl

set_option maxRecDepth 100000 in
set_option maxHeartbeats 1600000 in
theorem lifted (os : Os) (started : os.Started) (H : Type) (enc : TypeId × Value → H) :
    ReturnsInHanded {} Tryd.checked os 9 .any (fun w args => (Rows.matchParsesSpec.pre enc Tryd.prog Tryd.f9 [] false w args ∧ laidMetH Tryd.prog Rows.matchParsesRow.laid w) ∧ sizedMet enc Tryd.prog Tryd.f9 (OpenSpec.ofChange Rows.matchParsesSpec) false w args)
      (Rows.matchParsesSpec.post enc Tryd.prog Tryd.f9 false true false false) := by
  refine returnsInHanded_of_change_and (C := Tryd.checked) (X := fun w _ => laidMetH Tryd.prog Rows.matchParsesRow.laid w) (fun _ _ _ hh h => h.of_heap hh) own started (by kernel_rfl) Tryd.func9
    (ChangeSpec.witness_shaped (enc := enc) (C := Tryd.checked) (os := os) (X := fun w _ => laidMetH Tryd.prog Rows.matchParsesRow.laid w) false (start os) #[.string ⟨#[]⟩] 8 (start_os os) (start_shaped os) (by kernel_rfl) (by kernel_rfl) (by kernel_rfl) (door_met os _)) ?_
  intro W base args ds gs before hval0 hW _ _ hL _
  have hval : ∀ (j : Nat) t v, Tryd.f9.params[j]? = some t → args[j]? = some v → Value.okWide Tryd.prog W .any base t v := hval0
  have hW' := hW
  obtain ⟨p, q, hA0, hV, rfl, hfz, hnd⟩ := hW
  have hA : DataW.TrodAll enc Tryd.prog W 0 (fun _ => true) true Tryd.f9.params.toList args.toList ds p := hA0
  rw [Tryd.params9] at hA hval
  obtain ⟨v0, d0, rfl, rfl, h0⟩ := trodAll_one hA
  obtain ⟨rfl, rfl⟩ := trodVars_none hV
  obtain ⟨s, rfl, rfl, rfl, hs⟩ := open_string Tryd.underlying9 (hval 0 9 v0 rfl rfl) h0
  have hE := ends_err hL
  clear hA0 hval0
  simp only [List.append_nil] at hW'
  refine (matchParses_walk s hs W hE.1 hE.2).mono fun e W' ⟨he, bel⟩ => ?_
  subst he
  exact ⟨_, rfl, _, _, _, [], _, [], hW', trodAll_mk1 (shut_bool Tryd.underlying4 _), trodAll_mk1 (shut_string Tryd.underlying9 hs), rfl, Below.frame bel _, fun h => by cases h⟩

theorem row_holds : Rows.MatchParsesSaid :=
  OpenClaim.holds_of_wide 9 Tryd.f9 rfl rfl rfl rfl rfl rfl rfl ⟨rfl, rfl, rfl, rfl, rfl⟩ rfl rfl rfl rfl rfl (by kernel_rfl) Tryd.func9 (by kernel_rfl)
    (of_decide_eq_true (by kernel_rfl)) (by unfold Func.isWrapper; first | (rw [if_pos (by decide +kernel)]; kernel_rfl) | (rw [if_neg (by decide +kernel)]; exact ⟨rfl, rfl⟩))
    (fun os started H enc _ => lifted os started H enc)

theorem proved : Rows.MatchParsesCardSaid :=
  Claim7.holds_tied_plain_at .later [] [.data, .handle, .data, .pinned] true Rows.matchParsesCard.stood.harness true
    row_holds (fun _ h => by cases h) (by kernel_rfl) (fun _ h => by cases h) matchParses_row_tie rfl ⟨rfl, rfl⟩ (by kernel_rfl) rfl
    (fun f fn hf hfn => by
      obtain rfl : f = 9 := Option.some.inj ((show Tryd.prog.funcNamed Rows.matchParsesRow.func = some 9 by kernel_rfl).symm.trans hf) |>.symm
      obtain rfl : fn = Tryd.f9 := (Option.some.inj (Tryd.func9.symm.trans hfn)).symm
      exact ⟨by kernel_rfl, fun j t ht => by
        rw [Tryd.params9] at ht
        have hm : t ∈ [9] := by simpa using Array.mem_of_getElem? ht
        have hall : ([9].all fun u => !Tryd.prog.wantsStandIn u) = true := by kernel_rfl
        exact (show Tryd.prog.wantsStandIn t = false by simpa using List.all_eq_true.1 hall t hm)⟩)
    (by kernel_rfl)
#print axioms proved
end Go.Proofs.YthenhglpljdhfaaDoor.matchParsesDone
