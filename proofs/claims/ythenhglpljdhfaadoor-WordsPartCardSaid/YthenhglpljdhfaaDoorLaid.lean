/-
  What the listed variable concordance/word.ends gives the walks.
-/
import Derived.Test.YthenhglpljdhfaaDoorRows
import Derived.Test.YthenhglpljdhfaaDoorWordL
import Derived.ProofKit
import Derived.LaidMore
import Derived.OpenShut
import Derived.Stop.Joined
namespace Go.Proofs.YthenhglpljdhfaaDoor
open Go.ChangeShapes Go.WideShapes Go.ChangeAt Go.RowKit

theorem gEnds : Tryd.prog.globalNamed "concordance/word.ends" = some 0 := by kernel_rfl
theorem tEnds : (Tryd.prog.globals[0]?).map (·.type) = some 94 := by kernel_rfl

theorem pair_of {enc : TypeId × Value → Unit} {w : World} {spare : Nat → Bool} {fuel : Nat} {cs : List Value} {x : DataW Unit × List MemPlace} {a b : List UInt8}
    (h : DataW.trod enc Tryd.prog w 0 spare false fuel 93 cs = some x) (hx : x.1 = .agg [.lit (.string a), .lit (.string b)]) : cs = [.string ⟨a.toArray⟩, .string ⟨b.toArray⟩] := by
  obtain ⟨xs, m, _, rfl, hlen, hn, hel⟩ := DataW.trod_array Tryd.underlying93 h
  have c1 : Tryd.prog.cellsOf 9 = 1 := by kernel_rfl
  have c2 : Tryd.prog.cellsOf 93 = 2 := by kernel_rfl
  rw [c2] at hlen
  simp only [c1, Nat.mul_one] at hel
  match cs, hlen, xs, hn with
  | [c0, c1], _, [x0, x1], _ =>
    have h0 := hel 0 (by decide)
    have h1 := hel 1 (by decide)
    obtain ⟨s0, e0, g0, _⟩ := DataW.trod_string Tryd.underlying9 (show DataW.trod enc Tryd.prog w 0 spare false m 9 [c0] = some x0 from h0)
    obtain ⟨s1, e1, g1, _⟩ := DataW.trod_string Tryd.underlying9 (show DataW.trod enc Tryd.prog w 0 spare false m 9 [c1] = some x1 from h1)
    simp only [List.cons.injEq, and_true] at e0 e1
    subst e0 e1 g0 g1
    simp only [List.map_cons, List.map_nil, DataW.agg.injEq, List.cons.injEq, DataW.lit.injEq, Lit.string.injEq, and_true] at hx
    obtain ⟨rfl, rfl⟩ := hx
    rfl

theorem ends_of_laid {W : World} (h : laidMetH Tryd.prog Rows.wordSplitsRow.laid W) : EndsAt W := by
  rw [MakeChecks.laidMetH_plain _ _ _ (by kernel_rfl)] at h
  obtain ⟨ps, ⟨g0, t0, cs0, f0, p0, q0, hg0, ht0, hv0, hd0, _, _⟩, _, _⟩ := h
  obtain rfl := Option.some.inj (gEnds.symm.trans hg0)
  obtain rfl := Option.some.inj (tEnds.symm.trans ht0)
  obtain ⟨xs, m, _, hx, hlen, hn, hel⟩ := DataW.trod_array Tryd.underlying94 hd0
  have c2 : Tryd.prog.cellsOf 93 = 2 := by kernel_rfl
  have c14 : Tryd.prog.cellsOf 94 = 14 := by kernel_rfl
  rw [c14] at hlen
  simp only [c2] at hel
  simp only [Prod.mk.injEq] at hx
  have hx1 := hx.1
  unfold Rows.laid_concordance_word_ends at hx1
  simp only [DataW.agg.injEq] at hx1
  have key : cs0.toList = endsCells.toList := by
    generalize cs0.toList = l at *
    match l, hlen, xs, hn, hx1, hel with
    | [a0, a1, a2, a3, a4, a5, a6, a7, a8, a9, a10, a11, a12, a13], _, [x0, x1, x2, x3, x4, x5, x6], _, hx1, hel =>
      simp only [List.map_cons, List.map_nil, List.cons.injEq, and_true] at hx1
      have e0 := pair_of (hel 0 (by decide)) hx1.1.symm
      have e1 := pair_of (hel 1 (by decide)) hx1.2.1.symm
      have e2 := pair_of (hel 2 (by decide)) hx1.2.2.1.symm
      have e3 := pair_of (hel 3 (by decide)) hx1.2.2.2.1.symm
      have e4 := pair_of (hel 4 (by decide)) hx1.2.2.2.2.1.symm
      have e5 := pair_of (hel 5 (by decide)) hx1.2.2.2.2.2.1.symm
      have e6 := pair_of (hel 6 (by decide)) hx1.2.2.2.2.2.2.symm
      simp only [Nat.reduceMul, List.drop_succ_cons, List.drop_zero, List.take_succ_cons, List.take_zero, List.cons.injEq, and_true] at e0 e1 e2 e3 e4 e5 e6
      simp only [e0, e1, e2, e3, e4, e5, e6, endsCells]
  have key2 : cs0 = endsCells := Array.ext' key
  subst key2
  simp only [World.var?, hg0, Option.bind_some] at hv0
  split at hv0
  · rename_i cs t fr hh
    obtain rfl := Option.some.inj hv0
    exact ⟨_, _, hh⟩
  · cases hv0
end Go.Proofs.YthenhglpljdhfaaDoor
