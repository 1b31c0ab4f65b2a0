/-
  For every input the law ValueWrites returns true, and its arguments read as they did; the listed variables (errors.errorType and the document's Fine) are tied to the program's text. No other conditions.
-/
import Derived.Test.YthenhglpljdhfaaDoorCards
import Derived.Test.YthenhglpljdhfaaDoorTie
import Derived.Test.YthenhglpljdhfaaDoorLaidE
import Derived.Test.YthenhglpljdhfaaDoorValueW
import Derived.Test.YthenhglpljdhfaaDoorFields
import Derived.HandedShaped
import Derived.ShutString
import Derived.ChangeOld
import Derived.SevenTiedAt
namespace Go.Proofs.YthenhglpljdhfaaDoor.valueWritesDone
open Go.ChangeShapes Go.WideShapes Go.ChangeAt Go.RowKit
open Go.ChangeMaps (open_string shut_string)

theorem own : ownKnob Tryd.prog.godebug = none := by kernel_rfl
theorem laidOut : laidOutB Tryd.prog = true := by kernel_rfl
theorem gFine : Tryd.prog.globalNamed "concordance/concordanceref.Fine" = some 1 := by kernel_rfl
theorem tFine : (Tryd.prog.globals[1]?).map (·.type) = some 74 := by kernel_rfl

theorem two_of {α : Type} {l : List α} (h : l.length = 2) : ∃ a b, l = [a, b] := by
  match l, h with
  | [a, b], _ => exact ⟨a, b, rfl⟩
theorem fine_of {W : World} (h : laidMetH Tryd.prog Rows.valueWritesRow.laid W) : FineAt W ∧ ErrTypeAt W := by
  have h' : laidMet Tryd.prog [("concordance/concordanceref.Fine", Rows.laid_concordance_concordanceref_Fine)] W ∧ handlesMet Tryd.prog [("errors.errorType", Rows.laid_errors_errorType)] W := h
  refine ⟨?_, err_of_handles h'.2 (List.mem_singleton.2 rfl)⟩
  obtain ⟨ps, ⟨g0, t0, cs0, f0, p0, q0, hg0, ht0, hv0, hd0, _, _⟩, _, _⟩ := h'.1
  obtain rfl := Option.some.inj (gFine.symm.trans hg0)
  obtain rfl := Option.some.inj (tFine.symm.trans ht0)
  obtain ⟨ys, n', _, hy, hlen, hyl, hf⟩ := DataW.trod_struct Tryd.underlying74 hd0
  simp only [Prod.mk.injEq] at hy
  have hy1 := hy.1
  unfold Rows.laid_concordance_concordanceref_Fine at hy1
  simp only [DataW.agg.injEq] at hy1
  have hc2 : Tryd.prog.cellsOf 74 = 2 := by kernel_rfl
  have hsz : cs0.toList.length = 2 := by rw [hlen]; exact hc2
  have c31 : Tryd.prog.cellsOf 31 = 1 := by kernel_rfl
  have c3 : Tryd.prog.cellsOf 3 = 1 := by kernel_rfl
  have key : cs0.toList = [.int .i64 0, .int .i64 (-1)] := by
    generalize cs0.toList = l at *
    have hyl2 : ys.length = 2 := hyl
    have q0 : DataW.trod (fun _ => ()) Tryd.prog W 0 (fun _ => true) false n' 31 (List.take (Tryd.prog.cellsOf 31) (List.drop 0 l)) = ys[0]? := hf 0 _ rfl
    have q1 : DataW.trod (fun _ => ()) Tryd.prog W 0 (fun _ => true) false n' 3 (List.take (Tryd.prog.cellsOf 3) (List.drop 1 l)) = ys[1]? := hf 1 _ rfl
    clear hf hyl hd0 hv0 hlen hy h' h
    obtain ⟨a0, a1, rfl⟩ : ∃ a0 a1, l = [a0, a1] := two_of hsz
    obtain ⟨x0, x1, rfl⟩ : ∃ a0 a1, ys = [a0, a1] := two_of hyl2
    · have y0 : DataW.trod (fun _ => ()) Tryd.prog W 0 (fun _ => true) false n' 31 (List.take (Tryd.prog.cellsOf 31) [a0, a1]) = some x0 := q0
      have y1 : DataW.trod (fun _ => ()) Tryd.prog W 0 (fun _ => true) false n' 3 (List.take (Tryd.prog.cellsOf 3) [a1]) = some x1 := q1
      rw [c31] at y0
      rw [c3] at y1
      obtain ⟨s0, e0, g0, _⟩ := DataW.trod_int Tryd.underlying31 (show DataW.trod (fun _ => ()) Tryd.prog W 0 (fun _ => true) false n' 31 [a0] = some x0 from y0)
      obtain ⟨s1, e1, g1, _⟩ := DataW.trod_int Tryd.underlying3 (show DataW.trod (fun _ => ()) Tryd.prog W 0 (fun _ => true) false n' 3 [a1] = some x1 from y1)
      simp only [List.cons.injEq, and_true] at e0 e1
      subst e0 e1 g0 g1
      simp only [List.map_cons, List.map_nil, List.cons.injEq, DataW.lit.injEq, Lit.int.injEq, and_true, true_and] at hy1
      obtain ⟨rfl, rfl⟩ := hy1
      rfl
  have key2 : cs0 = #[.int .i64 0, .int .i64 (-1)] := Array.ext' key
  subst key2
  have v0 := World.var?_cell gFine hv0 0
  have v1 := World.var?_cell gFine hv0 1
  exact ⟨by simpa using v0, by simpa using v1⟩

theorem door_met (os : Os) (args : Array Value) : laidMetH Tryd.prog Rows.valueWritesRow.laid ((World.doorLaid Tryd.prog 43 os).forCall (fun _ _ => 0) ⟨#[], args, []⟩).memory :=
  laidMetH_of_parts3 (fuel := 8) (laidMet_of_run' 8 (by kernel_rfl) (by kernel_rfl)) (by kernel_rfl) (by kernel_rfl)

set_option maxRecDepth 100000 in
theorem lifted (os : Os) (started : os.Started) (H : Type) (enc : TypeId × Value → H) :
    ReturnsInHanded {} Tryd.checked os 8 .any (fun w args => (Rows.valueWritesSpec.pre enc Tryd.prog Tryd.f8 [] false w args ∧ laidMetH Tryd.prog Rows.valueWritesRow.laid w) ∧ sizedMet enc Tryd.prog Tryd.f8 (OpenSpec.ofChange Rows.valueWritesSpec) false w args)
      (Rows.valueWritesSpec.post enc Tryd.prog Tryd.f8 false true false false) := by
  refine returnsInHanded_of_calls own started (by kernel_rfl)
    (ChangeSpec.witness_shaped (enc := enc) (C := Tryd.checked) (os := os) (X := fun w _ => laidMetH Tryd.prog Rows.valueWritesRow.laid w) false (World.doorLaid Tryd.prog 43 os) #[.slice none 0 0, .string ⟨#[]⟩] 8 rfl (World.shaped_of_RefB (by kernel_rfl) (by kernel_rfl)) (by kernel_rfl) (by kernel_rfl) (by kernel_rfl) (door_met os _)) ?_
  intro wd tape inp _ hsh _ hok hpre _
  obtain ⟨_, _, _, fn', hfn', _, _, _, _, hval0⟩ := hok
  obtain rfl : fn' = Tryd.f8 := Option.some.inj (hfn'.symm.trans Tryd.func8)
  obtain ⟨⟨⟨ds, gs, before, hw0, _⟩, hL0⟩, _⟩ := hpre
  have hW := DataW.Whole.of_heap (w' := wd.forCall tape inp) (by rfl) hw0
  have hL : laidMetH Tryd.prog Rows.valueWritesRow.laid (wd.forCall tape inp) := laidMetH.of_heap (by rfl) hL0
  generalize hargs : inp.args = args at *
  generalize hWW : wd.forCall tape inp = W at *
  suffices hs : Calls Tryd.prog 8 args W fun e W' => ∃ v, e = .returned v ∧ Rows.valueWritesSpec.post enc Tryd.prog Tryd.f8 false true false false W args v W' by
    refine hs.mono fun e W' ⟨v, he, hp⟩ => ?_
    subst he
    exact ChangeSpec.post_blind hp
  have hval : ∀ (j : Nat) t v, Tryd.f8.params[j]? = some t → args[j]? = some v → Value.okWide Tryd.prog W .any _ t v := hval0
  have hW' := hW
  obtain ⟨p, q, hA0, hV, rfl, hfz, hnd⟩ := hW
  have hA : DataW.TrodAll enc Tryd.prog W 0 (fun _ => true) true Tryd.f8.params.toList args.toList ds p := hA0
  rw [Tryd.params8] at hA hval
  obtain ⟨v0, vs0, d0, ds0, p0, q0, hargs0, rfl, rfl, h0, r0⟩ := trodAll_cons hA
  obtain ⟨v1, vs1, d1, ds1, p1, q1, rfl, rfl, rfl, h1, r1⟩ := trodAll_cons r0
  obtain ⟨rfl, rfl, rfl⟩ := trodAll_nil r1
  obtain rfl : args = #[v0, v1] := by cases args; simp_all
  obtain ⟨rfl, rfl⟩ := trodVars_none hV
  obtain ⟨a0, len0, cap0, rfl⟩ := okWide_slice Tryd.underlying71 (hval 0 71 v0 rfl rfl)
  obtain ⟨s, rfl, rfl, rfl, hs⟩ := open_string Tryd.underlying9 (hval 1 9 v1 rfl rfl) h1
  have k0 := h0
  have lt0 : ∀ x ∈ p0, x.block < W.heap.size := by obtain ⟨m, hm⟩ := k0; exact DataW.trod_lt m _ _ _ hm
  obtain ⟨f0, hf0⟩ := h0
  obtain ⟨xs, b, off, hl0, hm0, hao0, hc0, hr0⟩ := open_vals hf0
  subst hl0
  obtain ⟨hF, hE⟩ := fine_of hL
  clear hA0 hval0
  simp only [List.append_nil] at hW'
  refine (valueWrites_walk xs b off cap0 a0 hao0 hm0 s hs W hc0 (Tryd.laysM145.s1_3 W hsh) hF hE (fun i hi => (hr0 i hi).2.1)).mono fun e W' ⟨he, bel⟩ => ?_
  subst he
  exact ⟨_, rfl, _, _, _, [], _, [], hW', trodAll_mk1 (shut_bool Tryd.underlying4 _), (trodAll_cons_mk (Below.trod laidOut (by kernel_rfl) (of_decide_eq_true (by kernel_rfl)) k0 bel lt0) (trodAll_mk1 (shut_string Tryd.underlying9 hs))), rfl, Below.frame bel _, fun h => by cases h⟩

theorem row_holds : Rows.ValueWritesSaid :=
  OpenClaim.holds_of_wide 8 Tryd.f8 rfl rfl rfl rfl rfl rfl rfl ⟨rfl, rfl, rfl, rfl, rfl⟩ rfl rfl rfl rfl rfl (by kernel_rfl) Tryd.func8 (by kernel_rfl)
    (of_decide_eq_true (by kernel_rfl)) (by unfold Func.isWrapper; first | (rw [if_pos (by decide +kernel)]; kernel_rfl) | (rw [if_neg (by decide +kernel)]; exact ⟨rfl, rfl⟩))
    (fun os started H enc _ => lifted os started H enc)

theorem proved : Rows.ValueWritesCardSaid :=
  Claim7.holds_tied_plain_at .later [] [.handle, .data] true Rows.valueWritesCard.stood.harness true
    row_holds (fun _ h => by cases h) (by kernel_rfl) (fun _ h => by cases h) valueWrites_row_tie rfl ⟨rfl, rfl⟩ (by kernel_rfl) rfl
    (fun f fn hf hfn => by
      obtain rfl : f = 8 := Option.some.inj ((show Tryd.prog.funcNamed Rows.valueWritesRow.func = some 8 by kernel_rfl).symm.trans hf) |>.symm
      obtain rfl : fn = Tryd.f8 := (Option.some.inj (Tryd.func8.symm.trans hfn)).symm
      exact ⟨by kernel_rfl, fun j t ht => by
        rw [Tryd.params8] at ht
        have hm : t ∈ [71, 9] := by simpa using Array.mem_of_getElem? ht
        have hall : ([71, 9].all fun u => !Tryd.prog.wantsStandIn u) = true := by kernel_rfl
        exact (show Tryd.prog.wantsStandIn t = false by simpa using List.all_eq_true.1 hall t hm)⟩)
    (by kernel_rfl)
#print axioms proved
end Go.Proofs.YthenhglpljdhfaaDoor.valueWritesDone
