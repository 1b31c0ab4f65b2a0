/-
  slices.Compact of places.
-/
import Derived.Test.YtkdplnbdhkckhaaSetR
import Derived.Laws.StructEq
import Derived.Laws.IdiomCopy
import Derived.BigQuiet
import Derived.Lib.QuietBelow
namespace Go.Proofs.Ytkdplnbdhkckhaa
open Go Go.RowKit Go.Shelf Go.Lib Go.Sort

theorem squeeze_snoc {α : Type} [DecidableEq α] (a : α) : ∀ l : List α, squeeze (l ++ [a]) = if l.getLast? = some a then squeeze l else squeeze l ++ [a]
  | [] => rfl
  | [b] => by
    by_cases h : b = a <;> simp [squeeze, h]
  | b :: c :: t => by
    have ih := squeeze_snoc a (c :: t)
    simp only [List.cons_append] at ih ⊢
    unfold squeeze
    by_cases h : b = c
    · rw [if_pos h, if_pos h, ih, List.getLast?_cons_cons]
    · rw [if_neg h, if_neg h, ih, List.getLast?_cons_cons]
      split <;> simp
theorem take_last {α : Type} (l : List α) (k : Nat) (h0 : 0 < k) (hk : k ≤ l.length) : (l.take k).getLast? = some (l[k - 1]'(by omega)) := by
  rw [List.getLast?_eq_getElem?, List.length_take, Nat.min_eq_left hk, List.getElem?_take, if_pos (by omega), List.getElem?_eq_getElem]
theorem squeeze_next {α : Type} [DecidableEq α] (l : List α) (k : Nat) (h0 : 0 < k) (hk : k < l.length) : squeeze (l.take (k + 1)) = if l[k] = l[k - 1] then squeeze (l.take k) else squeeze (l.take k) ++ [l[k]] := by
  rw [List.take_succ_eq_append_getElem hk, squeeze_snoc, take_last l k h0 (by omega)]
  simp only [Option.some.injEq]
  by_cases h : l[k] = l[k - 1]
  · rw [if_pos h, if_pos h.symm]
  · rw [if_neg h, if_neg (fun e => h e.symm)]
theorem squeeze_len {α : Type} [DecidableEq α] : ∀ l : List α, (squeeze l).length ≤ l.length
  | [] => Nat.le_refl _
  | [a] => Nat.le_refl _
  | a :: b :: t => by
    have ih := squeeze_len (b :: t)
    unfold squeeze
    split
    · simp only [List.length_cons] at *; omega
    · simp only [List.length_cons] at *; omega
theorem GrX.setCells {S : Nat → Prop} (b : Nat) : ∀ (vs : List Value) (o : Nat) (w : World), S b → GrX S w (w.setCells b o vs)
  | [], _, w, _ => GrX.refl S w
  | v :: vs, o, w, h => (GrX.setCell w v h).trans (GrX.setCells b vs (o + 1) _ h)
theorem RowP.gr {w w' : World} {B : Nat} {xs : List GPlace} (h : RowP w B xs) (g : Gr w w') (hB : B < w.heap.size) : RowP w' B xs :=
  fun i hi => ⟨⟨g.keeps (h i hi).1.1, (g.frozen _ hB).trans (h i hi).1.2⟩, ⟨g.keeps (h i hi).2.1, (g.frozen _ hB).trans (h i hi).2.2⟩⟩
theorem RowP.set {w : World} {B i : Nat} {ys : List GPlace} (h : RowP w B ys) (hi : i < ys.length) (a1 a2 : Int) :
    RowP ((w.setCell ⟨B, i * 2, none⟩ (.int .i64 a1)).setCell ⟨B, i * 2 + 1, none⟩ (.int .i64 a2)) B (ys.set i (a1, a2)) := by
  intro k hk
  rw [List.length_set] at hk
  have h0 := h k hk
  have hi0 := h i hi
  have n1 : (⟨B, i * 2 + 1, none⟩ : Addr) ≠ ⟨B, k * 2, none⟩ := fun e => by
    have := congrArg Addr.off e
    simp at this
    omega
  have n2 : (⟨B, i * 2, none⟩ : Addr) ≠ ⟨B, k * 2 + 1, none⟩ := fun e => by
    have := congrArg Addr.off e
    simp at this
    omega
  refine ⟨⟨?_, by rw [World.frozen?_setCell, World.frozen?_setCell]; exact h0.1.2⟩, ⟨?_, by rw [World.frozen?_setCell, World.frozen?_setCell]; exact h0.2.2⟩⟩
  · rw [World.cell?_setCell_other _ _ _ _ n1]
    by_cases hki : k = i
    · subst hki
      rw [World.cell?_setCell_same _ _ _ hi0.1.1]
      simp
    · have n3 : (⟨B, i * 2, none⟩ : Addr) ≠ ⟨B, k * 2, none⟩ := fun e => by
        have := congrArg Addr.off e
        simp at this
        omega
      rw [World.cell?_setCell_other _ _ _ _ n3, h0.1.1]
      simp [Ne.symm hki]
  · by_cases hki : k = i
    · subst hki
      rw [World.cell?_setCell_same _ _ _ ((World.cell?_setCell_other _ _ _ _ n2).trans hi0.2.1)]
      simp
    · have n3 : (⟨B, i * 2 + 1, none⟩ : Addr) ≠ ⟨B, k * 2 + 1, none⟩ := fun e => by
        have := congrArg Addr.off e
        simp at this
        omega
      rw [World.cell?_setCell_other _ _ _ _ n3, World.cell?_setCell_other _ _ _ _ n2, h0.2.1]
      simp [Ne.symm hki]
/-- 'clear(s)' of places. -/
theorem run_clear_places (w : World) (ty : TypeId) (b o n c : Nat) (hn : 0 < n) (hc : ∀ j, j < n * 2 → (w.cell? ⟨b, o + j, none⟩).isSome = true) (hf : ∀ j, j < n * 2 → w.frozen? ⟨b, o + j, none⟩ = false) :
    (Builtin.clear_ #[22] ty #[.slice (some ⟨b, o, none⟩) n c]).run Try.prog w = .ok (.tuple #[]) (w.setCells b o (List.replicate (n * 2) (.int .i64 0))) := by
  have hv : ∀ w, (zeroValue 39).run Try.prog w = .ok (.agg #[.int .i64 0, .int .i64 0]) w := Try.zeroValue39
  have hzc : (Builtin.zeroCells (Value.agg #[.int .i64 0, .int .i64 0]).cells n).toList = List.replicate (n * 2) (.int .i64 0) := by
    apply List.ext_getElem
    · simp [Builtin.zeroCells, Value.cells]
    · intro i h1 h2
      simp only [Builtin.zeroCells, Value.cells, List.getElem_replicate]
      rcases Nat.mod_two_eq_zero_or_one i with e | e <;> simp [e]
  have hst := run_storeCells_cells (P := Try.prog) b o (List.replicate (n * 2) (.int .i64 0)) 0 w (by simpa using hc) (by simpa using hf) (by intro v hv'; rw [List.eq_of_mem_replicate hv']; rfl)
  simp only [Nat.add_zero] at hst
  obtain ⟨m, rfl⟩ : ∃ m, n = m + 1 := ⟨n - 1, by omega⟩
  simp [Builtin.clear_, run_underlying Try.underlying22, hv, hzc, hst]
theorem equalIn_place (x1 x2 y1 y2 : Int) (W : World) : (Op.equalIn 10000 39 (.agg #[.int .i64 x1, .int .i64 x2]) (.agg #[.int .i64 y1, .int .i64 y2])).run Try.prog W = .ok (x1 == y1 && x2 == y2) W := by
  have u3 := Try.underlying3
  have a3 := Try.isAgg3
  have z3 := Try.sizeOf3
  have hS : Try.prog.underlying 39 = some (.struct (Try.prog.fieldsOf 39)) := by kernel_rfl
  have hp : Try.prog.stoodInHeld 39 = false := by kernel_rfl
  rw [show (10000 : Nat) = 9999 + 1 from rfl, run_equalIn_agg W 9999 39 _ _ hS hp]
  simp only [Program.fieldsOf, Try.underlying39]
  go_simp
  by_cases h1 : x1 = y1 <;> by_cases h2 : x2 = y2 <;> simp [h1, h2]
set_option maxRecDepth 100000 in
set_option maxHeartbeats 1600000 in
theorem compact_p (xs : List GPlace) (B cap : Nat) (hl : xs.length ≤ 1000000) (hcap : xs.length ≤ cap) (w : World) (h : RowP w B xs) (hB : B < w.heap.size) :
    Calls Try.prog 27 #[.slice (some ⟨B, 0, none⟩) xs.length cap] w fun e w' =>
      e = .returned (.slice (some ⟨B, 0, none⟩) (squeeze xs).length cap) ∧ RowP w' B (squeeze xs) ∧ GrX (fun i => i = B) w w' := by
  have H := Lib.hid h
  clear h
  by_cases h2 : xs.length < 2
  · have e : squeeze xs = xs := by
      match xs, h2 with
      | [], _ => rfl
      | [a], _ => rfl
      | _ :: _ :: _, h => simp at h; omega
    rw [e]
    have g1 : decide ((xs.length : Int) < 2) = true := by simp; omega
    go_enter Try.func27, Try.ntmps27
    go_wp2_with fail
    go_ret
    exact ⟨rfl, H.out, GrX.refl _ _⟩
  · have g1 : decide ((xs.length : Int) < 2) = false := by simp; omega
    go_enter Try.func27, Try.ntmps27
    go_wp2_with fail
    go_loopw [3] (fun kv w' => ∃ k : Nat, 1 ≤ k ∧ k ≤ xs.length ∧ kv = .int .i64 k ∧ squeeze (xs.take k) = xs.take k ∧ Gr w w') (fun kv _ => xs.length - (intOf kv).toNat)
    case atStart => exact ⟨1, Nat.le_refl _, by omega, rfl, by cases xs <;> rfl, Gr.refl _⟩
    case round =>
      obtain ⟨k, h1, hk, rfl, hs, hg⟩ := hrel
      obtain ⟨m, rfl⟩ : ∃ m, k = m + 1 := ⟨k - 1, by omega⟩
      by_cases hlt : m + 1 < xs.length
      · have hr1 := H.out (m + 1) hlt
        have hr0 := H.out m (by omega)
        have f1 := fun d os => cell_regrown (hg.keeps hr1.1.1) d os
        have f2 := fun d os => cell_regrown (hg.keeps hr1.2.1) d os
        have f3 := fun d os => cell_regrown (hg.keeps hr0.1.1) d os
        have f4 := fun d os => cell_regrown (hg.keeps hr0.2.1) d os
        have hnx : squeeze (xs.take (m + 1 + 1)) = if xs[m + 1] = xs[m]'(by omega) then squeeze (xs.take (m + 1)) else squeeze (xs.take (m + 1)) ++ [xs[m + 1]] := squeeze_next xs (m + 1) (by omega) hlt
        have hi1 : (m : Int) + 1 < (xs.length : Int) := by omega
        have hi0 : (m : Int) < (xs.length : Int) := by omega
        generalize hx1 : xs[m + 1] = x at *
        generalize hx0 : xs[m]'(by omega) = y at *
        by_cases he : x = y
        · have hst := (hnx.trans (if_pos he)).trans hs
          clear hnx
          subst he
          obtain ⟨x1, x2⟩ := x
          simp only at f1 f2 f3 f4
          have hq : ∀ W, (Op.equalIn 10000 39 (.agg #[.int .i64 x1, .int .i64 x2]) (.agg #[.int .i64 x1, .int .i64 x2])).run Try.prog W = .ok true W := fun W => by
            rw [equalIn_place]
            simp
          clear hr1 hr0
          go_wp2_with fail
          refine wp_region_quiet_below (by kernel_rfl) (by kernel_rfl) ?_
          repeat (go_big_quiet_step (fail))
          refine wpQuiet_nil ?_
          intro w3 hw3
          have hg3 := hg.trans (gr_regrown hw3)
          clear hw3 f1 f2 f3 f4 hg
          have hcm : ¬ cap = m + 1 := by omega
          have hz1 : (m : Int) + 1 ≤ (xs.length : Int) := by omega
          have hrow3 : RowP w3 B xs := fun i hi => ⟨⟨hg3.keeps (H.out i hi).1.1, (hg3.frozen _ hB).trans (H.out i hi).1.2⟩, ⟨hg3.keeps (H.out i hi).2.1, (hg3.frozen _ hB).trans (H.out i hi).2.2⟩⟩
          have HR3 := Lib.hid hrow3
          have HST := Lib.hid hst
          clear hrow3 hst hx1 hx0 hs
          go_wp2_with fail
          go_loopw [3, 5] (fun kv jv w' => ∃ (q j : Nat) (ys : List GPlace), 1 ≤ j ∧ m + 1 + j ≤ xs.length ∧ kv = .int .i64 q ∧ jv = .int .i64 j ∧ m + 1 ≤ q ∧ q ≤ m + j ∧ ys.length = xs.length ∧ (∀ i, q ≤ i → ys[i]? = xs[i]?) ∧ squeeze (xs.take (m + 1 + j)) = ys.take q ∧ RowP w' B ys ∧ GrX (fun i => i = B) w w') (fun _ jv _ => xs.length - (intOf jv).toNat)
          case atStart => exact ⟨m + 1, 1, xs, Nat.le_refl _, by omega, by go_num, rfl, Nat.le_refl _, Nat.le_refl _, rfl, fun _ _ => rfl, HST.out, HR3.out, GrX.of_gr hg3⟩
          case round =>
            obtain ⟨q, j, ys, hj1, hjn, rfl, rfl, hq1, hq2, hyl, hyx, hsq, hrow, hgx⟩ := hrel
            have HROW := Lib.hid hrow
            have HSQ := Lib.hid hsq
            have HYX := Lib.hid hyx
            clear hrow hsq hyx hg3
            by_cases hlt2 : j < xs.length - (m + 1)
            · obtain ⟨p, rfl⟩ : ∃ p, j = p + 1 := ⟨j - 1, by omega⟩
              have hi1' : m + 1 + (p + 1) < xs.length := by omega
              have ey1 : ys[m + 1 + (p + 1)]'(by omega) = xs[m + 1 + (p + 1)] := by
                have := HYX.out (m + 1 + (p + 1)) (by omega)
                rw [List.getElem?_eq_getElem (by omega), List.getElem?_eq_getElem hi1'] at this
                exact Option.some.inj this
              have ey0 : ys[m + 1 + p]'(by omega) = xs[m + 1 + p]'(by omega) := by
                have := HYX.out (m + 1 + p) (by omega)
                rw [List.getElem?_eq_getElem (by omega), List.getElem?_eq_getElem (by omega)] at this
                exact Option.some.inj this
              have hr1 := HROW.out (m + 1 + (p + 1)) (by omega)
              have hr0 := HROW.out (m + 1 + p) (by omega)
              rw [ey1, show (m + 1 + (p + 1)) * 2 = (m + 1) * 2 + (p + 1) * 2 by omega] at hr1
              rw [ey0, show (m + 1 + p) * 2 = (m + 1) * 2 + p * 2 by omega] at hr0
              have f1 := fun d os => cell_regrown hr1.1.1 d os
              have f2 := fun d os => cell_regrown hr1.2.1 d os
              have f3 := fun d os => cell_regrown hr0.1.1 d os
              have f4 := fun d os => cell_regrown hr0.2.1 d os
              have hnx : squeeze (xs.take (m + 1 + (p + 1) + 1)) = if xs[m + 1 + (p + 1)] = xs[m + 1 + p]'(by omega) then squeeze (xs.take (m + 1 + (p + 1))) else squeeze (xs.take (m + 1 + (p + 1))) ++ [xs[m + 1 + (p + 1)]] := squeeze_next xs (m + 1 + (p + 1)) (by omega) hi1'
              rw [HSQ.out] at hnx
              have hz2 : (p : Int) + 1 < ((xs.length - (m + 1) : Nat) : Int) := by omega
              have hz3 : (p : Int) < ((xs.length - (m + 1) : Nat) : Int) := by omega
              generalize hx1 : xs[m + 1 + (p + 1)] = x at *
              generalize hx0 : xs[m + 1 + p]'(by omega) = y at *
              by_cases he : x = y
              · have hst := hnx.trans (if_pos he)
                clear hnx
                subst he
                obtain ⟨a1, a2⟩ := x
                simp only at f1 f2 f3 f4
                have hq : ∀ W, (Op.equalIn 10000 39 (.agg #[.int .i64 a1, .int .i64 a2]) (.agg #[.int .i64 a1, .int .i64 a2])).run Try.prog W = .ok true W := fun W => by
                  rw [equalIn_place]
                  simp
                clear hr1 hr0
                go_wp2_with fail
                refine wp_region_quiet_below (by kernel_rfl) (by kernel_rfl) ?_
                repeat (go_big_quiet_step (fail))
                refine wpQuiet_nil ?_
                intro w4 hw4
                have hg4 := gr_regrown hw4
                clear hw4 f1 f2 f3 f4
                have hBw : B < wr.heap.size := Nat.lt_of_lt_of_le hB hgx.2.2.2.1
                go_wp2_with fail
                exact ⟨⟨q, p + 2, ys, by omega, by omega, rfl, by go_num, hq1, by omega, hyl, HYX.out, hst, HROW.out.gr hg4 hBw, hgx.trans (GrX.of_gr hg4)⟩, by simp [intOf]; omega⟩
              · have hst := hnx.trans (if_neg he)
                clear hnx
                obtain ⟨a1, a2⟩ := x
                obtain ⟨b1, b2⟩ := y
                simp only at f1 f2 f3 f4
                have hq : ∀ W, (Op.equalIn 10000 39 (.agg #[.int .i64 a1, .int .i64 a2]) (.agg #[.int .i64 b1, .int .i64 b2])).run Try.prog W = .ok false W := fun W => by
                  rw [equalIn_place, show (a1 == b1 && a2 == b2) = false from by
                    rw [Bool.eq_false_iff]
                    intro h
                    simp only [Bool.and_eq_true, beq_iff_eq] at h
                    exact he (by rw [h.1, h.2])]
                go_wp2_with fail
                refine wp_region_quiet_below (by kernel_rfl) (by kernel_rfl) ?_
                repeat (go_big_quiet_step (fail))
                refine wpQuiet_nil ?_
                intro w4 hw4
                have hg4 := gr_regrown hw4
                clear hw4 f1 f2 f3 f4
                have hBw : B < wr.heap.size := Nat.lt_of_lt_of_le hB hgx.2.2.2.1
                have e1 := hg4.keeps hr1.1.1
                have e2 := hg4.keeps hr1.2.1
                have hrq := HROW.out q (by omega)
                have d1 := hg4.keeps hrq.1.1
                have d2 := hg4.keeps hrq.2.1
                have z1 := (hg4.frozen _ hBw).trans hrq.1.2
                have z2 := (hg4.frozen _ hBw).trans hrq.2.2
                have hz4 : (q : Int) < (xs.length : Int) := by omega
                clear hr1 hr0 hrq
                go_wp2_with fail
                go_roundw
                case measure =>
                  simp [intOf]
                  omega
                case rel =>
                  have hyx' : ∀ i, q + 1 ≤ i → (ys.set q (a1, a2))[i]? = xs[i]? := fun i hi => by
                    rw [List.getElem?_set_ne (by omega)]
                    exact HYX.out i (by omega)
                  have hsq' : squeeze (xs.take (m + 1 + (p + 2))) = (ys.set q (a1, a2)).take (q + 1) := by
                    rw [show m + 1 + (p + 2) = m + 1 + (p + 1) + 1 by omega, hst, List.take_succ_eq_append_getElem (by rw [List.length_set]; omega), List.take_set_of_le (Nat.le_refl q)]
                    simp
                  have hrow' := (HROW.out.gr hg4 hBw).set (i := q) (by omega) a1 a2
                  have hgx' := ((hgx.trans (GrX.of_gr hg4)).trans (GrX.setCell (S := fun i => i = B) w4 (p := ⟨B, q * 2, none⟩) (.int .i64 a1) rfl)).trans (GrX.setCell (S := fun i => i = B) _ (p := ⟨B, q * 2 + 1, none⟩) (.int .i64 a2) rfl)
                  first | exact ⟨_, _, _, _, _, _, _, _, _, _, _, _, _, _, _, _, _, _, _, _, _, _, _, _, _, _, ⟨q + 1, p + 2, ys.set q (a1, a2), by omega, by omega, by go_num, by go_num, by omega, by omega, by rw [List.length_set]; exact hyl, hyx', hsq', hrow', hgx'⟩, rfl⟩ | exact ⟨_, _, _, _, _, _, _, _, _, _, _, _, _, _, _, _, _, _, _, _, _, _, _, _, _, _, _, ⟨q + 1, p + 2, ys.set q (a1, a2), by omega, by omega, by go_num, by go_num, by omega, by omega, by rw [List.length_set]; exact hyl, hyx', hsq', hrow', hgx'⟩, rfl⟩ | exact ⟨_, _, _, _, _, _, _, _, _, _, _, _, _, _, _, _, _, _, _, _, _, _, _, _, _, ⟨q + 1, p + 2, ys.set q (a1, a2), by omega, by omega, by go_num, by go_num, by omega, by omega, by rw [List.length_set]; exact hyl, hyx', hsq', hrow', hgx'⟩, rfl⟩ | exact ⟨_, _, _, _, _, _, _, _, _, _, _, _, _, _, _, _, _, _, _, _, _, _, _, _, _, _, _, _, ⟨q + 1, p + 2, ys.set q (a1, a2), by omega, by omega, by go_num, by go_num, by omega, by omega, by rw [List.length_set]; exact hyl, hyx', hsq', hrow', hgx'⟩, rfl⟩ | exact ⟨_, _, _, _, _, _, _, _, _, _, _, _, _, _, _, _, _, _, _, _, _, _, _, _, ⟨q + 1, p + 2, ys.set q (a1, a2), by omega, by omega, by go_num, by go_num, by omega, by omega, by rw [List.length_set]; exact hyl, hyx', hsq', hrow', hgx'⟩, rfl⟩ | exact ⟨_, _, _, _, _, _, _, _, _, _, _, _, _, _, _, _, _, _, _, _, _, _, _, _, _, _, _, _, _, ⟨q + 1, p + 2, ys.set q (a1, a2), by omega, by omega, by go_num, by go_num, by omega, by omega, by rw [List.length_set]; exact hyl, hyx', hsq', hrow', hgx'⟩, rfl⟩
            · have hjn' : m + 1 + j = xs.length := by omega
              have hsqx := HSQ.out
              rw [List.take_of_length_le (by omega)] at hsqx
              have hBw : B < wr.heap.size := Nat.lt_of_lt_of_le hB hgx.2.2.2.1
              have hql : q < xs.length := by omega
              have hcl := run_clear_places wr 0 B (q * 2) (xs.length - q) (cap - q) (by omega) (fun j hj => by
                have hh := HROW.out (q + j / 2) (by omega)
                rcases Nat.mod_two_eq_zero_or_one j with e | e
                · rw [show q * 2 + j = (q + j / 2) * 2 by omega, hh.1.1]
                  rfl
                · rw [show q * 2 + j = (q + j / 2) * 2 + 1 by omega, hh.2.1]
                  rfl) (fun j hj => by
                have hh := HROW.out (q + j / 2) (by omega)
                rcases Nat.mod_two_eq_zero_or_one j with e | e
                · rw [show q * 2 + j = (q + j / 2) * 2 by omega, hh.1.2]
                · rw [show q * 2 + j = (q + j / 2) * 2 + 1 by omega, hh.2.2])
              go_wp2_with fail
              go_ret
              have hlen : (ys.take q).length = q := by
                rw [List.length_take]
                omega
              have hout := World.cell?_setCells_out B (List.replicate ((xs.length - q) * 2) (.int .i64 0)) (q * 2) wr
              have hfro := World.frozen?_setCells B (List.replicate ((xs.length - q) * 2) (.int .i64 0)) (q * 2) wr
              refine ⟨by rw [hsqx, hlen]; rfl, ?_, hgx.trans (GrX.setCells B _ _ wr rfl)⟩
              rw [hsqx]
              intro i hi
              rw [hlen] at hi
              have hh := HROW.out i (by omega)
              rw [List.getElem_take]
              exact ⟨⟨(hout _ (fun _ _ => Or.inl (by show i * 2 < q * 2; omega))).trans hh.1.1, (hfro _).trans hh.1.2⟩, ⟨(hout _ (fun _ _ => Or.inl (by show i * 2 + 1 < q * 2; omega))).trans hh.2.1, (hfro _).trans hh.2.2⟩⟩
        · obtain ⟨x1, x2⟩ := x
          obtain ⟨y1, y2⟩ := y
          simp only at f1 f2 f3 f4
          have hq : ∀ W, (Op.equalIn 10000 39 (.agg #[.int .i64 x1, .int .i64 x2]) (.agg #[.int .i64 y1, .int .i64 y2])).run Try.prog W = .ok false W := fun W => by
            rw [equalIn_place, show (x1 == y1 && x2 == y2) = false from by
              rw [Bool.eq_false_iff]
              intro h
              simp only [Bool.and_eq_true, beq_iff_eq] at h
              exact he (by rw [h.1, h.2])]
          clear hr1 hr0
          go_wp2_with fail
          refine wp_region_quiet_below (by kernel_rfl) (by kernel_rfl) ?_
          repeat (go_big_quiet_step (fail))
          refine wpQuiet_nil ?_
          intro w3 hw3
          have hg3 := hg.trans (gr_regrown hw3)
          clear hw3 f1 f2 f3 f4 hg
          go_wp2_with fail
          refine ⟨⟨m + 2, by omega, by omega, by go_num, ?_, hg3⟩, by simp [intOf]; omega⟩
          rw [List.take_succ_eq_append_getElem hlt, hx1]
          have := hnx
          rw [if_neg he, List.take_succ_eq_append_getElem hlt, hx1, hs] at this
          exact this
      · obtain hkk : m + 1 = xs.length := by omega
        go_wp2_with fail
        go_ret
        have e : squeeze xs = xs := by
          have := hs
          rw [List.take_of_length_le (by omega)] at this
          exact this
        rw [e]
        exact ⟨rfl, fun i hi => ⟨⟨hg.keeps (H.out i hi).1.1, (hg.frozen _ hB).trans (H.out i hi).1.2⟩, ⟨hg.keeps (H.out i hi).2.1, (hg.frozen _ hB).trans (H.out i hi).2.2⟩⟩, GrX.of_gr hg⟩
end Go.Proofs.Ytkdplnbdhkckhaa
