/-
  slices.Grow of no places; slices.Concat of two slices of places.
-/
import Derived.Test.YtkdplnbdhkckhaaSetK
import Derived.Test.YtkdplnbdhkckhaaPostDX
import Derived.Lib.SliceRun
import Derived.Lib.AppendZeros
namespace Go.Proofs.Ytkdplnbdhkckhaa
open Go Go.RowKit Go.Shelf Go.Lib Go.Sort

/-- A slice of places that may be read. -/
def IsP (w : World) (v : Value) (xs : List GPlace) : Prop := (v = .slice none 0 0 ∧ xs = []) ∨ ∃ b off c, v = .slice (some ⟨b, off, none⟩) xs.length c ∧ b < w.heap.size ∧ PlacesAt w b off xs
theorem IsP.gr {w w' : World} {v : Value} {xs : List GPlace} (h : IsP w v xs) (g : Gr w w') : IsP w' v xs := by
  rcases h with h | ⟨b, off, c, h1, h2, h3⟩
  · exact .inl h
  · exact .inr ⟨b, off, c, h1, Nat.lt_of_lt_of_le h2 g.size, h3.gr g⟩
theorem cellsP_append (xs ys : List GPlace) : cellsP (xs ++ ys) = cellsP xs ++ cellsP ys := by
  unfold cellsP
  rw [List.flatMap_append]
theorem cellsP_len : ∀ xs : List GPlace, (cellsP xs).length = xs.length * 2
  | [] => rfl
  | x :: xs => by
    have := cellsP_len xs
    unfold cellsP at *
    rw [List.flatMap_cons, List.length_append, this]
    simp only [List.length_cons, List.length_nil]
    omega
theorem cellsP_one : ∀ (xs : List GPlace), ∀ u ∈ cellsP xs, u.oneCell' = true := by
  intro xs u hu
  unfold cellsP at hu
  rw [List.mem_flatMap] at hu
  obtain ⟨p, _, h⟩ := hu
  exact placeCells_one _ _ u h
theorem PlacesAt.cells {w : World} {b off : Nat} {xs : List GPlace} (h : PlacesAt w b off xs) : ∀ j u, (cellsP xs)[j]? = some u → w.cell? ((⟨b, off, none⟩ : Addr).add j) = some u := by
  intro j u hj
  have hlt : j < xs.length * 2 := by
    rw [← cellsP_len]
    exact (List.getElem?_eq_some_iff.1 hj).1
  have ha : (⟨b, off, none⟩ : Addr).add j = ⟨b, off + j, none⟩ := by
    unfold Addr.add
    split <;> simp_all
  have hg := cellsP_get xs (j / 2) (by omega)
  have hp := h (j / 2) (by omega)
  rw [ha]
  rcases Nat.mod_two_eq_zero_or_one j with e | e
  · rw [show j / 2 * 2 = j by omega] at hg hp
    rw [hg.1] at hj
    rw [hp.1, Option.some.inj hj]
  · rw [show j / 2 * 2 + 1 = j by omega] at hg
    rw [show off + j / 2 * 2 + 1 = off + j by omega] at hp
    rw [hg.2] at hj
    rw [hp.2, Option.some.inj hj]
theorem append_places {a0 w : World} {ops : Array Oper} {rest : List Oper} {o : Oper} {a : Act} {Q : Exit → Act → World → Prop} (hgd : o.guard = none) (s x : Operand)
    (ho : o.op = .call { callee := .builtin .append, args := #[s, x], argTypes := #[22, 22] }) (v : Value) (us : List GPlace) (hs : a.eval s = v) (hown : OwnP a0 w v us)
    (vs : Value) (xs : List GPlace) (hx : a.eval x = vs) (hi : IsP w vs xs) (hl : us.length + xs.length ≤ 1000000) (hg : Gr a0 w)
    (h : ∀ v' w', OwnP a0 w' v' (us ++ xs) → Gr a0 w' → wpList Try.prog ops Q rest (a.put o.dst v') w') : wpList Try.prog ops Q (o :: rest) a w := by
  obtain ⟨i0, hinf, hz⟩ : ∃ i0, Try.prog.info? 39 = some i0 ∧ (i0.zero, i0.size, i0.bytes) = (some (.agg #[.int .i64 0, .int .i64 0]), 2, 16) := by
    have h := info_place
    cases h0 : Try.prog.info? 39 with
    | none => rw [h0] at h; cases h
    | some i0 => rw [h0] at h; exact ⟨i0, rfl, Option.some.inj h⟩
  simp only [Prod.mk.injEq] at hz
  obtain ⟨hz0, hz1, hz2⟩ := hz
  rcases hi with ⟨rfl, rfl⟩ | ⟨b, off, c, rfl, hb, hp⟩
  · rw [List.append_nil] at h
    exact Lib.wpList_append_run w hgd s x 22 22 ho v (.slice none 0 0) hs hx v w (run_append_owned_none w a0.heap.size 22 o.type 39 i0 2 Try.underlying22 hinf v us.length (cellsP us) hown) (h v w hown hg)
  · refine wpList_append_own w hgd s x 22 ho a0.heap.size 39 i0 (.agg #[.int .i64 0, .int .i64 0]) 2 16 Try.underlying22 hinf hz0 hz1 hz2 rfl (by decide) v us.length (cellsP us) hs hown ⟨b, off, none⟩ xs.length c (cellsP xs) hx (cellsP_len xs) hp.cells (cellsP_one xs) (by unfold maxLen; omega) (by omega) hg.size
      (fun v' w' h1 h2 _ => h v' w' ?_ (gr_grown hg h2 (ownBlock_ge hown)))
    unfold OwnP
    rw [List.length_append, cellsP_append]
    exact h1
theorem OwnP.row' {a0 w : World} {v : Value} {xs : List GPlace} (h : OwnP a0 w v xs) : (v = .slice none 0 0 ∧ xs = []) ∨ ∃ B cap, v = .slice (some ⟨B, 0, none⟩) xs.length cap ∧ xs.length ≤ cap ∧ a0.heap.size ≤ B ∧ B < w.heap.size ∧ RowP w B xs := by
  have hc := fun g hg => World.ownsRow.cells (g := g) h.row hg
  rcases h.row.2 with ⟨rfl, h0⟩ | ⟨g, cap, cur, rfl, hb, hh, hle, _⟩
  · exact .inl ⟨rfl, List.eq_nil_of_length_eq_zero h0⟩
  · refine .inr ⟨g, cap, rfl, hle, hb, (Array.getElem?_eq_some_iff.1 hh).1, fun i hi => ?_⟩
    have hg := cellsP_get xs i hi
    have c1 := hc g rfl _ _ hg.1
    have c2 := hc g rfl _ _ hg.2
    have e : ∀ j, (⟨g, 0, none⟩ : Addr).add j = ⟨g, j, none⟩ := by
      intro j; unfold Addr.add; split <;> simp_all
    rw [e] at c1 c2
    exact ⟨⟨c1, Lib.frozen_of_heap hh _⟩, ⟨c2, Lib.frozen_of_heap hh _⟩⟩
set_option maxRecDepth 100000 in
set_option maxHeartbeats 1600000 in
theorem grow_p (n : Nat) (hn : n ≤ 1000000) (w : World) :
    Calls Try.prog 43 #[.slice none 0 0, .int .i64 n] w fun e w' => ∃ v, e = .returned v ∧ OwnP w w' v [] ∧ Gr w w' := by
  obtain ⟨i0, hi, hz⟩ : ∃ i0, Try.prog.info? 39 = some i0 ∧ (i0.zero, i0.size, i0.bytes) = (some (.agg #[.int .i64 0, .int .i64 0]), 2, 16) := by
    have h := info_place
    cases h0 : Try.prog.info? 39 with
    | none => rw [h0] at h; cases h
    | some i0 => rw [h0] at h; exact ⟨i0, rfl, Option.some.inj h⟩
  simp only [Prod.mk.injEq] at hz
  obtain ⟨hz0, hz1, hz2⟩ := hz
  have hz00 := Lib.hid hz0
  have g0 : ¬ (n : Int) < 0 := by omega
  clear hz0
  by_cases h0 : n = 0
  · subst h0
    go_enter Try.func43, Try.ntmps43
    go_wp2_with fail
    go_ret
    exact ⟨_, rfl, World.ownsRow_nil _ _ _ _, Gr.refl _⟩
  · have g1 : 0 < (n : Int) := by omega
    go_enter Try.func43, Try.ntmps43
    have hr : ∀ W : World, (Builtin.append_ #[22, 3] 22 #[.slice none 0 0, .int .i64 n]).run Try.prog W = _ := fun W => Lib.run_append_nil_zeros (P := Try.prog) (ty := 22) W 22 3 39 i0 (.agg #[.int .i64 0, .int .i64 0]) .i64 .i64 Try.underlying22 Try.underlying3 hi hz00.out n (by omega) (by omega) (by omega) (by rw [hz2]; omega)
    go_wp2_with (at_builtin; refine Lib.wpList_append_run _ rfl _ _ _ _ rfl _ _ rfl rfl _ _ (hr _) ?_)
    go_ret
    refine ⟨_, rfl, ?_, ((Gr.refl w).alloc _).drew⟩
    have hge := grownCap_ge w n 0 39
    have hm := grownCap_le_maxLen w n 0 39 (by unfold maxLen; omega)
    exact World.ownsRow_made (base := w.heap.size) (size := 2) (e := 39) w _ _ (Nat.le_refl _) hm (by
      simp only [Array.size_append, size_zeroCells]
      show n * 2 + (_ - n) * 2 = _
      omega)
end Go.Proofs.Ytkdplnbdhkckhaa
