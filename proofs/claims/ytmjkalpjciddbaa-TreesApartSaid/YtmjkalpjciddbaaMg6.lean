/-
  Entries of a page, in memory.
-/
import Derived.Test.YtmjkalpjciddbaaMg5
import Derived.Test.YtmjkalpjciddbaaMg2
import Derived.Maps.AppendAt
import Derived.Deep.RegionWith
import Derived.Laws.CopyRow
import Derived.Shelf.Spec.SlicesInsertGrow
import Derived.Lib.Overlaps
import Derived.Laws.Externs
import Derived.Lib.AppendZerosOnto
import Derived.Deep.RegionLaw
import Derived.Lib.SlicesDelete
namespace Go.Proofs.Ytmjkalpjciddbaa
open Go Go.RowKit Go.Lib

def En.val (e : En) : Value := .agg #[.string e.key, .string e.item, .int .i64 (e.page : Int)]
def En.cells (e : En) : List Value := [.string e.key, .string e.item, .int .i64 (e.page : Int)]
def cellsE (l : List En) : List Value := l.flatMap En.cells
/-- A slice of entries in a block that was made behind a0. -/
def OwnE (a0 w : World) (v : Value) (l : List En) : Prop := w.ownsRow a0.heap.size 72 3 v l.length (cellsE l)
theorem OwnE.row {a0 w : World} {v : Value} {l : List En} (h : OwnE a0 w v l) : w.ownsRow a0.heap.size 72 3 v l.length (cellsE l) := h
theorem info_entry : (Try.prog.info? 72).map (fun i => (i.zero, i.size, i.bytes)) = some (some (.agg #[.string ⟨#[]⟩, .string ⟨#[]⟩, .int .i64 0]), 3, 40) := by kernel_rfl
theorem cellsE_append (a b : List En) : cellsE (a ++ b) = cellsE a ++ cellsE b := by
  unfold cellsE
  rw [List.flatMap_append]
theorem cellsE_len : ∀ l : List En, (cellsE l).length = l.length * 3
  | [] => rfl
  | e :: l => by
    have := cellsE_len l
    unfold cellsE at *
    rw [List.flatMap_cons, List.length_append, this]
    simp only [En.cells, List.length_cons, List.length_nil]
    omega
theorem En.cells_one (e : En) : ∀ u ∈ e.cells, u.oneCell' = true := by
  intro u hu
  unfold En.cells at hu
  simp only [List.mem_cons, List.not_mem_nil, or_false] at hu
  rcases hu with h | h | h <;> (rw [h]; rfl)
theorem cellsE_one (l : List En) : ∀ u ∈ cellsE l, u.oneCell' = true := by
  intro u hu
  unfold cellsE at hu
  obtain ⟨e, _, h⟩ := List.mem_flatMap.1 hu
  exact e.cells_one u h
theorem cellsE_get : ∀ (l : List En) (i : Nat) (h : i < l.length), (cellsE l)[i * 3]? = some (.string l[i].key) ∧ (cellsE l)[i * 3 + 1]? = some (.string l[i].item) ∧ (cellsE l)[i * 3 + 2]? = some (.int .i64 (l[i].page : Int))
  | e :: l, 0, _ => ⟨rfl, rfl, rfl⟩
  | e :: l, i + 1, h => by
    obtain ⟨h1, h2, h3⟩ := cellsE_get l i (by simpa using h)
    have e1 : cellsE (e :: l) = .string e.key :: .string e.item :: .int .i64 (e.page : Int) :: cellsE l := rfl
    rw [e1, show (i + 1) * 3 = i * 3 + 1 + 1 + 1 by omega]
    simp only [List.getElem?_cons_succ, List.getElem_cons_succ, h1, h2, h3, and_self]
/-- Entries in block b, from a cell on. -/
def EntsAt (w : World) (b off : Nat) (l : List En) : Prop :=
  ∀ i (h : i < l.length), w.cell? ⟨b, off + i * 3, none⟩ = some (.string l[i].key) ∧ w.cell? ⟨b, off + i * 3 + 1, none⟩ = some (.string l[i].item) ∧ w.cell? ⟨b, off + i * 3 + 2, none⟩ = some (.int .i64 (l[i].page : Int))
theorem EntsAt.gr {w w' : World} {b off : Nat} {l : List En} (h : EntsAt w b off l) (g : Gr w w') : EntsAt w' b off l := fun i hi => ⟨g.keeps (h i hi).1, g.keeps (h i hi).2.1, g.keeps (h i hi).2.2⟩
theorem EntsAt.keepX {S : Nat → Prop} {w w' : World} {b off : Nat} {l : List En} (h : EntsAt w b off l) (g : GrX S w w') (hs : ¬ S b) : EntsAt w' b off l := fun i hi => ⟨g.keeps hs (h i hi).1, g.keeps hs (h i hi).2.1, g.keeps hs (h i hi).2.2⟩
/-- A slice of entries that may be read. -/
def IsE (w : World) (v : Value) (l : List En) : Prop := (v = .slice none 0 0 ∧ l = []) ∨ ∃ b off c, v = .slice (some ⟨b, off, none⟩) l.length c ∧ b < w.heap.size ∧ EntsAt w b off l
theorem IsE.gr {w w' : World} {v : Value} {l : List En} (h : IsE w v l) (g : Gr w w') : IsE w' v l := by
  rcases h with h | ⟨b, off, c, h1, h2, h3⟩
  · exact .inl h
  · exact .inr ⟨b, off, c, h1, Nat.lt_of_lt_of_le h2 g.size, h3.gr g⟩
theorem IsE.keepX {S : Nat → Prop} {w w' : World} {v : Value} {l : List En} (h : IsE w v l) (g : GrX S w w') (hs : ∀ b, v.ownBlock = some b → ¬ S b) : IsE w' v l := by
  rcases h with h | ⟨b, off, c, h1, h2, h3⟩
  · exact .inl h
  · refine .inr ⟨b, off, c, h1, Nat.lt_of_lt_of_le h2 g.2.2.2.1, h3.keepX g (hs b (by rw [h1]; rfl))⟩
theorem IsE.form {w : World} {v : Value} {l : List En} (h : IsE w v l) : ∃ ao c, v = .slice ao l.length c := by
  rcases h with ⟨rfl, rfl⟩ | ⟨b, off, c, rfl, _⟩
  · exact ⟨none, 0, rfl⟩
  · exact ⟨_, c, rfl⟩
theorem EntsAt.cells {w : World} {b off : Nat} {l : List En} (h : EntsAt w b off l) : ∀ j u, (cellsE l)[j]? = some u → w.cell? ((⟨b, off, none⟩ : Addr).add j) = some u := by
  intro j u hj
  have hlt : j < l.length * 3 := by
    rw [← cellsE_len]
    exact (List.getElem?_eq_some_iff.1 hj).1
  have ha : (⟨b, off, none⟩ : Addr).add j = ⟨b, off + j, none⟩ := by
    unfold Addr.add
    split <;> simp_all
  have hg := cellsE_get l (j / 3) (by omega)
  have hp := h (j / 3) (by omega)
  rw [ha]
  rcases (show j % 3 = 0 ∨ j % 3 = 1 ∨ j % 3 = 2 by omega) with e | e | e
  · rw [show j / 3 * 3 = j by omega] at hg hp
    rw [hg.1] at hj
    rw [hp.1, Option.some.inj hj]
  · rw [show j / 3 * 3 + 1 = j by omega] at hg
    rw [show off + j / 3 * 3 + 1 = off + j by omega] at hp
    rw [hg.2.1] at hj
    rw [hp.2.1, Option.some.inj hj]
  · rw [show j / 3 * 3 + 2 = j by omega] at hg
    rw [show off + j / 3 * 3 + 2 = off + j by omega] at hp
    rw [hg.2.2] at hj
    rw [hp.2.2, Option.some.inj hj]
theorem OwnE.at' {a0 w : World} {v : Value} {l : List En} (h : OwnE a0 w v l) : (v = .slice none 0 0 ∧ l = []) ∨ ∃ B cap, v = .slice (some ⟨B, 0, none⟩) l.length cap ∧ l.length ≤ cap ∧ a0.heap.size ≤ B ∧ B < w.heap.size ∧ EntsAt w B 0 l ∧ ∀ o, w.frozen? ⟨B, o, none⟩ = false := by
  have hc := fun g hg => World.ownsRow.cells (g := g) h.row hg
  rcases h.row.2 with ⟨rfl, h0⟩ | ⟨g, cap, cur, rfl, hb, hh, hle, _⟩
  · exact .inl ⟨rfl, List.eq_nil_of_length_eq_zero h0⟩
  · refine .inr ⟨g, cap, rfl, hle, hb, (Array.getElem?_eq_some_iff.1 hh).1, fun i hi => ?_, fun o => Lib.frozen_of_heap hh _⟩
    have hg := cellsE_get l i hi
    have c1 := hc g rfl _ _ hg.1
    have c2 := hc g rfl _ _ hg.2.1
    have c3 := hc g rfl _ _ hg.2.2
    have e : ∀ j, (⟨g, 0, none⟩ : Addr).add j = ⟨g, j, none⟩ := by
      intro j; unfold Addr.add; split <;> simp_all
    rw [e] at c1 c2 c3
    rw [Nat.zero_add]
    exact ⟨c1, c2, c3⟩
theorem OwnE.isE {a0 w : World} {v : Value} {l : List En} (h : OwnE a0 w v l) : IsE w v l := by
  rcases h.at' with h | ⟨B, cap, h1, h2, h3, h4, h5, _⟩
  · exact .inl h
  · exact .inr ⟨B, 0, cap, h1, h4, h5⟩
theorem OwnE.form {a0 w : World} {v : Value} {l : List En} (h : OwnE a0 w v l) : ∃ ao c, v = .slice ao l.length c := h.isE.form
theorem OwnE.back {a0 a1 w : World} {v : Value} {l : List En} (h : OwnE a1 w v l) (g : Gr a0 a1) : OwnE a0 w v l := by
  refine ⟨h.row.1, ?_⟩
  rcases h.row.2 with h1 | ⟨g', cap, cur, h1, hb, hh⟩
  · exact .inl h1
  · exact .inr ⟨g', cap, cur, h1, Nat.le_trans g.size hb, hh⟩
theorem OwnE.gr {a0 w w' : World} {v : Value} {l : List En} (h : OwnE a0 w v l) (g : Gr w w') : OwnE a0 w' v l := ownsRow_gr h g
theorem OwnE.nil (a0 w : World) : OwnE a0 w (.slice none 0 0) [] := World.ownsRow_nil _ _ _ _
theorem OwnE.keepX {S : Nat → Prop} {a0 w w' : World} {v : Value} {l : List En} (h : OwnE a0 w v l) (g : GrX S w w') (hs : ∀ b, v.ownBlock = some b → ¬ S b) : OwnE a0 w' v l := by
  refine ⟨h.row.1, ?_⟩
  rcases h.row.2 with h1 | ⟨g', cap, cur, h1, hb, hh, h2⟩
  · exact .inl h1
  · exact .inr ⟨g', cap, cur, h1, hb, (g.block (Array.getElem?_eq_some_iff.1 hh).1 (hs g' (by rw [h1]; rfl))).trans hh, h2⟩
theorem ownE_snoc {a0 w : World} {v : Value} {l : List En} {e : En} (h : w.ownsRow a0.heap.size 72 3 v (l.length + 1) (cellsE l ++ e.cells)) : OwnE a0 w v (l ++ [e]) := by
  unfold OwnE
  rw [List.length_append, cellsE_append]
  have : cellsE [e] = e.cells := by unfold cellsE; simp
  rw [this]
  exact h
end Go.Proofs.Ytmjkalpjciddbaa

/-
  slices.Insert of one entry.
-/
namespace Go.Proofs.Ytmjkalpjciddbaa
open Go Go.RowKit Go.Lib

theorem run_copy_rowK {P : Program} (w : World) (dT sT ty elem : TypeId) (K g o oc dLen dCap : Nat) (a : Addr) (sLen sCap m : Nat) (cur : Array Value) (t : TypeId) (cs : List Value)
    (hu : P.underlying dT = some (.slice elem)) (hs : (P.info? elem).map (·.size) = some K)
    (hg : w.heap[g]? = some (.cells cur t (0, 0))) (hn : m = Nat.min sLen dLen) (hc : cs.length = m * K) (hoc : oc = o * K)
    (hsrc : ∀ j v, cs[j]? = some v → w.cell? (a.add j) = some v) (hfit : oc + cs.length ≤ cur.size) (h1 : ∀ v ∈ cs, v.oneCell' = true) :
    (Builtin.copy_ #[dT, sT] ty #[.slice (some ⟨g, oc, none⟩) dLen dCap, .slice (some a) sLen sCap]).run P w =
      .ok (goInt m) (w.setRow g (cur.toList.take oc ++ cs ++ cur.toList.drop (oc + cs.length)).toArray) := by
  have hl := run_loadCells_list (P := P) w a cs hsrc
  have hst := run_storeCells_at P g oc t cs 0 cur w hg (by simpa using hfit) h1
  cases hq : P.info? elem with
  | none => simp [hq] at hs
  | some i =>
    have hi : i.size = K := by simpa [hq] using hs
    simp [Builtin.copy_, run_underlying hu, Builtin.lenOf, Builtin.firstCells, sizeOf, typeInfo, hq, hi, ← hn, ← hc, hl, hst]
theorem insert_td {α : Type} (x : α) : ∀ (l : List α) (i : Nat), i ≤ l.length → l.insertIdx i x = l.take i ++ x :: l.drop i
  | l, 0, _ => by simp
  | [], i + 1, h => by simp at h
  | a :: l, i + 1, h => by
    have := insert_td x l i (by simpa using h)
    simp [List.insertIdx_succ_cons, this]
theorem info_entry_parts : ∃ i0, Try.prog.info? 72 = some i0 ∧ i0.zero = some (.agg #[.string ⟨#[]⟩, .string ⟨#[]⟩, .int .i64 0]) ∧ i0.size = 3 ∧ i0.bytes = 40 := by
  have h := info_entry
  cases h0 : Try.prog.info? 72 with
  | none => rw [h0] at h; cases h
  | some i0 =>
    rw [h0] at h
    have h := Option.some.inj h
    simp only [Prod.mk.injEq] at h
    exact ⟨i0, rfl, h.1, h.2.1, h.2.2⟩
theorem size_entry : (Try.prog.info? 72).map (·.size) = some 3 := by
  obtain ⟨i0, h1, _, h2, _⟩ := info_entry_parts
  rw [h1]
  simp [h2]
theorem cell_of_heap {w : World} {g : Nat} {cur : Array Value} {t : TypeId} (h : w.heap[g]? = some (.cells cur t (0, 0))) (j : Nat) : w.cell? ⟨g, j, none⟩ = cur[j]? := by
  simp [World.cell?, h]
theorem add_lit3 (g o j : Nat) : (⟨g, o, none⟩ : Addr).add j = ⟨g, o + j, none⟩ := by
  unfold Addr.add
  split <;> simp_all
theorem cellsE_take (l : List En) (i : Nat) (hi : i ≤ l.length) : (cellsE l).take (i * 3) = cellsE (l.take i) ∧ (cellsE l).drop (i * 3) = cellsE (l.drop i) := by
  have h : cellsE l = cellsE (l.take i) ++ cellsE (l.drop i) := by rw [← cellsE_append, List.take_append_drop]
  have h2 : (cellsE (l.take i)).length = i * 3 := by rw [cellsE_len, List.length_take, Nat.min_eq_left hi]
  constructor
  · rw [h, ← h2, List.take_left]
  · rw [h, ← h2, List.drop_left]
/-- The variadic argument of one entry, in a block of its own. -/
structure OneE (w : World) (vb : Nat) (e : En) : Prop where
  at_ : w.heap[vb]? = some (.cells e.cells.toArray 72 (0, 0))
theorem OneE.cell {w : World} {vb : Nat} {e : En} (h : OneE w vb e) (j : Nat) (v : Value) (hj : e.cells[j]? = some v) : w.cell? ((⟨vb, 0, none⟩ : Addr).add j) = some v := by
  rw [add_lit3, cell_of_heap h.at_, Nat.zero_add]
  simpa using hj
theorem append_ents {a0 w : World} {ops : Array Oper} {rest : List Oper} {o : Oper} {a : Act} {Q : Exit → Act → World → Prop} (hgd : o.guard = none) (s x : Operand)
    (ho : o.op = .call { callee := .builtin .append, args := #[s, x], argTypes := #[82, 82] }) (v : Value) (us : List En) (hs : a.eval s = v) (hown : OwnE a0 w v us)
    (vs : Value) (xs : List En) (hx : a.eval x = vs) (hi : IsE w vs xs) (hl : us.length + xs.length ≤ 1000000) (hg : Gr a0 w)
    (h : ∀ v' w', OwnE a0 w' v' (us ++ xs) → Gr a0 w' → GrX (fun b => v.ownBlock = some b) w w' → (v'.ownBlock = v.ownBlock ∨ v'.ownBlock = some w.heap.size) → wpList Try.prog ops Q rest (a.put o.dst v') w') : wpList Try.prog ops Q (o :: rest) a w := by
  obtain ⟨i0, hinf, hz0, hz1, hz2⟩ := info_entry_parts
  rcases hi with ⟨rfl, rfl⟩ | ⟨b, off, c, rfl, hb, hp⟩
  · rw [List.append_nil] at h
    exact Lib.wpList_append_run w hgd s x 82 82 ho v (.slice none 0 0) hs hx v w (run_append_owned_none w a0.heap.size 82 o.type 72 i0 3 Try.underlying82 hinf v us.length (cellsE us) hown) (h v w hown hg (GrX.refl _ _) (.inl rfl))
  · refine wpList_append_own_at w hgd s x 82 ho a0.heap.size 72 i0 (.agg #[.string ⟨#[]⟩, .string ⟨#[]⟩, .int .i64 0]) 3 40 Try.underlying82 hinf hz0 hz1 hz2 rfl (by decide) v us.length (cellsE us) hs hown ⟨b, off, none⟩ xs.length c (cellsE xs) hx (cellsE_len xs) hp.cells (cellsE_one xs) (by unfold maxLen; omega) (by omega) hg.size
      (fun v' w' h1 h2 _ h4 => h v' w' ?_ (gr_grown hg h2 (ownBlock_ge hown)) ⟨h2.os, h2.tape, h2.output, h2.size, fun k hk hs => h2.block k hk (fun e => hs e.symm)⟩ h4)
    unfold OwnE
    rw [List.length_append, cellsE_append]
    exact h1
end Go.Proofs.Ytmjkalpjciddbaa

/-
  slices.Insert of one entry: the walk.
-/
namespace Go.Proofs.Ytmjkalpjciddbaa
open Go Go.RowKit Go.Lib Go.Shelf

/-- What a slice that was changed is: its own block, or a new one. -/
def OwnTo (v v' : Value) (w : World) : Prop := ∀ b, v'.ownBlock = some b → v.ownBlock = some b ∨ w.heap.size ≤ b
theorem row_put {a0 w : World} {B n cap : Nat} {cur : Array Value} {l : List En} (hB : a0.heap.size ≤ B) (hlt : B < w.heap.size) (hc : cap ≤ maxLen) (hn : n ≤ cap) (hln : l.length = n) (hsz : cur.size = cap * 3) (ht : cur.toList.take (n * 3) = cellsE l) {old : Array Value}
    (ho : w.heap[B]? = some (.cells old 72 (0, 0))) : OwnE a0 (w.setRow B cur) (.slice (some ⟨B, 0, none⟩) n cap) l := by
  refine ⟨cellsE_len l, .inr ⟨B, cap, cur, by rw [hln], hB, setRow_heap w B old _ _ _ ho, by rw [hln]; exact hn, hc, hsz, by rw [hln]; exact ht⟩⟩
theorem setRow_grX {w : World} {B : Nat} {cur : Array Value} : GrX (fun b => b = B) w (w.setRow B cur) := by
  refine ⟨rfl, rfl, rfl, by simp [World.setRow], fun k hk hne => ?_⟩
  unfold World.setRow
  simp [Array.getElem?_modify, Ne.symm hne]
set_option maxRecDepth 100000 in
set_option maxHeartbeats 4000000 in
theorem insert_shift (a0 w : World) (B n cap k vb : Nat) (l : List En) (e : En) (h : OwnE a0 w (.slice (some ⟨B, 0, none⟩) n cap) l) (hln : l.length = n) (hk : k < n) (hroom : n + 1 ≤ cap) (hg : Gr a0 w) (hl : n ≤ 10000) (hv : OneE w vb e) (hvb : vb ≠ B) :
    Calls Try.prog 63 #[.slice (some ⟨B, 0, none⟩) n cap, .int .i64 k, .slice (some ⟨vb, 0, none⟩) 1 1] w fun ex w' =>
      ex = .returned (.slice (some ⟨B, 0, none⟩) (n + 1) cap) ∧ OwnE a0 w' (.slice (some ⟨B, 0, none⟩) (n + 1) cap) (l.insertIdx k e) ∧ GrX (fun b => b = B) w w' := by
  obtain ⟨cur, hB, hh, hc, hsz, ht⟩ : ∃ cur : Array Value, a0.heap.size ≤ B ∧ w.heap[B]? = some (.cells cur 72 (0, 0)) ∧ cap ≤ maxLen ∧ cur.size = cap * 3 ∧ cur.toList.take (n * 3) = cellsE l := by
    rcases h.row.2 with ⟨e1, _⟩ | ⟨g, cp, cur, e1, hb, hh, _, hc, hsz, ht⟩
    · cases e1
    · cases e1
      exact ⟨cur, hb, hh, hc, hsz, by rw [hln] at ht; exact ht⟩
  have hlt : B < w.heap.size := (Array.getElem?_eq_some_iff.1 hh).1
  have hcl : (cellsE l).length = n * 3 := by rw [cellsE_len, hln]
  obtain ⟨ct, cd⟩ := cellsE_take l k (by omega)
  have hdl : (cellsE (l.drop k)).length = (n - k) * 3 := by rw [cellsE_len, List.length_drop, hln]
  have htl : (cellsE (l.take k)).length = k * 3 := by rw [cellsE_len, List.length_take, hln, Nat.min_eq_left (by omega)]
  have hcur : ∀ j v, (cellsE l)[j]? = some v → cur[j]? = some v := fun j v hj => by
    rw [← ht, List.getElem?_take] at hj
    split at hj
    · simpa using hj
    · cases hj
  have hm63 : cap ≤ 9223372036854775807 := by unfold maxLen at hc; exact hc
  -- the first copy
  obtain ⟨cur1, hcur1⟩ : ∃ cur1 : Array Value, cur1 = (cur.toList.take ((k + 1) * 3) ++ cellsE (l.drop k) ++ cur.toList.drop ((k + 1) * 3 + (cellsE (l.drop k)).length)).toArray := ⟨_, rfl⟩
  have hcp1 : ∀ ty dc sc, (Builtin.copy_ #[82, 82] ty #[.slice (some ⟨B, (k + 1) * 3, none⟩) (n - k) dc, .slice (some ⟨B, k * 3, none⟩) (n + 1 - k) sc]).run Try.prog w.drew = .ok (goInt ((n - k : Nat) : Int)) (w.drew.setRow B cur1) := fun ty dc sc => by
    rw [hcur1]
    exact run_copy_rowK w.drew _ _ ty 72 3 B (k + 1) ((k + 1) * 3) (n - k) dc ⟨B, k * 3, none⟩ (n + 1 - k) sc (n - k) cur _ (cellsE (l.drop k)) Try.underlying82 size_entry hh (by simp only [Nat.min_def]; split <;> omega) hdl rfl
      (fun j v hj => by
        rw [add_lit3]
        rw [← cd, List.getElem?_drop] at hj
        rw [cell_of_heap (w := w.drew) hh]
        exact hcur _ _ hj) (by rw [hdl, hsz]; omega) (cellsE_one _)
  have hsz1 : cur1.size = cap * 3 := by
    rw [hcur1]
    simp only [List.size_toArray, List.length_append, List.length_take, List.length_drop, hdl, Array.length_toList, hsz]
    omega
  have hcl1 : cur1.toList = cur.toList.take ((k + 1) * 3) ++ cellsE (l.drop k) ++ cur.toList.drop ((k + 1) * 3 + (n - k) * 3) := by rw [hcur1, hdl]
  obtain ⟨W1, hW1⟩ : ∃ W1, W1 = w.drew.setRow B cur1 := ⟨_, rfl⟩
  have hW1h : W1.heap[B]? = some (.cells cur1 72 (0, 0)) := by
    rw [hW1]
    exact setRow_heap w.drew B cur _ _ _ hh
  have hg1 : GrX (fun b => b = B) w W1 := by
    rw [hW1]
    exact (GrX.drew (S := fun b => b = B) w).trans setRow_grX
  have hv1 : OneE W1 vb e := ⟨(hg1.block (Array.getElem?_eq_some_iff.1 hv.at_).1 hvb).trans hv.at_⟩
  -- the second copy
  obtain ⟨cur2, hcur2⟩ : ∃ cur2 : Array Value, cur2 = (cur1.toList.take (k * 3) ++ e.cells ++ cur1.toList.drop (k * 3 + e.cells.length)).toArray := ⟨_, rfl⟩
  have hel : e.cells.length = 3 := rfl
  have hcp2 : ∀ ty dc, (Builtin.copy_ #[82, 82] ty #[.slice (some ⟨B, k * 3, none⟩) (n + 1 - k) dc, .slice (some ⟨vb, 0, none⟩) 1 1]).run Try.prog W1 = .ok (goInt 1) (W1.setRow B cur2) := fun ty dc => by
    rw [hcur2]
    exact run_copy_rowK W1 _ _ ty 72 3 B k (k * 3) (n + 1 - k) dc ⟨vb, 0, none⟩ 1 1 1 cur1 _ e.cells Try.underlying82 size_entry hW1h (by simp only [Nat.min_def]; split <;> omega) rfl rfl (fun j v hj => hv1.cell j v hj) (by rw [hel, hsz1]; omega) e.cells_one
  have hsz2 : cur2.size = cap * 3 := by
    rw [hcur2]
    simp only [List.size_toArray, List.length_append, List.length_take, List.length_drop, hel, Array.length_toList, hsz1]
    omega
  have ht2 : cur2.toList.take ((n + 1) * 3) = cellsE (l.insertIdx k e) := by
    rw [insert_td e l k (by omega), cellsE_append]
    have e1 : cellsE (e :: l.drop k) = e.cells ++ cellsE (l.drop k) := rfl
    rw [e1, hcur2]
    show ((cur1.toList.take (k * 3) ++ e.cells ++ cur1.toList.drop (k * 3 + e.cells.length))).take ((n + 1) * 3) = _
    rw [hcl1, hel]
    have hct : (cur.toList.take ((k + 1) * 3)).length = (k + 1) * 3 := by rw [List.length_take, Array.length_toList, hsz, Nat.min_eq_left (by omega)]
    have t1 : (cur.toList.take ((k + 1) * 3) ++ cellsE (l.drop k) ++ cur.toList.drop ((k + 1) * 3 + (n - k) * 3)).take (k * 3) = cellsE (l.take k) := by
      rw [List.append_assoc, List.take_append_of_le_length (by omega), List.take_take, Nat.min_eq_left (by omega), ← ct, ← ht, List.take_take, Nat.min_eq_left (by omega)]
    have t2 : (cur.toList.take ((k + 1) * 3) ++ cellsE (l.drop k) ++ cur.toList.drop ((k + 1) * 3 + (n - k) * 3)).drop (k * 3 + 3) = cellsE (l.drop k) ++ cur.toList.drop ((k + 1) * 3 + (n - k) * 3) := by
      rw [List.append_assoc, show k * 3 + 3 = (cur.toList.take ((k + 1) * 3)).length by omega, List.drop_left]
    rw [t1, t2, List.append_assoc, ← List.append_assoc e.cells, ← List.append_assoc]
    rw [List.take_append_of_le_length (by simp only [List.length_append, htl, hdl, hel]; omega), List.take_of_length_le (by simp only [List.length_append, htl, hdl, hel]; omega)]
  have hov : ∀ lb cb, (callFunc 75 #[.slice (some ⟨vb, 0, none⟩) 1 1, .slice (some ⟨B, (k + 1) * 3, none⟩) lb cb]).run Try.prog w = .ok (.value (.bool false)) w := fun lb cb => by
    rw [run_callFunc_extern Try.func75 (by kernel_rfl) (by kernel_rfl) (by kernel_rfl) (e := Extern.SlicesOverlaps.overlaps #[82, 82] #[4]) (by kernel_rfl),
      Lib.run_overlaps_apart w 82 4 72 Try.underlying82 3 (fun _ => by kernel_rfl) ⟨vb, 0, none⟩ ⟨B, (k + 1) * 3, none⟩ 1 1 lb cb hvb 72 72 3 (cap * 3) (by unfold World.shape?; rw [hv.at_]; rfl) (by unfold World.shape?; simp only; rw [hh]; simp only [hsz]) (by omega) (Lib.frozen_of_heap hv.at_ _) (Lib.frozen_of_heap hv.at_ _)]
    rfl
  have mixed : Try.prog.follows Departure.mixedOrders = true := by kernel_rfl
  have hz2 : ¬ ((k : Int) = (n : Int)) := by omega
  have hroom' : ¬ ((cap : Int) < (n : Int) + 1) := by omega
  have hw1 : IntKind.i64.wrap ((k : Int) + 1) = (k : Int) + 1 := by rw [IntKind.wrap_i64]; omega
  have hb1 : (0 : Int) ≤ (k : Int) + 1 := by omega
  have hin : k ≤ n := by omega
  have htn : ((k : Int) + 1).toNat = k + 1 := by omega
  have hb2 : ¬ (cap = k + 1) := by omega
  have hb3 : (k : Int) ≤ (n : Int) + 1 := by omega
  have hb4 : ¬ (cap = k) := by omega
  rw [← hW1] at hcp1
  have HR : OwnE a0 (W1.setRow B cur2) (.slice (some ⟨B, 0, none⟩) (n + 1) cap) (l.insertIdx k e) := row_put hB (Nat.lt_of_lt_of_le hlt hg1.2.2.2.1) hc hroom (by rw [List.length_insertIdx_of_le_length (by omega), hln]) hsz2 ht2 hW1h
  have HG : GrX (fun b => b = B) w (W1.setRow B cur2) := hg1.trans setRow_grX
  clear ht2 hsz2 hcl1 hcur1 hcur2 hcur h ht hg1 hv1 hW1 hW1h hh hcl ct cd hdl htl
  go_enter Try.func63, Try.ntmps63
  go_wp2_with (simp only [hov])
  go_region_law_o (refine step_copy_runI rfl _ _ 82 82 rfl _ _ (by simp [Act.eval, Act.put]) (by simp [Act.eval, Act.put]) (hcp1 _ _ _) ?_)
  go_wp2_with (at_builtin; refine wpList_copy_runI _ rfl _ _ 82 82 rfl _ _ rfl rfl (hcp2 _ _) ?_)
  go_ret
  exact ⟨rfl, HR, HG⟩
end Go.Proofs.Ytmjkalpjciddbaa

/-
  slices.Insert of one entry where there is no room; and at the end.
-/
namespace Go.Proofs.Ytmjkalpjciddbaa
open Go Go.RowKit Go.Lib Go.Shelf

theorem take_add' {α : Type} (l : List α) (i j : Nat) : l.take (i + j) = l.take i ++ (l.drop i).take j := by
  rw [List.take_add]
set_option maxRecDepth 100000 in
set_option maxHeartbeats 4000000 in
theorem insert_grow (a0 w : World) (B n cap k vb : Nat) (l : List En) (e : En) (h : OwnE a0 w (.slice (some ⟨B, 0, none⟩) n cap) l) (hln : l.length = n) (hk : k < n) (hnc : n ≤ cap) (hroom : cap < n + 1) (hg : Gr a0 w) (hl : n ≤ 10000) (hv : OneE w vb e) (hvb : vb ≠ B) :
    Calls Try.prog 63 #[.slice (some ⟨B, 0, none⟩) n cap, .int .i64 k, .slice (some ⟨vb, 0, none⟩) 1 1] w fun ex w' =>
      ∃ G, ex = .returned (.slice (some ⟨w.heap.size, 0, none⟩) (n + 1) G) ∧ OwnE a0 w' (.slice (some ⟨w.heap.size, 0, none⟩) (n + 1) G) (l.insertIdx k e) ∧ Gr w w' := by
  obtain ⟨cur, hB, hh, hc, hsz, ht⟩ : ∃ cur : Array Value, a0.heap.size ≤ B ∧ w.heap[B]? = some (.cells cur 72 (0, 0)) ∧ cap ≤ maxLen ∧ cur.size = cap * 3 ∧ cur.toList.take (n * 3) = cellsE l := by
    rcases h.row.2 with ⟨e1, _⟩ | ⟨g, cp, cur, e1, hb, hh, _, hc, hsz, ht⟩
    · cases e1
    · cases e1
      exact ⟨cur, hb, hh, hc, hsz, by rw [hln] at ht; exact ht⟩
  obtain ⟨i0, hi0, hz0, hzs, hzb⟩ := info_entry_parts
  have hlt : B < w.heap.size := (Array.getElem?_eq_some_iff.1 hh).1
  have hvlt : vb < w.heap.size := (Array.getElem?_eq_some_iff.1 hv.at_).1
  have hcl : (cellsE l).length = n * 3 := by rw [cellsE_len, hln]
  obtain ⟨ct, cd⟩ := cellsE_take l k (by omega)
  have hdl : (cellsE (l.drop k)).length = (n - k) * 3 := by rw [cellsE_len, List.length_drop, hln]
  have htl : (cellsE (l.take k)).length = k * 3 := by rw [cellsE_len, List.length_take, hln, Nat.min_eq_left (by omega)]
  have hcur : ∀ j v, (cellsE l)[j]? = some v → cur[j]? = some v := fun j v hj => by
    rw [← ht, List.getElem?_take] at hj
    split at hj
    · simpa using hj
    · cases hj
  have hm63 : cap ≤ 9223372036854775807 := by unfold maxLen at hc; exact hc
  have hkk : (n : Int) + 1 - (k : Int) = ((n + 1 - k : Nat) : Int) := by omega
  have hik : k + (n + 1 - k) = n + 1 := by omega
  have hold : (Builtin.firstCells i0.size k (.slice (some ⟨B, 0, none⟩) k cap)).run Try.prog w.drew = .ok (cellsE (l.take k)).toArray w.drew := by
    rw [hzs]
    exact run_firstCells_some w.drew 3 k ⟨B, 0, none⟩ k cap (cellsE (l.take k)) htl (fun j v hj => by
      rw [add_lit3, cell_of_heap (w := w.drew) hh, Nat.zero_add]
      refine hcur j v ?_
      rw [← ct, List.getElem?_take] at hj
      split at hj
      · exact hj
      · cases hj)
  obtain ⟨G, hG⟩ : ∃ G, G = grownCap w (n + 1) cap 72 := ⟨_, rfl⟩
  have hGn : n + 1 ≤ G := by rw [hG]; exact grownCap_ge w _ _ _
  have hGm : G ≤ maxLen := by rw [hG]; exact grownCap_le_maxLen w (n + 1) cap 72 (by unfold maxLen; omega)
  have hG63 : G ≤ 9223372036854775807 := by unfold maxLen at hGm; exact hGm
  obtain ⟨Z, hZ⟩ : ∃ Z : List Value, Z = (Builtin.zeroCells (Value.agg #[.string ⟨#[]⟩, .string ⟨#[]⟩, .int .i64 0]).cells (n + 1 - k) ++ Builtin.zeroCells (Value.agg #[.string ⟨#[]⟩, .string ⟨#[]⟩, .int .i64 0]).cells (G - (n + 1))).toList := ⟨_, rfl⟩
  have hZl : Z.length = (G - k) * 3 := by
    rw [hZ]
    have e1 : ∀ m, (Builtin.zeroCells (Value.agg #[.string ⟨#[]⟩, .string ⟨#[]⟩, .int .i64 0]).cells m).size = m * 3 := fun m => by
      rw [size_zeroCells]
      rfl
    rw [Array.length_toList, Array.size_append, e1, e1]
    omega
  obtain ⟨ROW, hROW⟩ : ∃ ROW : Array Value, ROW = (cellsE (l.take k) ++ Z).toArray := ⟨_, rfl⟩
  have hRs : ROW.size = G * 3 := by
    rw [hROW, List.size_toArray, List.length_append, htl, hZl]
    omega
  have hrz : ∀ ty, (Builtin.append_ #[82, 3] ty #[.slice (some ⟨B, 0, none⟩) k cap, .int .i64 ((n : Int) + 1 - (k : Int))]).run Try.prog w =
      .ok (.slice (some ⟨w.heap.size, 0, none⟩) (n + 1) G) (w.drew.alloc (.cells ROW 72)) := fun ty => by
    have h := Lib.run_append_grow_zeros w 82 3 ty 72 i0 _ .i64 .i64 Try.underlying82 Try.underlying3 hi0 hz0 (some ⟨B, 0, none⟩) k cap (cellsE (l.take k)) hold (n + 1 - k) (by omega) (by omega) (by omega) (by omega) (by rw [hzb]; omega) (by rw [hzb, hik]; exact growslice_fits (by omega) (by omega))
    rw [hik, ← hG] at h
    rw [hkk]
    have e2 : ROW = (cellsE (l.take k)).toArray ++ Builtin.zeroCells (Value.agg #[.string ⟨#[]⟩, .string ⟨#[]⟩, .int .i64 0]).cells (n + 1 - k) ++ Builtin.zeroCells (Value.agg #[.string ⟨#[]⟩, .string ⟨#[]⟩, .int .i64 0]).cells (G - (n + 1)) := by
      rw [hROW, hZ]
      apply Array.ext'
      simp
    rw [e2]
    exact h
  obtain ⟨W1, hW1⟩ : ∃ W1, W1 = w.drew.alloc (.cells ROW 72) := ⟨_, rfl⟩
  rw [← hW1] at hrz
  have hg1 : Gr w W1 := by
    rw [hW1]
    exact ((Gr.refl w).drew).alloc _
  have hW1h : W1.heap[w.heap.size]? = some (.cells ROW 72 (0, 0)) := by
    rw [hW1]
    exact heap_alloc_new w.drew _
  have hv1 : OneE W1 vb e := ⟨(hg1.block vb hvlt).trans hv.at_⟩
  have hB1 : W1.heap[B]? = some (.cells cur 72 (0, 0)) := (hg1.block B hlt).trans hh
  -- the first copy
  have hel : e.cells.length = 3 := rfl
  obtain ⟨cur2, hcur2⟩ : ∃ cur2 : Array Value, cur2 = (ROW.toList.take (k * 3) ++ e.cells ++ ROW.toList.drop (k * 3 + e.cells.length)).toArray := ⟨_, rfl⟩
  have hcp1 : ∀ ty dc, (Builtin.copy_ #[82, 82] ty #[.slice (some ⟨w.heap.size, k * 3, none⟩) (n + 1 - k) dc, .slice (some ⟨vb, 0, none⟩) 1 1]).run Try.prog W1 = .ok (goInt 1) (W1.setRow w.heap.size cur2) := fun ty dc => by
    rw [hcur2]
    exact run_copy_rowK W1 _ _ ty 72 3 w.heap.size k (k * 3) (n + 1 - k) dc ⟨vb, 0, none⟩ 1 1 1 ROW _ e.cells Try.underlying82 size_entry hW1h (by simp only [Nat.min_def]; split <;> omega) rfl rfl (fun j v hj => hv1.cell j v hj) (by rw [hel, hRs]; omega) e.cells_one
  have hl2 : cur2.toList = cellsE (l.take k) ++ (e.cells ++ Z.drop 3) := by
    rw [hcur2, hROW, hel]
    show ((cellsE (l.take k) ++ Z).take (k * 3) ++ e.cells ++ (cellsE (l.take k) ++ Z).drop (k * 3 + 3)) = _
    have e3 : (cellsE (l.take k) ++ Z).drop (k * 3 + 3) = Z.drop 3 := by
      rw [← htl, ← List.drop_drop, List.drop_left]
    rw [e3, ← htl, List.take_left, List.append_assoc]
  have hsz2 : cur2.size = G * 3 := by
    rw [← Array.length_toList, hl2]
    simp only [List.length_append, List.length_drop, htl, hel, hZl]
    omega
  obtain ⟨W2, hW2⟩ : ∃ W2, W2 = W1.setRow w.heap.size cur2 := ⟨_, rfl⟩
  rw [← hW2] at hcp1
  have hW2h : W2.heap[w.heap.size]? = some (.cells cur2 72 (0, 0)) := by
    rw [hW2]
    exact setRow_heap W1 w.heap.size ROW _ _ _ hW1h
  have hg2 : GrX (fun b => b = w.heap.size) W1 W2 := by
    rw [hW2]
    exact setRow_grX
  have hB2 : W2.heap[B]? = some (.cells cur 72 (0, 0)) := (hg2.block (Array.getElem?_eq_some_iff.1 hB1).1 (by omega)).trans hB1
  obtain ⟨cur3, hcur3⟩ : ∃ cur3 : Array Value, cur3 = (cur2.toList.take ((k + 1) * 3) ++ cellsE (l.drop k) ++ cur2.toList.drop ((k + 1) * 3 + (cellsE (l.drop k)).length)).toArray := ⟨_, rfl⟩
  have hcp2 : ∀ ty dc sc, (Builtin.copy_ #[82, 82] ty #[.slice (some ⟨w.heap.size, (k + 1) * 3, none⟩) (n - k) dc, .slice (some ⟨B, k * 3, none⟩) (n - k) sc]).run Try.prog W2.drew = .ok (goInt ((n - k : Nat) : Int)) (W2.drew.setRow w.heap.size cur3) := fun ty dc sc => by
    rw [hcur3]
    exact run_copy_rowK W2.drew _ _ ty 72 3 w.heap.size (k + 1) ((k + 1) * 3) (n - k) dc ⟨B, k * 3, none⟩ (n - k) sc (n - k) cur2 _ (cellsE (l.drop k)) Try.underlying82 size_entry hW2h (by simp only [Nat.min_def]; split <;> omega) hdl rfl
      (fun j v hj => by
        rw [add_lit3]
        rw [← cd, List.getElem?_drop] at hj
        rw [cell_of_heap (w := W2.drew) hB2]
        exact hcur _ _ hj) (by rw [hdl, hsz2]; omega) (cellsE_one _)
  have hsz3 : cur3.size = G * 3 := by
    rw [hcur3]
    simp only [List.size_toArray, List.length_append, List.length_take, List.length_drop, hdl, Array.length_toList, hsz2]
    omega
  have ht3 : cur3.toList.take ((n + 1) * 3) = cellsE (l.insertIdx k e) := by
    rw [insert_td e l k (by omega), cellsE_append]
    have e1 : cellsE (e :: l.drop k) = e.cells ++ cellsE (l.drop k) := rfl
    rw [e1, hcur3]
    show (cur2.toList.take ((k + 1) * 3) ++ cellsE (l.drop k) ++ cur2.toList.drop ((k + 1) * 3 + (cellsE (l.drop k)).length)).take ((n + 1) * 3) = _
    have t1 : cur2.toList.take ((k + 1) * 3) = cellsE (l.take k) ++ e.cells := by
      rw [hl2, ← List.append_assoc, List.take_append_of_le_length (by simp only [List.length_append, htl, hel]; omega), List.take_of_length_le (by simp only [List.length_append, htl, hel]; omega)]
    rw [t1, List.take_append_of_le_length (by simp only [List.length_append, htl, hdl, hel]; omega), List.take_of_length_le (by simp only [List.length_append, htl, hdl, hel]; omega), List.append_assoc]
  have mixed : Try.prog.follows Departure.mixedOrders = true := by kernel_rfl
  have hz2 : ¬ ((k : Int) = (n : Int)) := by omega
  have hroom' : (cap : Int) < (n : Int) + 1 := by omega
  have hw1 : IntKind.i64.wrap ((k : Int) + 1) = (k : Int) + 1 := by rw [IntKind.wrap_i64]; omega
  have hb1 : (0 : Int) ≤ (k : Int) + 1 := by omega
  have hin : k ≤ n := by omega
  have htn : ((k : Int) + 1).toNat = k + 1 := by omega
  have hGi : ¬ (G = k) := by omega
  have hGim : ¬ (G = k + 1) := by omega
  have hci : ¬ (cap = k) := by omega
  have hb3 : (k : Int) ≤ (n : Int) := by omega
  have hb5 : (k : Int) ≤ (n : Int) + 1 := by omega
  have HG : Gr w (W2.drew.setRow w.heap.size cur3) := (setRow_grX (w := W2.drew)).gr ((hg2.gr hg1 (fun b hb => Nat.le_of_eq hb.symm)).drew) (fun b hb => Nat.le_of_eq hb.symm)
  have HR : OwnE a0 (W2.drew.setRow w.heap.size cur3) (.slice (some ⟨w.heap.size, 0, none⟩) (n + 1) G) (l.insertIdx k e) := row_put hg.size (by show w.heap.size < W2.drew.heap.size; have := (Array.getElem?_eq_some_iff.1 hW2h).1; exact this) hGm hGn (by rw [List.length_insertIdx_of_le_length (by omega), hln]) hsz3 ht3 (w := W2.drew) hW2h
  clear ht3 hsz3 hsz2 hl2 hcur2 hcur3 hcur h ht hg1 hv1 hW1 hW1h hh hcl ct cd hdl htl hRs hROW hZ hZl hold hG hkk hik hB1 hB2 hW2 hW2h hg2
  go_enter Try.func63, Try.ntmps63
  go_wp2_with (first
    | (at_builtin; refine Lib.wpList_append_run _ rfl _ _ _ _ rfl _ _ rfl rfl _ _ (hrz _) ?_)
    | (at_builtin; refine wpList_copy_runI _ rfl _ _ 82 82 rfl _ _ rfl rfl (hcp1 _ _) ?_))
  go_region_law_o (refine step_copy_runI rfl _ _ 82 82 rfl _ _ (by simp [Act.eval, Act.put]) (by simp [Act.eval, Act.put]) (hcp2 _ _ _) ?_)
  go_wp2_with fail
  go_ret
  exact ⟨G, rfl, HR, HG⟩
end Go.Proofs.Ytmjkalpjciddbaa

/-
  slices.Insert of one entry, at whatever place; slices.Clone.
-/
namespace Go.Proofs.Ytmjkalpjciddbaa
open Go Go.RowKit Go.Lib Go.Shelf

theorem OneE.isE {w : World} {vb : Nat} {e : En} (h : OneE w vb e) : IsE w (.slice (some ⟨vb, 0, none⟩) 1 1) [e] := by
  refine .inr ⟨vb, 0, 1, rfl, (Array.getElem?_eq_some_iff.1 h.at_).1, fun i hi => ?_⟩
  have hi0 : i = 0 := by simpa using hi
  subst hi0
  rw [cell_of_heap h.at_, cell_of_heap h.at_, cell_of_heap h.at_]
  exact ⟨rfl, rfl, rfl⟩
theorem ownTo_of {v v' : Value} {w : World} (h : v'.ownBlock = v.ownBlock ∨ v'.ownBlock = some w.heap.size) : OwnTo v v' w := fun b hb => by
  rcases h with e1 | e1
  · exact .inl (e1.symm.trans hb)
  · rw [e1] at hb
    exact .inr (Nat.le_of_eq (Option.some.inj hb))
theorem gr_of_own {a0 w w' : World} {v : Value} {l : List En} (h : OwnE a0 w v l) (hg : Gr a0 w) (g : GrX (fun b => v.ownBlock = some b) w w') : Gr a0 w' := g.gr hg fun _ hk => ownBlock_ge h _ hk
set_option maxRecDepth 100000 in
set_option maxHeartbeats 1600000 in
theorem insert_end (a0 w : World) (v : Value) (l : List En) (vb : Nat) (e : En) (h : OwnE a0 w v l) (hg : Gr a0 w) (hl : l.length ≤ 10000) (hv : OneE w vb e) :
    Calls Try.prog 63 #[v, .int .i64 l.length, .slice (some ⟨vb, 0, none⟩) 1 1] w fun ex w' =>
      ∃ v', ex = .returned v' ∧ OwnE a0 w' v' (l ++ [e]) ∧ Gr a0 w' ∧ GrX (fun b => v.ownBlock = some b) w w' ∧ OwnTo v v' w := by
  have H := Lib.hid h
  have HG := Lib.hid hg
  have HV := Lib.hid hv.isE
  have hl1 : l.length + [e].length ≤ 1000000 := by simp; omega
  rcases h.at' with ⟨rfl, rfl⟩ | ⟨B, cap, rfl, h2, _⟩
  · clear h hg hv
    go_enter Try.func63, Try.ntmps63
    go_wp2_with (at_builtin; refine append_ents (a0 := a0) rfl _ _ rfl _ [] rfl H.out _ [e] rfl HV.out hl1 HG.out ?_; intro v3 w3 ho3 hg3 hx3 hb3)
    all_goals
      go_ret
      exact ⟨_, rfl, ho3, hg3, hx3, ownTo_of hb3⟩
  · have hc : l.length ≤ cap := h2
    have hm : cap ≤ 9223372036854775807 := by
      rcases h.row.2 with ⟨e1, _⟩ | ⟨g, cp, cur, e1, _, _, _, hc, _⟩
      · cases e1
      · cases e1
        unfold maxLen at hc
        exact hc
    clear h hg hv
    go_enter Try.func63, Try.ntmps63
    go_wp2_with (at_builtin; refine append_ents (a0 := a0) rfl _ _ rfl _ l rfl H.out _ [e] rfl HV.out hl1 HG.out ?_; intro v3 w3 ho3 hg3 hx3 hb3)
    all_goals
      go_ret
      exact ⟨_, rfl, ho3, hg3, hx3, ownTo_of hb3⟩
theorem insert_e (a0 w : World) (v : Value) (l : List En) (k vb : Nat) (e : En) (h : OwnE a0 w v l) (hk : k ≤ l.length) (hg : Gr a0 w) (hl : l.length ≤ 10000) (hv : OneE w vb e) (hvb : v.ownBlock ≠ some vb) :
    Calls Try.prog 63 #[v, .int .i64 k, .slice (some ⟨vb, 0, none⟩) 1 1] w fun ex w' =>
      ∃ v', ex = .returned v' ∧ OwnE a0 w' v' (l.insertIdx k e) ∧ Gr a0 w' ∧ GrX (fun b => v.ownBlock = some b) w w' ∧ OwnTo v v' w := by
  rcases Nat.lt_or_ge k l.length with hlt | hge
  · rcases h.at' with ⟨_, e2⟩ | ⟨B, cap, rfl, h2, h3, h4, _⟩
    · rw [e2] at hlt
      exact absurd hlt (by simp)
    · have hne : vb ≠ B := fun e1 => hvb (by rw [e1]; rfl)
      rcases Nat.lt_or_ge cap (l.length + 1) with hc | hc
      · refine (insert_grow a0 w B l.length cap k vb l e h rfl hlt h2 hc hg hl hv hne).mono ?_
        rintro ex w' ⟨G, rfl, h5, h6⟩
        exact ⟨_, rfl, h5, hg.trans h6, GrX.of_gr h6, fun b hb => .inr (Nat.le_of_eq (Option.some.inj hb))⟩
      · refine (insert_shift a0 w B l.length cap k vb l e h rfl hlt hc hg hl hv hne).mono ?_
        rintro ex w' ⟨rfl, h5, h6⟩
        have h7 : GrX (fun b => (Value.slice (some ⟨B, 0, none⟩) l.length cap).ownBlock = some b) w w' := ⟨h6.1, h6.2.1, h6.2.2.1, h6.2.2.2.1, fun b hb hn => h6.2.2.2.2 b hb fun e1 => hn (by rw [e1]; rfl)⟩
        exact ⟨_, rfl, h5, gr_of_own h hg h7, h7, fun b hb => .inl hb⟩
  · have e1 : k = l.length := by omega
    subst e1
    have e2 : l.insertIdx l.length e = l ++ [e] := by
      rw [insert_td e l l.length (Nat.le_refl _), List.take_length, List.drop_length]
    rw [e2]
    exact insert_end a0 w v l vb e h hg hl hv
set_option maxRecDepth 100000 in
set_option maxHeartbeats 1600000 in
theorem clone_e (l : List En) (v : Value) (w : World) (h : IsE w v l) (hl : l.length ≤ 10000) :
    Calls Try.prog 79 #[v] w fun ex w' => ∃ v', ex = .returned v' ∧ OwnE w w' v' l ∧ Gr w w' := by
  have H := Lib.hid h
  have q82 : ∀ (w : World) (a : Option Addr) (n c n' c' : Nat), (binOp .eql 82 (.slice a n c) (.slice none n' c')).run Try.prog w = .ok (.bool a.isNone) w := fun w a n c n' c' => Lib.run_eql_slice_nil w _ _ a n c n' c' Try.underlying82
  rcases h with ⟨rfl, rfl⟩ | ⟨b, off, c, rfl, hb, hp⟩
  · go_enter Try.func79, Try.ntmps79
    go_wp2_with fail
    go_ret
    exact ⟨_, rfl, OwnE.nil _ _, Gr.refl _⟩
  · have hga : Gr w (w.alloc (.cells #[] 72)) := (Gr.refl w).alloc _
    have h0 : OwnE w (w.alloc (.cells #[] 72)) (.slice (some ⟨w.heap.size, 0, none⟩) 0 0) [] := World.ownsRow_lit w #[] 0 (Nat.le_refl _) (by decide) rfl
    have H0 := Lib.hid h0
    have HGA := Lib.hid hga
    have hl1 : ([] : List En).length + l.length ≤ 1000000 := by simp; omega
    clear h0 hga hp hb
    go_enter Try.func79, Try.ntmps79
    go_wp2_with (at_builtin; refine append_ents (a0 := w) rfl _ _ rfl _ [] rfl H0.out _ l rfl (H.out.gr HGA.out) hl1 HGA.out ?_; intro v3 w3 ho3 hg3 hx3 hb3)
    go_ret
    exact ⟨_, rfl, by rw [List.nil_append] at ho3; exact ho3, hg3⟩
end Go.Proofs.Ytmjkalpjciddbaa

/-
  slices.Delete of one entry.
-/
namespace Go.Proofs.Ytmjkalpjciddbaa
open Go Go.RowKit Go.Lib Go.Shelf

theorem setCells_row {t : TypeId} (B : Nat) : ∀ (vs : List Value) (o : Nat) (cur : Array Value) (w : World), w.heap[B]? = some (.cells cur t (0, 0)) → o + vs.length ≤ cur.size → w.setCells B o vs = w.setRow B (cur.toList.take o ++ vs ++ cur.toList.drop (o + vs.length)).toArray
  | [], o, cur, w, hh, _ => by
    simp only [World.setCells, List.append_nil, List.length_nil, Nat.add_zero, List.take_append_drop, Array.toArray_toList]
    rw [setRow_self w B cur t (0, 0) hh]
  | v :: r, o, cur, w, hh, hl => by
    rw [World.setCells, setCell_eq_setRow w B o cur t (0, 0) v hh]
    have ih := setCells_row B r (o + 1) (cur.setIfInBounds o v) (w.setRow B (cur.setIfInBounds o v)) (setRow_heap w B cur _ t _ hh) (by simp at hl ⊢; omega)
    rw [ih, setRow_setRow]
    congr 2
    have e := list_seg_step cur.toList o v r (by simp at hl ⊢; omega)
    simpa [Array.toList_setIfInBounds, Nat.add_assoc] using e
def zeroE : List Value := [.string ⟨#[]⟩, .string ⟨#[]⟩, .int .i64 0]
theorem run_clear_entry (w : World) (ty : TypeId) (b o c : Nat) (hc : ∀ j, j < 3 → (w.cell? ⟨b, o + j, none⟩).isSome = true) (hf : ∀ j, j < 3 → w.frozen? ⟨b, o + j, none⟩ = false) :
    (Builtin.clear_ #[82] ty #[.slice (some ⟨b, o, none⟩) 1 c]).run Try.prog w = .ok (.tuple #[]) (w.setCells b o zeroE) := by
  have hv : ∀ w, (zeroValue 72).run Try.prog w = .ok (.agg #[.string ⟨#[]⟩, .string ⟨#[]⟩, .int .i64 0]) w := Try.zeroValue72
  have hzc : (Builtin.zeroCells (Value.agg #[.string ⟨#[]⟩, .string ⟨#[]⟩, .int .i64 0]).cells 1).toList = zeroE := by
    apply List.ext_getElem
    · simp [Builtin.zeroCells, Value.cells, zeroE]
    · intro i h1 h2
      have hi : i < 3 := by simpa [zeroE] using h2
      match i, hi with
      | 0, _ => simp [Builtin.zeroCells, Value.cells, zeroE]
      | 1, _ => simp [Builtin.zeroCells, Value.cells, zeroE]
      | 2, _ => simp [Builtin.zeroCells, Value.cells, zeroE]
  have hst := run_storeCells_cells (P := Try.prog) b o zeroE 0 w (by simpa [zeroE] using hc) (by simpa [zeroE] using hf) (by intro v hv'; simp [zeroE] at hv'; rcases hv' with h | h <;> (rw [h]; rfl))
  simp only [Nat.add_zero] at hst
  simp [Builtin.clear_, run_underlying Try.underlying82, hv, hzc, hst]
theorem eraseIdx_td {α : Type} : ∀ (l : List α) (i : Nat), i < l.length → l.eraseIdx i = l.take i ++ l.drop (i + 1)
  | [], i, h => by simp at h
  | a :: l, 0, _ => by simp
  | a :: l, i + 1, h => by
    have := eraseIdx_td l i (by simpa using h)
    simp [this]
set_option maxRecDepth 100000 in
set_option maxHeartbeats 4000000 in
theorem delete_e (a0 w : World) (v : Value) (l : List En) (k : Nat) (h : OwnE a0 w v l) (hk : k < l.length) (hg : Gr a0 w) (hl : l.length ≤ 10000) :
    Calls Try.prog 65 #[v, .int .i64 k, .int .i64 ((k : Int) + 1)] w fun ex w' =>
      ∃ v', ex = .returned v' ∧ OwnE a0 w' v' (l.eraseIdx k) ∧ Gr a0 w' ∧ GrX (fun b => v.ownBlock = some b) w w' ∧ v'.ownBlock = v.ownBlock := by
  rcases h.row.2 with ⟨_, e2⟩ | ⟨B, cap, cur, rfl, hB, hh, hnc, hc, hsz, ht⟩
  · omega
  obtain ⟨n, hln⟩ : ∃ n, l.length = n := ⟨_, rfl⟩
  rw [hln] at hk hnc ht hl ⊢
  obtain ⟨i0, hi0, hz0, hzs, hzb⟩ := info_entry_parts
  have hlt : B < w.heap.size := (Array.getElem?_eq_some_iff.1 hh).1
  have hcl : (cellsE l).length = n * 3 := by rw [cellsE_len, hln]
  obtain ⟨ct, cd⟩ := cellsE_take l k (by omega)
  obtain ⟨ct1, cd1⟩ := cellsE_take l (k + 1) (by omega)
  have hdl : (cellsE (l.drop (k + 1))).length = (n - (k + 1)) * 3 := by rw [cellsE_len, List.length_drop, hln]
  have htl : (cellsE (l.take k)).length = k * 3 := by rw [cellsE_len, List.length_take, hln, Nat.min_eq_left (by omega)]
  have hcur : ∀ j v, (cellsE l)[j]? = some v → cur[j]? = some v := fun j v hj => by
    rw [← ht, List.getElem?_take] at hj
    split at hj
    · simpa using hj
    · cases hj
  have hm63 : cap ≤ 9223372036854775807 := by unfold maxLen at hc; exact hc
  obtain ⟨news, hnews⟩ : ∃ news, news = cellsE (l.drop (k + 1)) := ⟨_, rfl⟩
  rw [← hnews] at hdl
  obtain ⟨A, hA, hsrc⟩ : ∃ A : Addr, (if cap = k + 1 then some (⟨B, 0, none⟩ : Addr) else some ⟨B, (k + 1) * 3, none⟩) = some A ∧ Hid (∀ t u, news[t]? = some u → w.drew.cell? (A.add t) = some u) := by
    by_cases h : cap = k + 1
    · refine ⟨⟨B, 0, none⟩, by simp [h], fun t u hu => ?_⟩
      have h0 : news.length = 0 := by rw [hdl]; omega
      rw [List.length_eq_zero_iff.1 h0] at hu
      simp at hu
    · refine ⟨⟨B, (k + 1) * 3, none⟩, by simp [h], fun t u hu => ?_⟩
      rw [add_lit3, cell_of_heap (w := w.drew) hh]
      refine hcur _ _ ?_
      rw [hnews, ← cd1, List.getElem?_drop] at hu
      exact hu
  have s1 : Hid (news.length = (n - (k + 1)) * 3) := hdl
  have s2 : Hid (∀ u ∈ news, u.oneCell' = true) := by rw [hnews]; exact cellsE_one _
  have s3 : Hid (∀ t, t < news.length → (w.drew.cell? ⟨B, 0 + k * 3 + t, none⟩).isSome = true ∧ w.drew.frozen? ⟨B, 0 + k * 3 + t, none⟩ = false) := by
    intro t ht'
    rw [hdl] at ht'
    rw [cell_of_heap (w := w.drew) hh, Nat.zero_add]
    exact ⟨by rw [Array.getElem?_eq_getElem (by omega)]; rfl, Lib.frozen_of_heap (w := w.drew) hh _⟩
  obtain ⟨W1, hW1⟩ : ∃ W1, W1 = w.drew.setCells B (0 + k * 3) news := ⟨_, rfl⟩
  obtain ⟨cur1, hcur1⟩ : ∃ cur1 : Array Value, cur1 = (cur.toList.take (k * 3) ++ news ++ cur.toList.drop (k * 3 + news.length)).toArray := ⟨_, rfl⟩
  have hW1r : W1 = w.drew.setRow B cur1 := by
    rw [hW1, hcur1, Nat.zero_add]
    exact setCells_row B news (k * 3) cur w.drew hh (by rw [hdl, hsz]; omega)
  have hsz1 : cur1.size = cap * 3 := by
    rw [hcur1]
    simp only [List.size_toArray, List.length_append, List.length_take, List.length_drop, hdl, Array.length_toList, hsz]
    omega
  have hW1h : W1.heap[B]? = some (.cells cur1 72 (0, 0)) := by
    rw [hW1r]
    exact setRow_heap w.drew B cur _ _ _ hh
  have hcl1 : ∀ ty c, (Builtin.clear_ #[82] ty #[.slice (some ⟨B, (n - 1) * 3, none⟩) 1 c]).run Try.prog W1 = .ok (.tuple #[]) (W1.setCells B ((n - 1) * 3) zeroE) := fun ty c =>
    run_clear_entry W1 ty B ((n - 1) * 3) c (fun j hj => by rw [cell_of_heap hW1h, Array.getElem?_eq_getElem (by omega)]; rfl) (fun j hj => Lib.frozen_of_heap hW1h _)
  obtain ⟨cur2, hcur2⟩ : ∃ cur2 : Array Value, cur2 = (cur1.toList.take ((n - 1) * 3) ++ zeroE ++ cur1.toList.drop ((n - 1) * 3 + zeroE.length)).toArray := ⟨_, rfl⟩
  have hW2 : W1.setCells B ((n - 1) * 3) zeroE = W1.setRow B cur2 := by
    rw [hcur2]
    exact setCells_row B zeroE ((n - 1) * 3) cur1 W1 hW1h (by simp [zeroE]; omega)
  have hsz2 : cur2.size = cap * 3 := by
    rw [hcur2]
    simp only [List.size_toArray, List.length_append, List.length_take, List.length_drop, Array.length_toList, hsz1, zeroE, List.length_cons, List.length_nil]
    omega
  have ht2 : cur2.toList.take ((n - 1) * 3) = cellsE (l.eraseIdx k) := by
    rw [eraseIdx_td l k (by omega), cellsE_append, hcur2, ← hnews]
    show (cur1.toList.take ((n - 1) * 3) ++ zeroE ++ cur1.toList.drop ((n - 1) * 3 + zeroE.length)).take ((n - 1) * 3) = _
    have t0 : (cur1.toList.take ((n - 1) * 3)).length = (n - 1) * 3 := by rw [List.length_take, Array.length_toList, hsz1, Nat.min_eq_left (by omega)]
    rw [List.append_assoc, List.take_append_of_le_length (by omega), List.take_take, Nat.min_self, hcur1]
    show (cur.toList.take (k * 3) ++ news ++ cur.toList.drop (k * 3 + news.length)).take ((n - 1) * 3) = _
    have t1 : cur.toList.take (k * 3) = cellsE (l.take k) := by
      rw [← ct, ← ht, List.take_take, Nat.min_eq_left (by omega)]
    rw [t1, List.take_append_of_le_length (by simp only [List.length_append, htl, hdl]; omega), List.take_of_length_le (by simp only [List.length_append, htl, hdl]; omega)]
  have hg1 : GrX (fun b => b = B) w W1 := by
    rw [hW1r]
    exact (GrX.drew (S := fun b => b = B) w).trans setRow_grX
  have HR : OwnE a0 (W1.setRow B cur2) (.slice (some ⟨B, 0, none⟩) (n - 1) cap) (l.eraseIdx k) := row_put hB (Nat.lt_of_lt_of_le hlt hg1.2.2.2.1) hc (by omega) (by rw [List.length_eraseIdx_of_lt (by omega), hln]) hsz2 ht2 hW1h
  have HG : GrX (fun b => b = B) w (W1.setRow B cur2) := hg1.trans setRow_grX
  have HX : GrX (fun b => (Value.slice (some ⟨B, 0, none⟩) n cap).ownBlock = some b) w (W1.setRow B cur2) := ⟨HG.1, HG.2.1, HG.2.2.1, HG.2.2.2.1, fun b hb hn => HG.2.2.2.2 b hb fun e1 => hn (by rw [e1]; rfl)⟩
  have HGa : Gr a0 (W1.setRow B cur2) := HG.gr hg fun b hb => by rw [hb]; exact hB
  have mixed : Try.prog.follows Departure.mixedOrders = true := by kernel_rfl
  have hW : Hid (W1 = w.drew.setCells B (0 + k * 3) news) := hW1
  have HR' := Lib.hid HR
  have HX' := Lib.hid HX
  have HGa' := Lib.hid HGa
  have hW2' := Lib.hid hW2
  have hne : ¬ ((k : Int) = (k : Int) + 1) := by omega
  have hkc : k ≤ cap := by omega
  have hkc1 : k + 1 ≤ cap := by omega
  have hk1 : ((k : Int) + 1).toNat = k + 1 := by omega
  have hk0 : (0 : Int) ≤ (k : Int) + 1 := by omega
  have hkn : (k : Int) + 1 ≤ (n : Int) := by omega
  have hkn' : k + 1 ≤ n := by omega
  have hnn : n ≤ cap := hnc
  have hn1 : k + (n - (k + 1)) = n - 1 := by omega
  have hn2 : n - (n - 1) = 1 := by omega
  have hn3 : ¬ (cap = n - 1) := by omega
  clear ht2 hsz2 hsz1 hcur1 hcur2 hcur h ht hg1 hW1 hW1r hW1h hh hcl ct cd ct1 cd1 hdl htl hnews HR HX HG HGa hW2
  go_enter Try.func65, Try.ntmps65
  go_wp2_with fail
  go_region_law_o (refine step_append_room rfl (.tmp 22) (.tmp 25) 82 rfl 72 i0 3 Try.underlying82 hi0 hzs B 0 k cap (by simp [Act.eval, Act.put]) A (n - (k + 1)) (cap - (k + 1)) news (by simp [Act.eval, Act.put]) s1.out hsrc.out s2.out (by omega) s3.out ?_; rw [← hW.out])
  go_wp2_with fail
  go_ret
  exact ⟨_, rfl, by rw [hW2'.out]; exact HR'.out, by rw [hW2'.out]; exact HGa'.out, by rw [hW2'.out]; exact HX'.out, rfl⟩
end Go.Proofs.Ytmjkalpjciddbaa

/-
  How many bytes an entry takes, and a node.
-/
namespace Go.Proofs.Ytmjkalpjciddbaa
open Go Go.RowKit Go.Lib

def nodeV (p : Nat) (leaf : Bool) (s : Value) : Value := .agg #[.int .i64 (p : Int), .bool leaf, s]
set_option maxHeartbeats 800000 in
theorem size_n (p : Nat) (leaf : Bool) (s : Value) (e : En) (h : e.ok leaf) (w : World) : Calls Try.prog 78 #[nodeV p leaf s, e.val] w (Ret w (.int .i64 (e.sz leaf : Nat))) := by
  have hk := h.key
  have hi := h.item
  obtain ⟨key, item, page⟩ := e
  simp only at hk hi
  unfold nodeV En.val En.sz
  obtain ⟨a, ha⟩ : ∃ a, key.size = a := ⟨_, rfl⟩
  obtain ⟨b, hb⟩ : ∃ b, item.size = b := ⟨_, rfl⟩
  have hg : Gr w ((w.alloc (.cells #[.int .i64 (p : Int), .bool leaf, s] 84)).alloc (.cells #[.string key, .string item, .int .i64 (page : Int)] 72)) := ((Gr.refl w).alloc _).alloc _
  simp only [ha, hb]
  cases leaf with
  | true =>
    go_enter Try.func78, Try.ntmps78
    go_wp2_with fail
    go_ret
    refine Ret.mk ?_ hg
    simp only [ha, hb]
    go_num
  | false =>
    go_enter Try.func78, Try.ntmps78
    go_wp2_with fail
    go_ret
    refine Ret.mk ?_ hg
    simp only [ha]
    go_num
theorem sumE_take_next (leaf : Bool) (l : List En) (i : Nat) (h : i < l.length) : sumE leaf (l.take (i + 1)) = sumE leaf (l.take i) + (l[i]).sz leaf := by
  rw [List.take_succ_eq_append_getElem h, sumE_append]
  simp [sumE]
theorem sumE_le (leaf : Bool) : ∀ l : List En, (∀ e ∈ l, e.ok leaf) → sumE leaf l ≤ 162 * l.length
  | [], _ => by simp [sumE]
  | e :: l, h => by
    have h1 := sumE_le leaf l fun x hx => h x (List.mem_cons_of_mem _ hx)
    have h2 := En.sz_le (h e List.mem_cons_self)
    rw [sumE_cons, List.length_cons]
    omega
set_option maxRecDepth 100000 in
set_option maxHeartbeats 1600000 in
theorem bytes_n (p : Nat) (leaf : Bool) (s : Value) (l : List En) (w : World) (h : IsE w s l) (hok : ∀ e ∈ l, e.ok leaf) (hl : l.length ≤ 10000) : Calls Try.prog 77 #[nodeV p leaf s] w (Ret w (.int .i64 (bytesE leaf l : Nat))) := by
  have H := Lib.hid h
  have HOK := Lib.hid hok
  obtain ⟨ao, ca, rfl⟩ := h.form
  unfold nodeV
  have hg0 : Gr w (w.alloc (.cells #[.int .i64 (p : Int), .bool leaf, .slice ao l.length ca] 84)) := (Gr.refl w).alloc _
  have c0 : ∀ w', Gr (w.alloc (.cells #[.int .i64 (p : Int), .bool leaf, .slice ao l.length ca] 84)) w' → w'.cell? ⟨w.heap.size, 0, none⟩ = some (.int .i64 (p : Int)) ∧ w'.cell? ⟨w.heap.size, 1, none⟩ = some (.bool leaf) ∧ w'.cell? ⟨w.heap.size, 2, none⟩ = some (.slice ao l.length ca) := fun w' g => ⟨g.keeps (by rw [World.cell?_alloc_new]; rfl), g.keeps (by rw [World.cell?_alloc_new]; rfl), g.keeps (by rw [World.cell?_alloc_new]; rfl)⟩
  have C0 := Lib.hid c0
  have HG0 := Lib.hid hg0
  clear h hok c0 hg0
  go_enter Try.func77, Try.ntmps77
  go_wp2_with fail
  obtain ⟨NB, hNB⟩ : ∃ NB, w.heap.size = NB := ⟨_, rfl⟩
  obtain ⟨W0, hW0⟩ : ∃ W0, w.alloc (.cells #[.int .i64 (p : Int), .bool leaf, .slice ao l.length ca] 84) = W0 := ⟨_, rfl⟩
  rw [hNB] at C0 ⊢
  rw [hW0] at C0 HG0 ⊢
  clear hNB hW0
  go_loopw [3, 9] (fun kv iv w' => ∃ i : Nat, i ≤ l.length ∧ iv = .int .i64 i ∧ kv = .int .i64 (bytesE leaf (l.take i) : Nat) ∧ Gr W0 w') (fun _ iv _ => l.length - (RowKit.intOf iv).toNat)
  case atStart => exact ⟨0, Nat.zero_le _, rfl, rfl, Gr.refl _⟩
  case round =>
    obtain ⟨i, hi, rfl, rfl, hg⟩ := hrel
    obtain ⟨n0, n1, n2⟩ := C0.out _ hg
    have HG := Lib.hid hg
    by_cases hlt : i < l.length
    · obtain ⟨b, off, rfl, hb, hp⟩ : ∃ b off, ao = some ⟨b, off, none⟩ ∧ b < w.heap.size ∧ EntsAt w b off l := by
        rcases H.out with ⟨_, e2⟩ | ⟨b, off, c, e, hb, hp⟩
        · rw [e2] at hlt
          exact absurd hlt (by simp)
        · cases e
          exact ⟨b, off, rfl, hb, hp⟩
      have hil : (i : Int) < (l.length : Int) := by omega
      obtain ⟨c1, c2, c3⟩ := (hp.gr (HG0.out.trans hg)) i hlt
      have hnx := sumE_take_next leaf l i hlt
      have hsz := En.sz_le (HOK.out l[i] (List.getElem_mem hlt))
      have hse := sumE_le leaf (l.take i) fun e he => HOK.out e (List.mem_of_mem_take he)
      have hln : (l.take i).length ≤ 10000 := by rw [List.length_take]; omega
      have hcs := size_n p leaf (.slice (some ⟨b, off, none⟩) l.length ca) l[i] (HOK.out l[i] (List.getElem_mem hlt))
      have hgb : Gr wr (wr.alloc (.cells #[.string l[i].key, .string l[i].item, .int .i64 (l[i].page : Int)] 72)) := (Gr.refl wr).alloc _
      have m0 := hgb.keeps n0
      have m1 := hgb.keeps n1
      have m2 := hgb.keeps n2
      have HGB := Lib.hid hgb
      unfold nodeV En.val at hcs
      obtain ⟨S, hS⟩ : ∃ S, bytesE leaf (l.take i) = S := ⟨_, rfl⟩
      have hS2 : bytesE leaf (l.take (i + 1)) = S + (l[i]).sz leaf := by
        rw [← hS]
        unfold bytesE
        omega
      have hSb : S ≤ 2000000 := by
        rw [← hS]
        unfold bytesE
        omega
      rw [hS]
      have HS2 := Lib.hid hS2
      generalize l[i].sz leaf = z at *
      generalize l[i].key = ky at *
      generalize l[i].item = it at *
      generalize (l[i].page : Int) = pgi at *
      clear hp hnx hse hln hS hS2 hg
      go_wp2_with fail
      refine (hcs _).mono ?_
      rintro e w3 ⟨rfl, hg3⟩
      have HG3 := Lib.hid ((HG.out.trans HGB.out).trans hg3)
      clear hg3 hcs
      go_wp2_with fail
      exact ⟨⟨i + 1, by omega, by go_num, by rw [HS2.out]; go_num, HG3.out⟩, by simp [RowKit.intOf]; omega⟩
    · have hii : i = l.length := by omega
      subst hii
      rw [List.take_length]
      clear hg n0 n1 n2
      go_wp2_with fail
      go_ret
      exact Ret.mk rfl (HG0.out.trans HG.out)
end Go.Proofs.Ytmjkalpjciddbaa
