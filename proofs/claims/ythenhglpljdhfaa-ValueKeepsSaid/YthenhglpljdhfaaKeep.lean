/-
  Contracts of the small functions of the law ValueKeeps: short, number, text, sameValues; and a list of the call's own as a list in memory.
-/
import Derived.Test.YthenhglpljdhfaaRead
namespace Go.Proofs.Ythenhglpljdhfaa
open Go Go.RowKit

set_option maxHeartbeats 400000 in
theorem short_k (xs : List GVal) (b off c : Nat) (ao : Option Addr) (hao : 0 < xs.length → ao = some ⟨b, off, none⟩) (hl : xs.length ≤ 9223372036854775807) (w : World) (hc : ValsAt w b off xs) :
    Calls Try.prog 14 #[.slice ao xs.length c] w (Ret w (.bool (shortB xs))) := by
  have HC := Lib.hid hc
  have HA := Lib.hid hao
  clear hc hao
  go_enter Try.func14, Try.ntmps14
  go_wp2
  · go_ret
    exact Ret.mk (by simp [shortB]; omega) (Gr.refl _)
  · have h30 : xs.length ≤ 30 := by omega
    go_loop [3] (fun i => ∃ j : Nat, j ≤ xs.length ∧ i = .int .i64 j ∧ (xs.take j).all (fun v => decide (v.text.size ≤ 100)) = true) (fun i => xs.length - (intOf i).toNat)
    case atStart => exact ⟨0, Nat.zero_le _, rfl, rfl⟩
    case round =>
      obtain ⟨j, hj, rfl, hall⟩ := hrel
      have H := Lib.hid hall
      clear hall
      by_cases hlt : j < xs.length
      · obtain rfl := HA.out (by omega)
        have h3 := (HC.out j hlt).2.2
        go_wp2
        case roundEnd =>
          refine ⟨⟨j + 1, by omega, by go_num, ?_⟩, by simp [intOf]; omega⟩
          rw [all_take_s _ _ j hlt, H.out]
          simp
          omega
        go_ret
        exact Ret.mk (by rw [shortB_hit xs j hlt (by assumption)]; rfl) (Gr.refl _)
      · go_wp2
        go_ret
        exact Ret.mk (by rw [shortB_all xs j hj hlt h30 H.out]; rfl) (Gr.refl _)


theorem run_append_none_c {P : Program} {w : World} (base : Nat) (t ty e : TypeId) (i : TypeInfo) (size c : Nat) (ht : P.underlying t = some (.slice e)) (hi : P.info? e = some i)
    (v : Value) (n : Nat) (xs : List Value) (hown : w.ownsRow base e size v n xs) :
    (Builtin.append_ #[t, t] ty #[v, .slice none 0 c]).run P w = .ok v w := by
  rcases hown.2 with ⟨rfl, rfl⟩ | ⟨g, cap, cur, rfl, _, _, hnc, _⟩
  · simp [Builtin.append_, run_underlying ht, sizeOf, typeInfo, hi, Builtin.lenOf, Builtin.firstCells]
  · simp [Builtin.append_, run_underlying ht, sizeOf, typeInfo, hi, Builtin.lenOf, Builtin.firstCells, hnc, storeCells]

/-- 'append(s, l...)', s of the call's own, l anywhere in memory; the operation may stand behind a guard that lets it run. -/
theorem append_src {P : Program} {a0 w : World} {ops : Array Oper} {rest : List Oper} {o : Oper} {a : Act} {Q : Exit → Act → World → Prop} (hw : Region.wanted o (yielded ops a.tmps) = true) (s x : Operand) (t : TypeId)
    (ho : o.op = .call { callee := .builtin .append, args := #[s, x], argTypes := #[t, t] }) (e : TypeId) (i : TypeInfo) (z : Value) (size bytes : Nat) (ht : P.underlying t = some (.slice e)) (hi : P.info? e = some i)
    (hz : i.zero = some z) (hsize : i.size = size) (hby : i.bytes = bytes) (hzs : z.cells.size = size) (hsz : 0 < size) (v : Value) (n : Nat) (xs : List Value) (hs : a.eval s = v) (hown : w.ownsRow a0.heap.size e size v n xs)
    (ao : Option Addr) (b off m c : Nat) (news : List Value) (hx : a.eval x = .slice ao m c) (hao : 0 < m → ao = some ⟨b, off, none⟩) (hl : news.length = m * size) (hnews : ∀ j u, news[j]? = some u → w.cell? ⟨b, off + j, none⟩ = some u)
    (h1 : ∀ u ∈ news, u.oneCell' = true) (hg : Gr a0 w) (h63 : n + m ≤ 4611686018427387904) (hbytes : (n + m) * bytes ≤ 140737488355328)
    (h : ∀ v' w', w'.ownsRow a0.heap.size e size v' (n + m) (xs ++ news) → Gr a0 w' → wpList P ops Q rest (a.put o.dst v') w') : wpList P ops Q (o :: rest) a w := by
  refine wpList_step fun K hK => ?_
  rw [if_pos hw]
  have he : ∀ j, (⟨b, off, none⟩ : Addr).add j = ⟨b, off + j, none⟩ := by
    intro j; unfold Addr.add; split <;> simp_all
  cases ao with
  | none =>
    have hm : m = 0 := by
      rcases Nat.eq_zero_or_pos m with h | h
      · exact h
      · cases hao h
    subst hm
    have hn : news = [] := List.eq_nil_of_length_eq_zero (by omega)
    subst hn
    have hrun := run_append_none_c (P := P) (w := w) a0.heap.size t o.type e i size c ht hi v n xs hown
    unfold Oper.wp
    simp [execOp, ho, resolve, invoke, builtin, hs, hx, hrun, Result.andThen]
    exact hK _ _ (h v w (by simpa using hown) hg)
  | some ad =>
    refine wp_append_own (P := P) w s x t ho a0.heap.size e i z size bytes ht hi hz hsize hby hzs hsz v n xs hs hown ad m c news hx hl ?_ h1 (by unfold maxLen; omega) hbytes hg.size
      (fun v' w' h1 h2 _ => hK _ _ (h v' w' h1 (gr_grown hg h2 (ownBlock_ge hown))))
    intro j u hj
    have hm : 0 < m := by
      rcases Nat.eq_zero_or_pos m with h | h
      · subst h
        have hn : news = [] := List.eq_nil_of_length_eq_zero (by omega)
        subst hn; simp at hj
      · exact h
    obtain rfl : ad = ⟨b, off, none⟩ := Option.some.inj (hao hm)
    rw [he]
    exact hnews j u hj

def cellsL (xs : List GVal) : List Value := xs.flatMap fun x => [.int .i64 x.kind, .int .i64 x.num, .string x.text]
theorem cellsL_len (xs : List GVal) : (cellsL xs).length = xs.length * 3 := by
  induction xs with
  | nil => rfl
  | cons x xs ih => show (_ :: _ :: _ :: cellsL xs).length = _; simp [ih]; omega
theorem cellsL_one (xs : List GVal) : ∀ u ∈ cellsL xs, u.oneCell' = true := by
  intro u hu
  obtain ⟨x, _, hx⟩ := List.mem_flatMap.1 hu
  exact valCells_one _ _ _ u hx
theorem fm_get : ∀ (xs : List GVal) (i : Nat) (h : i < xs.length), (xs.flatMap fun x => [Value.int .i64 x.kind, .int .i64 x.num, .string x.text])[i * 3]? = some (.int .i64 xs[i].kind) ∧ (xs.flatMap fun x => [Value.int .i64 x.kind, .int .i64 x.num, .string x.text])[i * 3 + 1]? = some (.int .i64 xs[i].num) ∧ (xs.flatMap fun x => [Value.int .i64 x.kind, .int .i64 x.num, .string x.text])[i * 3 + 2]? = some (.string xs[i].text)
  | [], i, h => by simp at h
  | x :: xs, 0, _ => by simp
  | x :: xs, i + 1, h => by
    have := fm_get xs i (by simpa using h)
    have e : (i + 1) * 3 = i * 3 + 3 := by omega
    rw [e, List.flatMap_cons]
    simpa using this

theorem ValsAt.cells {w : World} {b off : Nat} : ∀ {xs : List GVal}, ValsAt w b off xs → ∀ j u, (cellsL xs)[j]? = some u → w.cell? ⟨b, off + j, none⟩ = some u := by
  intro xs h j u hj
  have hlt : j < xs.length * 3 := by rw [← cellsL_len]; exact (List.getElem?_eq_some_iff.1 hj).1
  have hi : j / 3 < xs.length := by omega
  have hg := fm_get xs (j / 3) hi
  have hc := h (j / 3) hi
  rcases (show j = j / 3 * 3 ∨ j = j / 3 * 3 + 1 ∨ j = j / 3 * 3 + 2 by omega) with e | e | e
  · rw [e] at hj ⊢
    have := hg.1.symm.trans hj
    rw [← Option.some.inj this]; exact hc.1
  · rw [e] at hj ⊢
    have := hg.2.1.symm.trans hj
    rw [← Option.some.inj this]; exact hc.2.1
  · rw [e] at hj ⊢
    have := hg.2.2.symm.trans hj
    rw [← Option.some.inj this]; exact hc.2.2

/-- A list of the call's own lies in memory. -/
theorem OwnV.vals {a0 w : World} {v : Value} {xs : List GVal} (h : OwnV a0 w v xs) : ∃ ao b c, v = .slice ao xs.length c ∧ (0 < xs.length → ao = some ⟨b, 0, none⟩) ∧ ValsAt w b 0 xs := by
  have hc := fun g hg => World.ownsRow.cells (g := g) h.row hg
  rcases h.row.2 with ⟨rfl, h0⟩ | ⟨g, cap, cur, rfl, _⟩
  · have h0' : xs.length = 0 := h0
    exact ⟨none, 0, 0, by rw [h0'], fun h => by omega, fun i hi => by omega⟩
  · refine ⟨_, g, cap, rfl, fun _ => rfl, fun i hi => ?_⟩
    have hg := fm_get xs i hi
    have c1 := hc g rfl _ _ hg.1
    have c2 := hc g rfl _ _ hg.2.1
    have c3 := hc g rfl _ _ hg.2.2
    have e : ∀ j, (⟨g, 0, none⟩ : Addr).add j = ⟨g, 0 + j, none⟩ := by
      intro j; unfold Addr.add; split <;> simp_all
    rw [e] at c1 c2 c3
    refine ⟨c1, ?_, ?_⟩
    · rw [Nat.add_assoc]; exact c2
    · rw [Nat.add_assoc]; exact c3

theorem number_t (n : Int) (w : World) : Calls Try.prog 39 #[.int .i64 n] w (Ret w (.agg #[.int .i64 1, .int .i64 n, .string ⟨#[]⟩])) := by
  go_enter Try.func39, Try.ntmps39
  go_wp2
  refine bodyPost_ret (v := .agg #[.int .i64 1, .int .i64 n, .string ⟨#[]⟩]) (by simp [results, Try.results39, go_sem]) rfl ?_
  exact Ret.mk rfl ((Gr.refl _).alloc _)
theorem text_t (s : ByteArray) (w : World) : Calls Try.prog 40 #[.string s] w (Ret w (.agg #[.int .i64 2, .int .i64 0, .string s])) := by
  go_enter Try.func40, Try.ntmps40
  go_wp2
  refine bodyPost_ret (v := .agg #[.int .i64 2, .int .i64 0, .string s]) (by simp [results, Try.results40, go_sem]) rfl ?_
  exact Ret.mk rfl ((Gr.refl _).alloc _)

set_option maxHeartbeats 800000 in
theorem same_t (xs : List GVal) (b off c : Nat) (ao : Option Addr) (hao : 0 < xs.length → ao = some ⟨b, off, none⟩) (hl : xs.length ≤ 9223372036854775807)
    (b' off' c' : Nat) (ao' : Option Addr) (hao' : 0 < xs.length → ao' = some ⟨b', off', none⟩) (w : World) (hc : ValsAt w b off xs) (hc' : ValsAt w b' off' xs) :
    Calls Try.prog 18 #[.slice ao xs.length c, .slice ao' xs.length c'] w (Ret w (.bool true)) := by
  have HC := Lib.hid hc
  have HA := Lib.hid hao
  have HC' := Lib.hid hc'
  have HA' := Lib.hid hao'
  clear hc hao hc' hao'
  go_enter Try.func18, Try.ntmps18
  go_wp2_with fail
  go_loopw [5] (fun i w' => ∃ j : Nat, j ≤ xs.length ∧ i = .int .i64 j ∧ Gr w w') (fun i _ => xs.length - (intOf i).toNat)
  case atStart => exact ⟨0, Nat.zero_le _, rfl, Gr.refl _⟩
  case round =>
    obtain ⟨j, hj, rfl, hg⟩ := hrel
    by_cases h1 : j < xs.length
    · obtain rfl := HA.out (by omega)
      obtain rfl := HA'.out (by omega)
      have hv := HC.out.gr hg j h1
      have hv' := HC'.out.gr hg j h1
      have f1 := fun d os => cell_regrown hv.1 d os
      have f2 := fun d os => cell_regrown hv.2.1 d os
      have f3 := fun d os => cell_regrown hv.2.2 d os
      have f1' := fun d os => cell_regrown hv'.1 d os
      have f2' := fun d os => cell_regrown hv'.2.1 d os
      have f3' := fun d os => cell_regrown hv'.2.2 d os
      clear hv hv'
      go_wp2_with fail
      refine wp_region_quiet_below (by kernel_rfl) (by kernel_rfl) ?_
      repeat (go_big_quiet_step (fail))
      refine wpQuiet_nil ?_
      intro w3 hw3
      have hg3 := hg.trans (gr_regrown hw3)
      clear hw3 f1 f2 f3 f1' f2' f3' hg
      go_wp2_with fail
      exact ⟨⟨j + 1, by omega, by go_num, hg3⟩, by simp [intOf]; omega⟩
    · go_wp2_with fail
      go_ret
      exact Ret.mk rfl hg
end Go.Proofs.Ythenhglpljdhfaa
