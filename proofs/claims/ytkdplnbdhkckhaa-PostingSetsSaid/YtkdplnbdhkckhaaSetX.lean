/-
  The reference's sorted: sort.Slice, and each place once.
-/
import Derived.Test.YtkdplnbdhkckhaaSetT
import Derived.Test.YtkdplnbdhkckhaaSorL
import Derived.Shelf.GgSortFunc.Tiny
namespace Go.Proofs.Ytkdplnbdhkckhaa
open Go Go.RowKit Go.Shelf Go.Lib Go.Sort

theorem encS_is : encS = encP2 := rfl
theorem weakly_small (zs : List GPlace) (h : ¬ 2 ≤ zs.length) : Weakly beforeB zs := by
  match zs, h with
  | [], _ => exact List.Pairwise.nil
  | [x], _ => exact List.pairwise_singleton _ _
  | x :: y :: r, h => exact absurd h (by simp)
theorem gr_grow (w : World) (os : Array Obj) : Gr w (Sort.grow w os) := ⟨rfl, rfl, rfl, by unfold Sort.grow; rw [Array.size_append]; omega, fun _ hk => heap_grow_old w os hk⟩
set_option maxRecDepth 100000 in
/-- sort.Slice at places that are the call's own, in the variable in block LB. -/
theorem slice_own (a0 w : World) (LB : Nat) (v : Value) (zs : List GPlace) (h : OwnR a0 w v zs) (hg : Gr a0 w) (hb : w.cell? ⟨LB, 0, none⟩ = some v) (hLB : a0.heap.size ≤ LB) (hne : ∀ B n c, v = .slice (some ⟨B, 0, none⟩) n c → LB ≠ B) (hl : zs.length ≤ 1000000) :
    Calls Try.prog 49 #[.iface 22 v, .func (.func 50) #[] #[.pointer (some ⟨LB, 0, none⟩)]] w fun e w' =>
      e = .returned (.tuple #[]) ∧ ∃ ys : List GPlace, ys.Perm zs ∧ Weakly beforeB ys ∧ OwnR a0 w' v ys ∧ Gr a0 w' ∧ w'.cell? ⟨LB, 0, none⟩ = some v := by
  by_cases h2 : 2 ≤ zs.length
  · rcases h with ⟨rfl, rfl⟩ | ⟨B, cap, rfl, h3, h4, h5, h6⟩
    · exact absurd h2 (by simp)
    · have hP : PlR B LB zs.length cap w zs.toArray := ⟨by simp, row_holds h6, hb, hne B _ _ rfl, h5⟩
      refine (slice_pl B LB zs.length cap zs.toArray w h2 (by omega) hP).mono ?_
      rintro e w' ⟨rfl, d', hp, hx, ⟨hp1, _, hp2⟩, hs⟩
      have hsz' : d'.toList.length = zs.length := by rw [Array.length_toList, hp.sz]
      refine ⟨rfl, d'.toList, ?_, ?_, .inr ⟨B, cap, by rw [hsz'], by rw [hsz']; exact h3, h4, hp.lt, holds_row hp.holds⟩, hx.gr hg (fun k hk => by rw [hk]; exact h4), hp.box⟩
      · have e1 : (d'.extract 0 zs.length) = d' := by
          apply Array.ext'
          simp only [Array.toList_extract, List.drop_zero, Nat.sub_zero]
          exact List.take_of_length_le (Nat.le_of_eq hsz')
        have e2 : (zs.toArray.extract 0 zs.length) = zs.toArray := by
          apply Array.ext'
          simp
        rw [e1, e2] at hp2
        simpa using hp2
      · rw [Weakly, List.pairwise_iff_getElem]
        intro i j hi hj hij
        have hh := hs i j (Nat.zero_le _) hij (by omega)
        have hi' : i < d'.size := by rw [← Array.length_toList]; exact hi
        have hj' : j < d'.size := by rw [← Array.length_toList]; exact hj
        simpa [hi', hj'] using hh
  · obtain ⟨ao, c, rfl⟩ := h.form
    have hK : Lib.swapperK zs.length plE 25 = zs.length + 1 := by
      rcases Nat.eq_zero_or_pos zs.length with h | h
      · rw [h]; simp [Lib.swapperK]
      · have h1 : zs.length = 1 := by omega
        rw [h1]; simp [Lib.swapperK]
    have ht : Calls Try.prog 49 #[.iface 22 (.slice ao zs.length c), .func (.func 50) #[] #[.pointer (some ⟨LB, 0, none⟩)]] w fun e w' => e = .returned (.tuple #[]) ∧ ∃ os, w' = Sort.grow w os := by
      rcases Nat.eq_zero_or_pos zs.length with h | h
      · exact Any.sort_Slice_tiny Try.sliceS 22 39 plT plE (by kernel_rfl) (by kernel_rfl) (by kernel_rfl) (by kernel_rfl) 25 (fun _ => by kernel_rfl) ao zs.length c (by omega) 84 (by rw [hK, h]; kernel_rfl) _ _ _ w
      · have h1 : zs.length = 1 := by omega
        exact Any.sort_Slice_tiny Try.sliceS 22 39 plT plE (by kernel_rfl) (by kernel_rfl) (by kernel_rfl) (by kernel_rfl) 25 (fun _ => by kernel_rfl) ao zs.length c (by omega) 85 (by rw [hK, h1]; kernel_rfl) _ _ _ w
    refine ht.mono ?_
    rintro e w' ⟨rfl, os, rfl⟩
    have hgr := gr_grow w os
    refine ⟨rfl, zs, List.Perm.refl _, ?_, h.gr hgr, hg.trans hgr, hgr.keeps hb⟩
    exact weakly_small zs h2
/-- 'append(out, p)', p loaded from a variable. -/
theorem append_place {a0 w : World} {ops : Array Oper} {rest : List Oper} {o : Oper} {a : Act} {Q : Exit → Act → World → Prop} (hgd : o.guard = none) (s x : Operand)
    (ho : o.op = .call { callee := .builtin .append, args := #[s, x], argTypes := #[22, 22] }) (v : Value) (zs : List GPlace) (p : GPlace) (hs : a.eval s = v) (hown : OwnP a0 w v zs) (B : Nat) (hB : w.heap.size = B) (hx : a.eval x = .slice (some ⟨B, 0, none⟩) 1 1) (hl : zs.length ≤ 1000000) (hg : Gr a0 w)
    (h : ∀ v' w', OwnP a0 w' v' (zs ++ [p]) → Gr a0 w' → Moved v v' w w' → wpList Try.prog ops Q rest (a.put o.dst v') w') : wpList Try.prog ops Q (o :: rest) a (w.alloc (.cells #[.int .i64 p.1, .int .i64 p.2] 39)) := by
  obtain ⟨i0, hinf, hz⟩ : ∃ i0, Try.prog.info? 39 = some i0 ∧ (i0.zero, i0.size, i0.bytes) = (some (.agg #[.int .i64 0, .int .i64 0]), 2, 16) := by
    have h := info_place
    cases h0 : Try.prog.info? 39 with
    | none => rw [h0] at h; cases h
    | some i0 => rw [h0] at h; exact ⟨i0, rfl, Option.some.inj h⟩
  simp only [Prod.mk.injEq] at hz
  obtain ⟨hz0, hz1, hz2⟩ := hz
  exact append_moved' (a0 := a0) hgd s x 22 ho 39 i0 (.agg #[.int .i64 0, .int .i64 0]) 2 16 Try.underlying22 hinf hz0 hz1 hz2 rfl (by decide) v zs.length (cellsP zs) hs hown [.int .i64 p.1, .int .i64 p.2] rfl (placeCells_one _ _) B hB hx hg (by omega) (by omega) (fun v' w' h1 h2 h3 => h v' w' (ownP_snoc h1) h2 h3)
end Go.Proofs.Ytkdplnbdhkckhaa
