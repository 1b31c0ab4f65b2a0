/-
  A map from numbers to texts: taking out, looking up, its size.
-/
import Derived.Test.YtcdoeninajpbmaaGreatDoorGrX
import Derived.Maps.OwnOps
namespace Go.Proofs.YtcdoeninajpbmaaGreatDoor
open Go Go.RowKit Go.Maps

theorem mapTurned_gr {w w' : World} {M : Nat} (h : w.mapTurned w' M) : w.grownBy w' (some M) := h.grown
/-- 'delete(m, k)'. -/
theorem MapAt.drop {w : World} {M n : Nat} {F : Int → Option ByteArray} (h : MapAt w M n F) {k : Int} (hk : -9223372036854775808 ≤ k ∧ k ≤ 9223372036854775807) (ty : TypeId) :
    ∃ w', (Builtin.delete_ #[34, 3] ty #[.map (some M), .int .i64 k]).run Tryz.prog w = .ok (.tuple #[]) w' ∧ MapAt w' M n (fun i => if i = k then none else F i) ∧ w.grownBy w' (some M) := by
  obtain ⟨D, h1, h2⟩ := h
  obtain ⟨w', hrun, ho, hg⟩ := h1.drop (t := 34) (e := 9) keyI Tryz.underlying34 (keyOf_int_mk Tryz.underlying3 (wfI hk)) ty
  refine ⟨w', hrun, ⟨_, ho, fun i hi => ?_⟩, hg.grown⟩
  by_cases e : i = k
  · subst e
    simp only [if_true]
    exact ⟨Maps.has_del_same, fun z => Maps.atKey_del_same z⟩
  · have hne : (Lit.int .i64 i) ≠ (Lit.int .i64 k) := by
      intro h
      injection h with _ h
      exact e h
    simp only [if_neg e]
    rw [Maps.has_del_other hne]
    exact ⟨(h2 i hi).1, fun z => by rw [Maps.atKey_del_other hne]; exact (h2 i hi).2 z⟩
/-- A map's function, changed at a key. -/
def setF (F : Int → Option ByteArray) (k : Int) (s : Option ByteArray) : Int → Option ByteArray := fun i => if i = k then s else F i
theorem MapAt.storeF {w : World} {M n : Nat} {F : Int → Option ByteArray} (h : MapAt w M n F) (hn : n < 1000000) {k : Int} (hk : -9223372036854775808 ≤ k ∧ k ≤ 9223372036854775807) (s : ByteArray) (hs : s.size ≤ 9223372036854775807) :
    ∃ w', (Instr.mapUpdate 34 (.map (some M)) (.int .i64 k) (.string s)).run Tryz.prog w = .ok () w' ∧ MapAt w' M (n + 1) (setF F k (some s)) ∧ w.grownBy w' (some M) := h.store hn hk s hs
theorem wpList_del {ops : Array Oper} {rest : List Oper} {o : Oper} {a : Act} {Q : Exit → Act → World → Prop} {w : World} (hg : o.guard = none) (m x : Operand) (hop : o.op = Op.call { callee := Callee.builtin Builtin.delete, args := #[m, x], argTypes := #[34, 3] })
    {M n : Nat} {F : Int → Option ByteArray} (h : MapAt w M n F) (hm : a.eval m = .map (some M)) {k : Int} (hx : a.eval x = .int .i64 k) (hk : -9223372036854775808 ≤ k ∧ k ≤ 9223372036854775807)
    (hK : ∀ w', MapAt w' M n (setF F k none) → w.grownBy w' (some M) → wpList Tryz.prog ops Q rest (a.put o.dst (.tuple #[])) w') : wpList Tryz.prog ops Q (o :: rest) a w := by
  refine wpList_plain hg fun K' hK' => ?_
  obtain ⟨w', hrun, r1, r2⟩ := h.drop hk o.type
  unfold Oper.wp
  simp [execOp, hop, resolve, invoke, builtin, hm, hx, hrun, Result.andThen]
  exact hK' _ _ (hK w' r1 r2)
/-- 's := m[k]'. -/
theorem MapAt.look1 {w : World} {M n : Nat} {F : Int → Option ByteArray} (h : MapAt w M n F) {k : Int} (hk : -9223372036854775808 ≤ k ∧ k ≤ 9223372036854775807) :
    (Instr.lookup 34 (.map (some M)) (.int .i64 k) false).run Tryz.prog w = .ok (.string ((F k).getD ⟨#[]⟩)) w := by
  obtain ⟨D, h1, h2⟩ := h
  obtain ⟨e1, e2⟩ := h2 k (wfI hk)
  obtain ⟨v, ps, hrun, hv⟩ := h1.lookup (t := 34) (e := 9) keyI Tryz.underlying34 (zeroS w) (plainElem_string Tryz.underlying9 (by decide)) (keyOf_int_mk Tryz.underlying3 (wfI hk))
  rw [hrun]
  rw [e2] at hv
  obtain ⟨s, rfl, hz, _⟩ := plainElem_string_inv Tryz.underlying9 hv
  have : s = (F k).getD ⟨#[]⟩ := by
    apply data_ext
    cases hF : F k with
    | none =>
      rw [hF] at hz
      simp only [Prod.mk.injEq, DataW.lit.injEq, Lit.string.injEq] at hz
      exact hz.1.symm
    | some u =>
      rw [hF] at hz
      simp only [Prod.mk.injEq, DataW.lit.injEq, Lit.string.injEq] at hz
      exact hz.1.symm
  rw [this]
end Go.Proofs.YtcdoeninajpbmaaGreatDoor
