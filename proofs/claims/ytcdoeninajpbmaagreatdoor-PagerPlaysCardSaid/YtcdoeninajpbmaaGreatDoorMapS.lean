/-
  A map from numbers to texts that the call has made, as a plain function.
-/
import Derived.Test.YtcdoeninajpbmaaGreatDoorLib
import Derived.Test.YtcdoeninajpbmaaGreatDoorDisk
import Derived.Maps.Own
import Derived.Maps.OwnSet
import Derived.Maps.StringElems
namespace Go.Proofs.YtcdoeninajpbmaaGreatDoor
open Go Go.RowKit Go.Maps

/-- Block M is a map of at most n entries that holds F. -/
def MapAt (w : World) (M n : Nat) (F : Int → Option ByteArray) : Prop :=
  ∃ D : DataW Unit, w.ownsMap Tryz.prog 3 (plainElem Tryz.prog 9) M n D ∧
    ∀ k : Int, (Lit.int .i64 k).wf = true → Maps.has D (.int .i64 k) = (F k).isSome ∧ ∀ z, D.atKey (.int .i64 k) z = match F k with | none => z | some s => .lit (.string s.data.toList)
theorem keyI : Keyed Tryz.prog 3 := int_keyed Tryz.underlying3
theorem MapAt.kept {w w' : World} {M n : Nat} {F : Int → Option ByteArray} {row : Option Nat} (h : MapAt w M n F) (g : w.grownBy w' row) (hne : some M ≠ row) : MapAt w' M n F := by
  obtain ⟨D, h1, h2⟩ := h
  exact ⟨D, h1.kept g hne, h2⟩
theorem MapAt.gr {w w' : World} {M n : Nat} {F : Int → Option ByteArray} (h : MapAt w M n F) (g : Gr w w') : MapAt w' M n F := h.kept (grown_of_gr g none) (by simp)
theorem MapAt.made (w : World) : MapAt (w.alloc (.map #[] 0)) w.heap.size 0 (fun _ => none) :=
  ⟨.map [], World.ownsMap_made w _ _ _, fun _ _ => ⟨rfl, fun _ => rfl⟩⟩
theorem wfI {k : Int} (h : -9223372036854775808 ≤ k ∧ k ≤ 9223372036854775807) : (Lit.int .i64 k).wf = true := by
  simp [Lit.wf, IntKind.min, IntKind.max, IntKind.bits, IntKind.signed]
  omega
theorem zeroS (w : World) : (zeroValue 9).run Tryz.prog w = .ok (.string ⟨#[]⟩) w := by kernel_rfl
/-- 's, ok := m[k]'. -/
theorem MapAt.look {w : World} {M n : Nat} {F : Int → Option ByteArray} (h : MapAt w M n F) {k : Int} (hk : -9223372036854775808 ≤ k ∧ k ≤ 9223372036854775807) :
    (Instr.lookup 34 (.map (some M)) (.int .i64 k) true).run Tryz.prog w = .ok (.tuple #[.string ((F k).getD ⟨#[]⟩), .bool (F k).isSome]) w := by
  obtain ⟨D, h1, h2⟩ := h
  obtain ⟨e1, e2⟩ := h2 k (wfI hk)
  obtain ⟨v, ps, hrun, hv⟩ := h1.look_ok (t := 34) (e := 9) keyI Tryz.underlying34 (zeroS w) (plainElem_string Tryz.underlying9 (by decide)) (keyOf_int_mk Tryz.underlying3 (wfI hk))
  rw [hrun, e1]
  rw [e2] at hv
  obtain ⟨s, rfl, hz, _⟩ := plainElem_string_inv Tryz.underlying9 hv
  have : s = (F k).getD ⟨#[]⟩ := by
    apply data_ext
    cases hF : F k with
    | none =>
      rw [hF] at hz
      simp only [Prod.mk.injEq, DataW.lit.injEq, Lit.string.injEq] at hz
      exact hz.1.symm
    | some u =>
      rw [hF] at hz
      simp only [Prod.mk.injEq, DataW.lit.injEq, Lit.string.injEq] at hz
      exact hz.1.symm
  rw [this]
/-- 'm[k] = s'. -/
theorem MapAt.store {w : World} {M n : Nat} {F : Int → Option ByteArray} (h : MapAt w M n F) (hn : n < 1000000) {k : Int} (hk : -9223372036854775808 ≤ k ∧ k ≤ 9223372036854775807) (s : ByteArray) (hs : s.size ≤ 9223372036854775807) :
    ∃ w', (Instr.mapUpdate 34 (.map (some M)) (.int .i64 k) (.string s)).run Tryz.prog w = .ok () w' ∧ MapAt w' M (n + 1) (fun i => if i = k then some s else F i) ∧ w.grownBy w' (some M) := by
  obtain ⟨D, h1, h2⟩ := h
  obtain ⟨w', hrun, ho, hg⟩ := h1.update (t := 34) (e := 9) keyI Tryz.underlying34 (by unfold maxLen; omega) (keyOf_int_mk Tryz.underlying3 (wfI hk)) (plainElem_string Tryz.underlying9 (s := s) (by unfold maxLen; exact hs))
  refine ⟨w', hrun, ⟨_, ho, fun i hi => ?_⟩, hg⟩
  have hmap := h1.isMap
  by_cases e : i = k
  · subst e
    simp only [if_true]
    exact ⟨Maps.has_put_same hmap (show WideAt.IsKeyLit (.int .i64 i) from trivial) _, fun z => Maps.atKey_put_same hmap (show WideAt.IsKeyLit (.int .i64 i) from trivial) _ z⟩
  · have hne : (Lit.int .i64 i) ≠ (Lit.int .i64 k) := by
      intro h
      injection h with _ h
      exact e h
    simp only [if_neg e]
    rw [Maps.has_put_other hne]
    exact ⟨(h2 i hi).1, fun z => by rw [Maps.atKey_put_other hne]; exact (h2 i hi).2 z⟩
end Go.Proofs.YtcdoeninajpbmaaGreatDoor
