/-
  errors.As at the target '*api.Errno', for an error that is an Errno, and one that is an *At; after the worked proof 'toyas'. api.Tell by these.
-/
import Derived.Test.YtcdoeninajpbmaaGreatDoorErrAs
import Derived.RowKit
import Derived.LaidEql
import Derived.Stop.Asserts
import Derived.RowKitTokens
namespace Go.Proofs.YtcdoeninajpbmaaGreatDoor
open Go Go.RowKit Go.Extern.Stop Go.Stop Go.Extern

theorem lt_of_frozen {w : World} {t : Addr} {old : Value} (ht0 : w.cell? t = some old) : t.block < w.heap.size := by
  rcases Nat.lt_or_ge t.block w.heap.size with h | h
  · exact h
  · simp [World.cell?, Array.getElem?_eq_none h] at ht0

def AsPost (n : Int) (b : Nat) (w : World) (e : Ending) (w' : World) : Prop :=
  e = .returned (.bool true) ∧ w'.cell? ⟨b, 0, none⟩ = some (.int .i64 n) ∧ ∀ a0 : World, Gr a0 w → a0.heap.size ≤ b → Gr a0 w'
theorem AsPost.mk {n : Int} {b : Nat} {w w' : World} (h : w'.cell? ⟨b, 0, none⟩ = some (.int .i64 n)) (g : ∀ a0 : World, Gr a0 w → a0.heap.size ≤ b → Gr a0 w') : AsPost n b w (.returned (.bool true)) w' := ⟨rfl, h, g⟩
set_option maxRecDepth 8000 in
set_option maxHeartbeats 4000000 in
/-- errors.As(err, target), err an Errno: true; the target has it. -/
theorem as_errno (n : Int) (b : Nat) (old : Value) (w : World) (hg : ErrTypeAt w) (ht0 : w.cell? ⟨b, 0, none⟩ = some old) (hf0 : w.frozen? ⟨b, 0, none⟩ = false) :
    Calls Tryz.prog 63 #[.iface 33 (.int .i64 n), .iface 125 (.pointer (some ⟨b, 0, none⟩))] w (AsPost n b w) := by
  have h87 := @run_callFunc_extern Tryz.prog 77 _ (fun args => ReflectliteValue.unpack (args.getD 0 (.tuple #[]))) Tryz.func77 (by kernel_rfl) (by kernel_rfl) (by kernel_rfl) (by kernel_rfl)
  have h88 := @run_callFunc_extern Tryz.prog 78 _ (ReflectliteValue.methodAny (ReflectliteValue.valueError "reflectlite.Value.Type" 0) (fun t _ _ _ => ReflectliteType.toType t)) Tryz.func78 (by kernel_rfl) (by kernel_rfl) (by kernel_rfl) (by kernel_rfl)
  have h89 := @run_callFunc_extern Tryz.prog 79 _ (ReflectliteValue.method (ReflectliteValue.valueError "reflectlite.Value.IsNil" 0) ReflectliteValue.isNil) Tryz.func79 (by kernel_rfl) (by kernel_rfl) (by kernel_rfl) (by kernel_rfl)
  have h155 := @run_callFunc_extern Tryz.prog 105 _ (ReflectliteType.abiMethod fun t => do pure (.int .u8 (← Rtype.kind t))) Tryz.func105 (by kernel_rfl) (by kernel_rfl) (by kernel_rfl) (by kernel_rfl)
  have h168 := @run_callFunc_extern Tryz.prog 118 _ (ReflectliteType.method ReflectliteType.elem) Tryz.func118 (by kernel_rfl) (by kernel_rfl) (by kernel_rfl) (by kernel_rfl)
  have h169 := @run_callFunc_extern Tryz.prog 119 _ (ReflectliteType.relation "Implements" ReflectliteType.implements_) Tryz.func119 (by kernel_rfl) (by kernel_rfl) (by kernel_rfl) (by kernel_rfl)
  have h105 := @run_callFunc_extern Tryz.prog 87 _ ReflectliteType.typeOf Tryz.func87 (by kernel_rfl) (by kernel_rfl) (by kernel_rfl) (by kernel_rfl)
  have h166 := @run_callFunc_extern Tryz.prog 116 _ (ReflectliteType.relation "AssignableTo" ReflectliteType.assignableTo) Tryz.func116 (by kernel_rfl) (by kernel_rfl) (by kernel_rfl) (by kernel_rfl)
  have h106 := @run_callFunc_extern Tryz.prog 88 _ (ReflectliteValue.method (ReflectliteValue.valueError "reflectlite.Value.Elem" 0) ReflectliteValue.elem) Tryz.func88 (by kernel_rfl) (by kernel_rfl) (by kernel_rfl) (by kernel_rfl)
  have h107 := @run_callFunc_extern Tryz.prog 89 _ ReflectliteValue.set Tryz.func89 (by kernel_rfl) (by kernel_rfl) (by kernel_rfl) (by kernel_rfl)
  have f1 := ea_typeOfE
  have f2 := ea_mAssign
  have f3 := ea_assignE
  have f4 := ea_valueOfE
  have f5 := ea_valueOf
  have f6 := ea_type
  have f7 := ea_mKind
  have f8 := ea_mElem
  have f9 := ea_mImpl
  have f10 := ea_kindP
  have f11 := ea_kindE
  have f12 := ea_elem
  have f13 := ea_impl
  have hlt : 0 < w.heap.size := lt_of_cell hg
  have htl : b < w.heap.size := lt_of_cell ht0
  have n8 := ea_isNil ⟨w.heap.size, 0, none⟩ ⟨b, 0, none⟩ ((w.alloc (.cells #[.pointer (some ⟨b, 0, none⟩)] 125)).alloc (.cells #[.pointer (some ⟨2, 125, none⟩), .pointer (some ⟨w.heap.size, 0, none⟩), .int .u64 150] 142)) (by simp)
  have hg2 : ((w.alloc (.cells #[.pointer (some ⟨b, 0, none⟩)] 125)).alloc (.cells #[.pointer (some ⟨2, 125, none⟩), .pointer (some ⟨w.heap.size, 0, none⟩), .int .u64 150] 142)).cell? ⟨0, 0, none⟩ = some (.iface 158 (.agg #[.pointer (some ⟨2, 29, none⟩)])) := by
    rw [World.cell?_alloc_lt _ _ ⟨0, 0, none⟩ (by simp <;> omega), World.cell?_alloc_lt _ _ ⟨0, 0, none⟩ hlt]; exact hg
  have el := ea_elemV ⟨w.heap.size, 0, none⟩ ⟨b, 0, none⟩ (((w.alloc (.cells #[.pointer (some ⟨b, 0, none⟩)] 125)).alloc (.cells #[.pointer (some ⟨2, 125, none⟩), .pointer (some ⟨w.heap.size, 0, none⟩), .int .u64 150] 142)).alloc (.cells #[.pointer (some ⟨2, 125, none⟩), .pointer (some ⟨w.heap.size, 0, none⟩), .int .u64 150] 142)) (by rw [World.cell?_alloc_lt _ _ ⟨w.heap.size, 0, none⟩ (by simp; omega)]; simp)
  have st := ea_set ⟨b, 0, none⟩ ⟨w.heap.size + 1 + 1 + 1, 0, none⟩ n old ((((w.alloc (.cells #[.pointer (some ⟨b, 0, none⟩)] 125)).alloc (.cells #[.pointer (some ⟨2, 125, none⟩), .pointer (some ⟨w.heap.size, 0, none⟩), .int .u64 150] 142)).alloc (.cells #[.pointer (some ⟨2, 125, none⟩), .pointer (some ⟨w.heap.size, 0, none⟩), .int .u64 150] 142)).alloc (.cells #[.int .i64 n] 33))
    (by rw [World.cell?_alloc_at _ _ _ _ (by simp)]; rfl)
    (by rw [World.cell?_alloc_lt _ _ ⟨b, 0, none⟩ (by simp; omega), World.cell?_alloc_lt _ _ ⟨b, 0, none⟩ (by simp; omega), World.cell?_alloc_lt _ _ ⟨b, 0, none⟩ (by simp; omega), World.cell?_alloc_lt _ _ ⟨b, 0, none⟩ htl]; exact ht0)
    (by rw [World.frozen?_alloc_old _ _ ⟨b, 0, none⟩ (by simp; omega), World.frozen?_alloc_old _ _ ⟨b, 0, none⟩ (by simp; omega), World.frozen?_alloc_old _ _ ⟨b, 0, none⟩ (by simp; omega), World.frozen?_alloc_old _ _ ⟨b, 0, none⟩ (Nat.ne_of_lt htl)]; exact hf0)
  go_enter Tryz.func63, Tryz.ntmps63
  go_wp2
  refine wp_loop_rounds 1 ?_
  rw [rounds_succ]
  go_wp2
  go_ret
  refine AsPost.mk ?_ ?_
  · exact World.cell?_setCell_same _ _ _ ((((((Gr.refl w).alloc _).alloc _).alloc _).alloc _).keeps ht0)
  · intro a0 h hb
    exact ((((h.alloc _).alloc _).alloc _).alloc _).setCell hb _
end Go.Proofs.YtcdoeninajpbmaaGreatDoor
