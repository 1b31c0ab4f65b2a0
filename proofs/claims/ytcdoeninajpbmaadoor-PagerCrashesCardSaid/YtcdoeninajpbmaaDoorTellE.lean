/-
  The contract of api.Tell at an error that is nothing, or an Errno.
-/
import Derived.Test.YtcdoeninajpbmaaDoorErrAs2E
namespace Go.Proofs.YtcdoeninajpbmaaDoor
open Go Go.RowKit

/-- An error is nothing, or an Errno. -/
def ErrnoIs (err : Value) (n : Int) : Prop := (err = .nilIface ∧ n = 0) ∨ err = .iface 38 (.int .i64 n)
theorem tell_e (err : Value) (n : Int) (w : World) (he : ErrTypeAt w) (h : ErrnoIs err n) : Calls Tryd.prog 11 #[err] w (Ret w (.int .i64 n)) := by
  have HE := Lib.hid he
  clear he
  rcases h with ⟨rfl, rfl⟩ | rfl
  · go_enter Tryd.func11, Tryd.ntmps11
    go_wp2_with fail
    go_ret
    exact Ret.mk rfl (Gr.refl _)
  · go_enter Tryd.func11, Tryd.ntmps11
    go_wp2_with fail
    refine (as_errno n w.heap.size _ _ (HE.out.gr ((Gr.refl w).alloc _)) (by rw [World.cell?_alloc_new]; rfl) (by simp)).mono ?_
    intro e w1 hp
    obtain ⟨rfl, hc, hg⟩ := hp
    have hg1 := hg w ((Gr.refl w).alloc _) (Nat.le_refl _)
    clear hg
    go_wp2_with fail
    go_ret
    exact Ret.mk rfl hg1
end Go.Proofs.YtcdoeninajpbmaaDoor
