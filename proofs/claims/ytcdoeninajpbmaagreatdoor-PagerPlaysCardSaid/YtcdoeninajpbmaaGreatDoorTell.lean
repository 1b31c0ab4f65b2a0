/-
  Contracts of api.Tell, plain.Place, ref.Bare, and the laws' is and bare: what an error is, and where.
-/
import Derived.Test.YtcdoeninajpbmaaGreatDoorErrAs3
namespace Go.Proofs.YtcdoeninajpbmaaGreatDoor
open Go Go.RowKit Go.Extern.Stop Go.Stop Go.Extern

/-- An error is nothing, an Errno, or an *At: which, and where. -/
def ErrIs (w : World) (err : Value) (n p : Int) : Prop :=
  (err = .nilIface ∧ n = 0 ∧ p = -1) ∨ (err = .iface 33 (.int .i64 n) ∧ p = -1) ∨
  (∃ b, err = .iface 109 (.pointer (some ⟨b, 0, none⟩)) ∧ w.cell? ⟨b, 0, none⟩ = some (.int .i64 n) ∧ w.cell? ⟨b, 1, none⟩ = some (.int .i64 p))
theorem ErrIs.gr {w w' : World} {err : Value} {n p : Int} (h : ErrIs w err n p) (g : Gr w w') : ErrIs w' err n p := by
  rcases h with h | h | ⟨b, h1, h2, h3⟩
  · exact .inl h
  · exact .inr (.inl h)
  · exact .inr (.inr ⟨b, h1, g.keeps h2, g.keeps h3⟩)

theorem errno_noAt (v : Value) (xT : TypeId) (w : World) : (Instr.typeAssert (.iface 33 v) xT 109 true).run Tryz.prog w = .ok (.tuple #[.pointer none, .bool false]) w := by kernel_rfl
theorem at_isAt (v : Value) (xT : TypeId) (w : World) : (Instr.typeAssert (.iface 109 v) xT 109 true).run Tryz.prog w = .ok (.tuple #[v, .bool true]) w := by kernel_rfl

theorem tell_t (err : Value) (n p : Int) (w : World) (he : ErrTypeAt w) (h : ErrIs w err n p) : Calls Tryz.prog 54 #[err] w (Ret w (.int .i64 n)) := by
  have HE := Lib.hid he
  clear he
  rcases h with ⟨rfl, rfl, _⟩ | ⟨rfl, _⟩ | ⟨b, rfl, h1, _⟩
  · go_enter Tryz.func54, Tryz.ntmps54
    go_wp2_with fail
    go_ret
    exact Ret.mk rfl (Gr.refl _)
  · go_enter Tryz.func54, Tryz.ntmps54
    go_wp2_with fail
    refine (as_errno n w.heap.size _ _ (HE.out.gr ((Gr.refl w).alloc _)) (by rw [World.cell?_alloc_new]; rfl) (by simp)).mono ?_
    intro e w1 hp
    obtain ⟨rfl, hc, hg⟩ := hp
    have hg1 := hg w ((Gr.refl w).alloc _) (Nat.le_refl _)
    clear hg
    go_wp2_with fail
    go_ret
    exact Ret.mk rfl hg1
  · have H1 := Lib.hid h1
    clear h1
    go_enter Tryz.func54, Tryz.ntmps54
    go_wp2_with fail
    refine (as_at n b w.heap.size _ _ (HE.out.gr ((Gr.refl w).alloc _)) (((Gr.refl w).alloc _).keeps H1.out) (by rw [World.cell?_alloc_new]; rfl) (by simp)).mono ?_
    intro e w1 hp
    obtain ⟨rfl, hc, hg⟩ := hp
    have hg1 := hg w ((Gr.refl w).alloc _) (Nat.le_refl _)
    clear hg
    go_wp2_with fail
    go_ret
    exact Ret.mk rfl hg1

theorem place_t (err : Value) (n p : Int) (w : World) (he : ErrTypeAt w) (h : ErrIs w err n p) : Calls Tryz.prog 39 #[err] w (Ret w (.tuple #[.int .i64 n, .int .i64 p])) := by
  have HE := Lib.hid he
  clear he
  have h1 := errno_noAt
  have h2 := at_isAt
  have h3 := errno_noUnwrap
  have HT := Lib.hid h
  rcases h with ⟨rfl, rfl, rfl⟩ | ⟨rfl, rfl⟩ | ⟨b, rfl, hb1, hb2⟩
  · go_enter Tryz.func39, Tryz.ntmps39
    go_wp2_with fail
    refine (tell_t _ 0 (-1) _ HE.out HT.out).mono ?_
    rintro e w1 ⟨rfl, hg1⟩
    go_wp2_with fail
    refine wp_loop_rounds 1 ?_
    rw [rounds_succ]
    go_wp2_with fail
    go_ret2
    exact Ret.mk rfl hg1
  · go_enter Tryz.func39, Tryz.ntmps39
    go_wp2_with fail
    refine (tell_t _ n (-1) _ HE.out HT.out).mono ?_
    rintro e w1 ⟨rfl, hg1⟩
    go_wp2_with fail
    refine wp_loop_rounds 1 ?_
    rw [rounds_succ]
    go_wp2_with fail
    go_ret2
    exact Ret.mk rfl hg1
  · have HB := Lib.hid hb2
    clear hb1 hb2
    go_enter Tryz.func39, Tryz.ntmps39
    go_wp2_with fail
    refine (tell_t _ n p _ HE.out HT.out).mono ?_
    rintro e w1 ⟨rfl, hg1⟩
    have hb2 := hg1.keeps HB.out
    go_wp2_with fail
    refine wp_loop_rounds 1 ?_
    rw [rounds_succ]
    go_wp2_with fail
    go_region
    all_goals go_wp2_with fail
    all_goals go_ret2
    all_goals exact Ret.mk rfl (by first | exact hg1.drew | exact hg1 | exact hg1.drewN _)

theorem bare_ref (e : Int) (w : World) : Calls Tryz.prog 26 #[.int .i64 e] w (Ret w (.agg #[.int .i64 e, .int .i64 (-1)])) := by
  go_enter Tryz.func26, Tryz.ntmps26
  go_wp2
  refine bodyPost_ret (v := .agg #[.int .i64 e, .int .i64 (-1)]) (by simp [results, Tryz.results26, go_sem]) rfl ?_
  exact Ret.mk rfl ((Gr.refl _).alloc _)
theorem is_t (err : Value) (n p n' p' : Int) (w : World) (he : ErrTypeAt w) (h : ErrIs w err n p) : Calls Tryz.prog 25 #[err, .agg #[.int .i64 n', .int .i64 p']] w (Ret w (.bool (n == n' && p == p'))) := by
  have HE := Lib.hid he
  have H := Lib.hid h
  clear he h
  go_enter Tryz.func25, Tryz.ntmps25
  go_wp2_with fail
  refine (place_t err n p _ (HE.out.gr ((Gr.refl w).alloc _)) (H.out.gr ((Gr.refl w).alloc _))).mono ?_
  rintro e w1 ⟨rfl, hg1⟩
  have c0 : w1.cell? ⟨w.heap.size, 0, none⟩ = some (.int .i64 n') := hg1.keeps (by rw [World.cell?_alloc_new]; rfl)
  have c1 : w1.cell? ⟨w.heap.size, 1, none⟩ = some (.int .i64 p') := hg1.keeps (by rw [World.cell?_alloc_new]; rfl)
  have hg := ((Gr.refl w).alloc _).trans hg1
  clear hg1
  go_wp2_with fail
  all_goals go_ret
  all_goals exact Ret.mk (by simp_all) hg
theorem bare_t (err : Value) (n p e : Int) (w : World) (he : ErrTypeAt w) (h : ErrIs w err n p) : Calls Tryz.prog 5 #[err, .int .i64 e] w (Ret w (.bool (n == e && p == -1))) := by
  have HE := Lib.hid he
  have H := Lib.hid h
  clear he h
  go_enter Tryz.func5, Tryz.ntmps5
  go_wp2_with fail
  refine (bare_ref e _).mono ?_
  rintro e1 w1 ⟨rfl, hg1⟩
  go_wp2_with fail
  refine (is_t err n p e (-1) _ (HE.out.gr hg1) (H.out.gr hg1)).mono ?_
  rintro e1 w2 ⟨rfl, hg2⟩
  go_wp2_with fail
  go_ret
  exact Ret.mk rfl (hg1.trans hg2)
end Go.Proofs.YtcdoeninajpbmaaGreatDoor
