/-
  posting.Without, posting.Follow.
-/
import Derived.Test.YtkdplnbdhkckhaaSetD
namespace Go.Proofs.Ytkdplnbdhkckhaa
open Go Go.RowKit Go.Shelf Go.Lib Go.Sort

theorem delete_nil (w : World) (fv : Value) (hix : Calls Try.prog 46 #[.slice none 0 0, fv] w (Ret w (.int .i64 (-1)))) :
    Calls Try.prog 28 #[.slice none 0 0, fv] w (Ret w (.slice none 0 0)) := by
  go_enter Try.func28, Try.ntmps28
  go_wp2_with fail
  refine hix.mono ?_
  rintro e w1 ⟨rfl, hg⟩
  go_wp2_with fail
  go_ret
  exact Ret.mk rfl hg
theorem delete_own (a0 w : World) (v : Value) (xs : List GPlace) (g : Nat) (lb : Array Value) (pr : GPlace → Bool) (h : OwnR a0 w v xs) (hl : xs.length ≤ 1000000) (hg : Gr a0 w)
    (eg : ∀ args w, (callFunc g args).run Try.prog w = .ok (.enter g args) w) (hp : ∀ (W : World) (x : GPlace), Gr a0 W → Calls Try.prog g (#[x.val] ++ lb) W (Ret W (.bool (pr x)))) :
    Calls Try.prog 28 #[v, .func (.func g) #[] lb] w fun e w' => ∃ v', e = .returned v' ∧ OwnR a0 w' v' (xs.filter (fun x => !pr x)) ∧ Gr a0 w' := by
  rcases h with ⟨rfl, rfl⟩ | ⟨B, cap, rfl, h2, h3, h4, h5⟩
  · refine (delete_nil w _ (index_nil w _)).mono ?_
    rintro e w' ⟨rfl, hg'⟩
    exact ⟨_, rfl, .inl ⟨rfl, rfl⟩, hg.trans hg'⟩
  · refine (delete_row a0 w xs B cap g lb pr hl h2 h5 h4 h3 hg eg hp).mono ?_
    rintro e w' ⟨rfl, hr, hg', hsz⟩
    exact ⟨_, rfl, .inr ⟨B, cap, rfl, Nat.le_trans (List.length_filter_le _ _) h2, h3, Nat.lt_of_lt_of_le h4 hsz, hr⟩, hg'⟩
theorem without1 (k : Nat) (row : Int) (x : GPlace) (W : World) (h : W.cell? ⟨k, 0, none⟩ = some (.int .i64 row)) :
    Calls Try.prog 30 #[x.val, .pointer (some ⟨k, 0, none⟩)] W (Ret W (.bool (x.1 == row))) := by
  obtain ⟨x1, x2⟩ := x
  unfold GPlace.val
  have h' := fun o => (Gr.alloc (Gr.refl W) o).keeps h
  go_enter Try.func30, Try.ntmps30
  go_wp2_with fail
  go_ret
  exact Ret.mk rfl ((Gr.refl W).alloc _)
theorem without_p (xs : List GPlace) (v : Value) (row : Int) (w : World) (hx : IsP w v xs) (hl : xs.length ≤ 1000000) :
    Calls Try.prog 11 #[v, .int .i64 row] w fun e w' => ∃ v', e = .returned v' ∧ OwnR w w' v' (xs.filter (fun x => !(x.1 == row))) ∧ Gr w w' := by
  have HX := Lib.hid hx
  obtain ⟨ao, ca, rfl⟩ := hx.form
  clear hx
  go_enter Try.func11, Try.ntmps11
  go_wp2_with fail
  have hga : Gr w (w.alloc (.cells #[.int .i64 row] 3)) := (Gr.refl w).alloc _
  refine (clone_p xs _ (w.alloc (.cells #[.int .i64 row] 3)) (HX.out.gr hga) hl).mono ?_
  rintro e w2 ⟨v2, rfl, ho, hg⟩
  have hk : ∀ W, Gr (w.alloc (.cells #[.int .i64 row] 3)) W → W.cell? ⟨w.heap.size, 0, none⟩ = some (.int .i64 row) := fun W hW => hW.keeps (by rw [World.cell?_alloc_new]; rfl)
  have HO := Lib.hid ho
  have HK := Lib.hid hk
  obtain ⟨vo, vc, rfl⟩ := ho.form
  clear ho hk
  have eg : ∀ args w, (callFunc 30 args).run Try.prog w = .ok (.enter 30 args) w := enters_of Try.func30 (by kernel_rfl) rfl
  go_wp2_with fail
  refine (delete_own (w.alloc (.cells #[.int .i64 row] 3)) w2 _ xs 30 #[.pointer (some ⟨w.heap.size, 0, none⟩)] (fun x => x.1 == row) HO.out hl hg eg (fun W x hW => without1 _ row x W (HK.out W hW))).mono ?_
  rintro e w3 ⟨v3, rfl, ho3, hg3⟩
  have HO3 := Lib.hid (ho3.back hga)
  have HG3 := Lib.hid (hga.trans hg3)
  obtain ⟨uo, uc, rfl⟩ := ho3.form
  clear ho3 hg3 eg
  obtain ⟨n3, hn3⟩ : ∃ n, n = (List.filter (fun x : GPlace => !(x.1 == row)) xs).length := ⟨_, rfl⟩
  rw [← hn3]
  have HN := Lib.hid hn3
  clear hn3
  go_wp2_with fail
  go_ret
  refine ⟨_, rfl, ?_, HG3.out⟩
  have := HO3.out
  rw [← HN.out] at this
  exact this
/-- Whether a place stands right ahead, as the machine counts. -/
def aheadW (a : List GPlace) (x : GPlace) : Bool := decide ((x.1, IntKind.i64.wrap (x.2 - 1)) ∈ a)
set_option maxRecDepth 100000 in
set_option maxHeartbeats 1600000 in
theorem follow1 (k : Nat) (va : Value) (a : List GPlace) (x : GPlace) (W : World) (h : W.cell? ⟨k, 0, none⟩ = some va) (ha : IsP W va a) (hl : a.length ≤ 1000000) :
    Calls Try.prog 31 #[x.val, .pointer (some ⟨k, 0, none⟩)] W (Ret W (.bool (!aheadW a x))) := by
  obtain ⟨x1, x2⟩ := x
  have HA := Lib.hid ha
  obtain ⟨ao, ca, rfl⟩ := ha.form
  unfold GPlace.val
  have h' := fun o => (Gr.alloc (Gr.refl W) o).keeps h
  unfold aheadW
  obtain ⟨y, hy⟩ : ∃ y, IntKind.i64.wrap (x2 - 1) = y := ⟨_, rfl⟩
  simp only [hy]
  go_enter Try.func31, Try.ntmps31
  go_wp2_with fail
  clear hy
  refine (contains_p a _ (x1, y) _ (HA.out.gr ((Gr.refl W).alloc _)) hl).mono ?_
  rintro e w2 ⟨rfl, hg⟩
  go_wp2_with fail
  go_ret
  refine Ret.mk rfl (((Gr.refl W).alloc _).trans hg)
set_option maxRecDepth 100000 in
set_option maxHeartbeats 1600000 in
theorem follow_p (a b : List GPlace) (va vb : Value) (w : World) (ha : IsP w va a) (hb : IsP w vb b) (hla : a.length ≤ 1000000) (hlb : b.length ≤ 1000000) :
    Calls Try.prog 12 #[va, vb] w fun e w' => ∃ v', e = .returned v' ∧ OwnR w w' v' (b.filter (fun x => !!aheadW a x)) ∧ Gr w w' := by
  have HA := Lib.hid ha
  have HB := Lib.hid hb
  obtain ⟨ao, ca, rfl⟩ := ha.form
  obtain ⟨bo, cb, rfl⟩ := hb.form
  clear ha hb
  go_enter Try.func12, Try.ntmps12
  go_wp2_with fail
  have hga : Gr w (w.alloc (.cells #[.slice ao a.length ca] 22)) := (Gr.refl w).alloc _
  refine (clone_p b _ (w.alloc (.cells #[.slice ao a.length ca] 22)) (HB.out.gr hga) hlb).mono ?_
  rintro e w2 ⟨v2, rfl, ho, hg⟩
  have hk : ∀ W, Gr (w.alloc (.cells #[.slice ao a.length ca] 22)) W → W.cell? ⟨w.heap.size, 0, none⟩ = some (.slice ao a.length ca) := fun W hW => hW.keeps (by rw [World.cell?_alloc_new]; rfl)
  have HO := Lib.hid ho
  have HK := Lib.hid hk
  obtain ⟨vo, vc, rfl⟩ := ho.form
  clear ho hk
  have eg : ∀ args w, (callFunc 31 args).run Try.prog w = .ok (.enter 31 args) w := enters_of Try.func31 (by kernel_rfl) rfl
  go_wp2_with fail
  refine (delete_own (w.alloc (.cells #[.slice ao a.length ca] 22)) w2 _ b 31 #[.pointer (some ⟨w.heap.size, 0, none⟩)] (fun x => !aheadW a x) HO.out hlb hg eg (fun W x hW => follow1 _ _ a x W (HK.out W hW) (HA.out.gr (hga.trans hW)) hla)).mono ?_
  rintro e w3 ⟨v3, rfl, ho3, hg3⟩
  have HO3 := Lib.hid (ho3.back hga)
  have HG3 := Lib.hid (hga.trans hg3)
  obtain ⟨uo, uc, rfl⟩ := ho3.form
  clear ho3 hg3 eg
  obtain ⟨n3, hn3⟩ : ∃ n, n = (List.filter (fun x : GPlace => !!aheadW a x) b).length := ⟨_, rfl⟩
  rw [← hn3]
  have HN := Lib.hid hn3
  clear hn3
  go_wp2_with fail
  go_ret
  refine ⟨_, rfl, ?_, HG3.out⟩
  have := HO3.out
  rw [← HN.out] at this
  exact this
end Go.Proofs.Ytkdplnbdhkckhaa
