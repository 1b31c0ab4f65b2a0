/-
  posting.Merge.
-/
import Derived.Test.YtkdplnbdhkckhaaSetH
namespace Go.Proofs.Ytkdplnbdhkckhaa
open Go Go.RowKit Go.Shelf Go.Lib Go.Sort

/-- A slice of places in a block that was made behind a0. -/
def OwnR (a0 w : World) (v : Value) (xs : List GPlace) : Prop := (v = .slice none 0 0 ∧ xs = []) ∨ ∃ B cap, v = .slice (some ⟨B, 0, none⟩) xs.length cap ∧ xs.length ≤ cap ∧ a0.heap.size ≤ B ∧ B < w.heap.size ∧ RowP w B xs
theorem OwnP.own {a0 w : World} {v : Value} {xs : List GPlace} (h : OwnP a0 w v xs) : OwnR a0 w v xs := h.row'
theorem OwnR.gr {a0 w w' : World} {v : Value} {xs : List GPlace} (h : OwnR a0 w v xs) (g : Gr w w') : OwnR a0 w' v xs := by
  rcases h with h | ⟨B, cap, h1, h2, h3, h4, h5⟩
  · exact .inl h
  · exact .inr ⟨B, cap, h1, h2, h3, Nat.lt_of_lt_of_le h4 g.size, h5.gr g h4⟩
theorem OwnR.isP {a0 w : World} {v : Value} {xs : List GPlace} (h : OwnR a0 w v xs) : IsP w v xs := by
  rcases h with h | ⟨B, cap, h1, h2, h3, h4, h5⟩
  · exact .inl h
  · refine .inr ⟨B, 0, cap, h1, h4, fun i hi => ?_⟩
    have := h5 i hi
    rw [Nat.zero_add]
    exact ⟨this.1.1, this.2.1⟩
theorem OwnR.back {a0 a1 w : World} {v : Value} {xs : List GPlace} (h : OwnR a1 w v xs) (g : Gr a0 a1) : OwnR a0 w v xs := by
  rcases h with h | ⟨B, cap, h1, h2, h3, h4, h5⟩
  · exact .inl h
  · exact .inr ⟨B, cap, h1, h2, Nat.le_trans g.size h3, h4, h5⟩
set_option maxRecDepth 100000 in
set_option maxHeartbeats 1600000 in
theorem compact_nil (w : World) :
    Calls Try.prog 27 #[.slice none 0 0] w (Ret w (.slice none 0 0)) := by
  go_enter Try.func27, Try.ntmps27
  go_wp2_with fail
  go_ret
  exact Ret.mk rfl (Gr.refl _)
theorem sort_nil (w : World) (fv : Value) :
    Calls Try.prog 26 #[.slice none 0 0, fv] w (Ret w (.tuple #[])) := by
  exact Ret.of_same (AnyF.slices_SortFunc_none Try.sortPlaces none 0 fv w)
theorem IsP.form {w : World} {v : Value} {xs : List GPlace} (h : IsP w v xs) : ∃ ao c, v = .slice ao xs.length c := by
  rcases h with ⟨rfl, rfl⟩ | ⟨b, off, c, rfl, _⟩
  · exact ⟨none, 0, rfl⟩
  · exact ⟨_, c, rfl⟩
theorem OwnR.form {a0 w : World} {v : Value} {xs : List GPlace} (h : OwnR a0 w v xs) : ∃ ao c, v = .slice ao xs.length c := h.isP.form
/-- Sorting and squeezing what is the call's own. -/
theorem sort_own (a0 w : World) (v : Value) (xs : List GPlace) (h : OwnR a0 w v xs) (hg : Gr a0 w) (hl : xs.length ≤ 1000000) :
    Calls Try.prog 26 #[v, .func (.func 22) #[] #[]] w fun e w' =>
      e = .returned (.tuple #[]) ∧ ∃ ys : List GPlace, ys.Perm xs ∧ Weakly beforeB ys ∧ OwnR a0 w' v ys ∧ Gr a0 w' := by
  rcases h with ⟨rfl, rfl⟩ | ⟨B, cap, rfl, h2, h3, h4, h5⟩
  · refine (sort_nil w _).mono ?_
    rintro e w' ⟨rfl, hg'⟩
    exact ⟨rfl, [], List.Perm.refl _, List.Pairwise.nil, .inl ⟨rfl, rfl⟩, hg.trans hg'⟩
  · refine (sort_places xs B cap w h5 h4 hl).mono ?_
    rintro e w' ⟨rfl, ys, hp, hw, hr, hx⟩
    refine ⟨rfl, ys, hp, hw, .inr ⟨B, cap, by rw [hp.length_eq], by rw [hp.length_eq]; exact h2, h3, Nat.lt_of_lt_of_le h4 hx.2.2.2.1, hr⟩, hx.gr hg (fun k hk => by rw [hk]; exact h3)⟩
theorem compact_own (a0 w : World) (v : Value) (xs : List GPlace) (h : OwnR a0 w v xs) (hg : Gr a0 w) (hl : xs.length ≤ 1000000) :
    Calls Try.prog 27 #[v] w fun e w' => ∃ v', e = .returned v' ∧ OwnR a0 w' v' (squeeze xs) ∧ Gr a0 w' := by
  rcases h with ⟨rfl, rfl⟩ | ⟨B, cap, rfl, h2, h3, h4, h5⟩
  · refine (compact_nil w).mono ?_
    rintro e w' ⟨rfl, hg'⟩
    exact ⟨_, rfl, .inl ⟨rfl, rfl⟩, hg.trans hg'⟩
  · refine (compact_p xs B cap hl h2 w h5 h4).mono ?_
    rintro e w' ⟨rfl, hr, hx⟩
    exact ⟨_, rfl, .inr ⟨B, cap, rfl, Nat.le_trans (squeeze_len xs) h2, h3, Nat.lt_of_lt_of_le h4 hx.2.2.2.1, hr⟩, hx.gr hg (fun k hk => by rw [hk]; exact h3)⟩
set_option maxRecDepth 100000 in
set_option maxHeartbeats 1600000 in
theorem merge_p (xs ys : List GPlace) (va vb : Value) (w : World) (hx : IsP w va xs) (hy : IsP w vb ys) (hl : xs.length + ys.length ≤ 1000000) :
    Calls Try.prog 10 #[va, vb] w fun e w' => ∃ v, e = .returned v ∧ OwnR w w' v (setOf beforeB (xs ++ ys)) ∧ Gr w w' := by
  have HX := Lib.hid hx
  have HY := Lib.hid hy
  obtain ⟨ao, ca, rfl⟩ := hx.form
  obtain ⟨bo, cb, rfl⟩ := hy.form
  clear hx hy
  go_enter Try.func10, Try.ntmps10
  go_wp2_with fail
  refine (concat_p xs ys (.slice ao xs.length ca) (.slice bo ys.length cb) w.heap.size 2 _ (HX.out.gr ((Gr.refl w).alloc _)) (HY.out.gr ((Gr.refl w).alloc _)) hl (by rw [World.cell?_alloc_new]; rfl) (by rw [World.cell?_alloc_new]; rfl)).mono ?_
  rintro e w1 ⟨v, rfl, ho, hg⟩
  have hg1 : Gr w w1 := ((Gr.refl w).alloc _).trans hg
  have HO := Lib.hid (ho.own.back ((Gr.refl w).alloc _))
  clear ho hg
  have hln : (xs ++ ys).length ≤ 1000000 := by rw [List.length_append]; exact hl
  obtain ⟨L, HL⟩ : ∃ L, Hid (L = xs ++ ys) := ⟨_, Lib.hid rfl⟩
  rw [← HL.out] at HO hln
  obtain ⟨vo, vc, rfl⟩ := HO.out.form
  go_wp2_with fail
  refine (sort_own w w1 _ _ HO.out hg1 hln).mono ?_
  rintro e w2 ⟨rfl, zs, hp, hw, ho2, hg2⟩
  have HO2 := Lib.hid ho2
  have HP := Lib.hid hp
  have HW := Lib.hid hw
  clear ho2 hp hw HO
  go_wp2_with fail
  refine (compact_own w w2 _ _ HO2.out hg2 (by rw [HP.out.length_eq]; exact hln)).mono ?_
  rintro e w3 ⟨v3, rfl, ho3, hg3⟩
  have HO3 := Lib.hid ho3
  clear ho3 HO2
  have hs : squeeze zs = setOf beforeB (xs ++ ys) := squeeze_set parts_place HW.out (fun x => by rw [← HL.out]; exact HP.out.mem_iff)
  rw [hs] at HO3
  have HS := Lib.hid hs
  clear hs
  go_wp2_with fail
  go_ret
  exact ⟨_, rfl, HO3.out, hg3⟩
end Go.Proofs.Ytkdplnbdhkckhaa
