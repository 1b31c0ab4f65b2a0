/-
  slices.Clone, Contains, IndexFunc, ContainsFunc of places.
-/
import Derived.Test.YtkdplnbdhkckhaaSetM
namespace Go.Proofs.Ytkdplnbdhkckhaa
open Go Go.RowKit Go.Shelf Go.Lib Go.Sort

theorem clone_p (xs : List GPlace) (v : Value) (w : World) (h : IsP w v xs) (hl : xs.length ≤ 1000000) :
    Calls Try.prog 29 #[v] w fun e w' => ∃ v', e = .returned v' ∧ OwnR w w' v' xs ∧ Gr w w' := by
  obtain ⟨i0, hi, hz⟩ : ∃ i0, Try.prog.info? 39 = some i0 ∧ (i0.zero, i0.size, i0.bytes) = (some (.agg #[.int .i64 0, .int .i64 0]), 2, 16) := by
    have h := info_place
    cases h0 : Try.prog.info? 39 with
    | none => rw [h0] at h; cases h
    | some i0 => rw [h0] at h; exact ⟨i0, rfl, Option.some.inj h⟩
  simp only [Prod.mk.injEq] at hz
  obtain ⟨hz0, hz1, hz2⟩ := hz
  rcases h with ⟨rfl, rfl⟩ | ⟨b, off, c, rfl, hb, hp⟩
  · refine Calls.mono (AnyE.slices_Clone_nil Try.clonePlaces 0 0 w) ?_
    rintro e w' ⟨rfl, rfl⟩
    exact ⟨_, rfl, .inl ⟨rfl, rfl⟩, Gr.refl _⟩
  · refine Calls.mono (AnyE.slices_Clone Try.clonePlaces i0 (.agg #[.int .i64 0, .int .i64 0]) 2 16 hi hz0 hz1 hz2 rfl (by decide) Try.sizeOf39 b off xs.length c (cellsP xs) w (cellsP_len xs) (by unfold maxLen; omega) (by omega) (fun j u hj => by
      have := hp.cells j u hj
      rwa [Addr.add_lit] at this) (cellsP_one xs)) ?_
    rintro e w' ⟨v', rfl, ho, _, hg⟩
    exact ⟨v', rfl, OwnP.own ho, hg⟩
theorem place_cells {w : World} {b off : Nat} {xs : List GPlace} (h : PlacesAt w b off xs) : ∀ j, j < xs.length → ∀ i v, (encP2 xs[j]!)[i]? = some v → w.cell? ⟨b, off + j * 2 + i, none⟩ = some v := by
  intro j hj i v hi
  have hp := h j hj
  have hg : xs[j]! = xs[j] := by simp [hj]
  rw [hg] at hi
  match i, hi with
  | 0, hi =>
    have := Option.some.inj hi
    rw [← this]
    exact hp.1
  | 1, hi =>
    have := Option.some.inj hi
    rw [← this]
    exact hp.2
  | i + 2, hi => simp [encP2] at hi
set_option maxRecDepth 100000 in
set_option maxHeartbeats 1600000 in
theorem index_nil (w : World) (fv : Value) :
    Calls Try.prog 46 #[.slice none 0 0, fv] w (Ret w (.int .i64 (-1))) := by
  go_enter Try.func46, Try.ntmps46
  go_wp2_with fail
  go_loop [8] (fun i => i = .int .i64 0) (fun _ => 1)
  case atStart => rfl
  case round =>
    subst hrel
    go_wp2_with fail
    go_ret
    exact Ret.mk rfl (Gr.refl _)
theorem index_p (xs : List GPlace) (v : Value) (g : Nat) (lb : Array Value) (pr : GPlace → Bool) (w : World) (h : IsP w v xs) (hl : xs.length ≤ 1000000) (eg : ∀ args w, (callFunc g args).run Try.prog w = .ok (.enter g args) w)
    (hp : ∀ (W : World) (x : GPlace), Gr w W → Calls Try.prog g (#[x.val] ++ lb) W (Ret W (.bool (pr x)))) :
    Calls Try.prog 46 #[v, .func (.func g) #[] lb] w (Ret w (.int .i64 (Lib.idxBy (fun _ y => pr y) xs default))) := by
  rcases h with ⟨rfl, rfl⟩ | ⟨b, off, c, rfl, hb, hx⟩
  · exact index_nil w _
  · refine Calls.mono (AnyQ.slices_IndexFunc Try.indexFuncPlace 2 Try.isAgg39 Try.sizeOf39 encP2 (fun _ => rfl) pr g lb eg b off xs.length c xs w (fun W x hW => (hp W x hW).mono fun e w' h => ⟨h.1, Gr.trans hW h.2⟩) (Nat.le_refl _) (by omega) hb (place_cells hx)) ?_
    rintro e w' ⟨rfl, hg⟩
    rw [List.take_length]
    exact Ret.mk rfl hg
set_option maxRecDepth 100000 in
set_option maxHeartbeats 1600000 in
theorem indexv_nil (w : World) (x : GPlace) :
    Calls Try.prog 47 #[.slice none 0 0, x.val] w (Ret w (.int .i64 (-1))) := by
  unfold GPlace.val
  go_enter Try.func47, Try.ntmps47
  go_wp2_with fail
  go_loop [8] (fun i => i = .int .i64 0) (fun _ => 1)
  case atStart => rfl
  case round =>
    subst hrel
    go_wp2_with fail
    go_ret
    exact Ret.mk rfl ((by repeat (first | exact Gr.refl _ | refine Gr.alloc ?_ _ | refine Gr.drew ?_)))
set_option maxRecDepth 100000 in
set_option maxHeartbeats 1600000 in
theorem contains_nil (w : World) (x : GPlace) :
    Calls Try.prog 32 #[.slice none 0 0, x.val] w (Ret w (.bool false)) := by
  have hix := fun W => indexv_nil W x
  unfold GPlace.val at *
  go_enter Try.func32, Try.ntmps32
  go_wp2_with fail
  refine (hix _).mono ?_
  rintro e w1 ⟨rfl, hg⟩
  go_wp2_with fail
  go_ret
  refine Ret.mk (by first | rfl | simp) ?_
  refine Gr.trans ?_ hg
  repeat (first | exact Gr.refl _ | refine Gr.alloc ?_ _ | refine Gr.drew ?_)
set_option maxRecDepth 100000 in
set_option maxHeartbeats 1600000 in
theorem containsF_nil (w : World) (fv : Value) :
    Calls Try.prog 33 #[.slice none 0 0, fv] w (Ret w (.bool false)) := by
  have hix := fun W => index_nil W fv
  go_enter Try.func33, Try.ntmps33
  go_wp2_with fail
  refine (hix _).mono ?_
  rintro e w1 ⟨rfl, hg⟩
  go_wp2_with fail
  go_ret
  refine Ret.mk (by first | rfl | simp) ?_
  refine Gr.trans ?_ hg
  repeat (first | exact Gr.refl _ | refine Gr.alloc ?_ _ | refine Gr.drew ?_)
theorem contains_p (xs : List GPlace) (v : Value) (x : GPlace) (w : World) (h : IsP w v xs) (hl : xs.length ≤ 1000000) :
    Calls Try.prog 32 #[v, x.val] w (Ret w (.bool (decide (x ∈ xs)))) := by
  rcases h with ⟨rfl, rfl⟩ | ⟨b, off, c, rfl, hb, hx⟩
  · simpa using contains_nil w x
  · refine Calls.mono (AnyQ.slices_Contains Try.containsPlace 2 Try.isAgg39 Try.sizeOf39 encP2 (fun _ => rfl) (fun a b => a.1 == b.1 && a.2 == b.2) ?_ b off xs.length c xs x w (Nat.le_refl _) (by omega) (place_cells hx)) ?_
    · refine ⟨fun x y W => ?_, GuardAt.agg (fun x => (encP2 x).toArray) (by kernel_rfl)⟩
      have h := equalIn_place x.1 x.2 y.1 y.2 W
      rw [run_eql_struct]
      show Result.andThen ((Op.equalIn 10000 39 (.agg #[.int .i64 x.1, .int .i64 x.2]) (.agg #[.int .i64 y.1, .int .i64 y.2])).run Try.prog W) _ = _
      rw [h]
      rfl
    · rintro e w' ⟨rfl, hg⟩
      rw [List.take_length]
      refine Ret.mk ?_ hg
      congr 1
      rw [Bool.eq_iff_iff]
      simp only [List.any_eq_true, decide_eq_true_eq, Bool.and_eq_true, beq_iff_eq]
      constructor
      · rintro ⟨y, hy, h1, h2⟩
        have : x = y := Prod.ext h1 h2
        rw [this]
        exact hy
      · intro hx
        exact ⟨x, hx, rfl, rfl⟩
theorem containsF_p (xs : List GPlace) (v : Value) (g : Nat) (lb : Array Value) (pr : GPlace → Bool) (w : World) (h : IsP w v xs) (hl : xs.length ≤ 1000000) (eg : ∀ args w, (callFunc g args).run Try.prog w = .ok (.enter g args) w)
    (hp : ∀ (W : World) (x : GPlace), Gr w W → Calls Try.prog g (#[x.val] ++ lb) W (Ret W (.bool (pr x)))) :
    Calls Try.prog 33 #[v, .func (.func g) #[] lb] w (Ret w (.bool (xs.any pr))) := by
  rcases h with ⟨rfl, rfl⟩ | ⟨b, off, c, rfl, hb, hx⟩
  · exact containsF_nil w _
  · refine Calls.mono (AnyQ.slices_ContainsFunc Try.containsFuncPlace 2 Try.isAgg39 Try.sizeOf39 encP2 (fun _ => rfl) pr g lb eg b off xs.length c xs w (fun W x hW => (hp W x hW).mono fun e w' h => ⟨h.1, Gr.trans hW h.2⟩) (Nat.le_refl _) (by omega) hb (place_cells hx)) ?_
    rintro e w' ⟨rfl, hg⟩
    rw [List.take_length]
    exact Ret.mk rfl hg
end Go.Proofs.Ytkdplnbdhkckhaa
