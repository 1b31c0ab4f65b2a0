/-
  posting.Near.
-/
import Derived.Test.YtkdplnbdhkckhaaSetL
namespace Go.Proofs.Ytkdplnbdhkckhaa
open Go Go.RowKit Go.Shelf Go.Lib Go.Sort

/-- Whether two places of a row stand near, as the machine counts. -/
def nearW (far : Int) (p q : GPlace) : Bool := q.1 == p.1 && decide (max (IntKind.i64.wrap (q.2 - p.2)) (IntKind.i64.wrap (p.2 - q.2)) ≤ far)
set_option maxRecDepth 100000 in
set_option maxHeartbeats 1600000 in
theorem near1 (k f : Nat) (far : Int) (p x : GPlace) (W : World) (h1 : W.cell? ⟨k, 0, none⟩ = some (.int .i64 p.1)) (h2 : W.cell? ⟨k, 1, none⟩ = some (.int .i64 p.2)) (h3 : W.cell? ⟨f, 0, none⟩ = some (.int .i64 far)) :
    Calls Try.prog 34 #[x.val, .pointer (some ⟨k, 0, none⟩), .pointer (some ⟨f, 0, none⟩)] W (Ret W (.bool (nearW far p x))) := by
  obtain ⟨x1, x2⟩ := x
  obtain ⟨p1, p2⟩ := p
  unfold GPlace.val nearW
  obtain ⟨y, hy⟩ : ∃ y, IntKind.i64.wrap (x2 - p2) = y := ⟨_, rfl⟩
  obtain ⟨z, hz⟩ : ∃ z, IntKind.i64.wrap (p2 - x2) = z := ⟨_, rfl⟩
  simp only at h1 h2
  simp only [hy, hz]
  have h1' := fun o => (Gr.alloc (Gr.refl W) o).keeps h1
  have h2' := fun o => (Gr.alloc (Gr.refl W) o).keeps h2
  have h3' := fun o => (Gr.alloc (Gr.refl W) o).keeps h3
  by_cases he : x1 = p1
  · subst he
    go_enter Try.func34, Try.ntmps34
    go_wp2_with fail
    go_ret
    exact Ret.mk (by simp) ((Gr.refl W).alloc _)
  · go_enter Try.func34, Try.ntmps34
    go_wp2_with fail
    go_ret
    exact Ret.mk (by simp [he]) ((Gr.refl W).alloc _)
/-- Of which rows the reference notes a place. -/
def nearRows (far : Int) (xs ys : List GPlace) : List Int := (xs.filter fun p => ys.any (nearW far p)).map (·.1)
set_option maxRecDepth 100000 in
set_option maxHeartbeats 1600000 in
theorem near_p (xs ys : List GPlace) (va vb : Value) (far : Int) (w : World) (hx : IsP w va xs) (hy : IsP w vb ys) (hl : xs.length ≤ 1000000) (hly : ys.length ≤ 1000000) :
    Calls Try.prog 13 #[va, vb, .int .i64 far] w fun e w' => ∃ v', e = .returned v' ∧ OwnI w w' v' (setOf lessI (nearRows far xs ys)) ∧ Gr w w' := by
  have HX := Lib.hid hx
  have HY := Lib.hid hy
  obtain ⟨ao, ca, rfl⟩ := hx.form
  obtain ⟨bo, cb, rfl⟩ := hy.form
  clear hx hy
  have eg : ∀ args w, (callFunc 34 args).run Try.prog w = .ok (.enter 34 args) w := enters_of Try.func34 (by kernel_rfl) rfl
  have EG := Lib.hid eg
  clear eg
  go_enter Try.func13, Try.ntmps13
  go_wp2_with fail
  have hga : Gr w (w.alloc (.cells #[.int .i64 far] 3)) := (Gr.refl w).alloc _
  have hfar : (w.alloc (.cells #[.int .i64 far] 3)).cell? ⟨w.heap.size, 0, none⟩ = some (.int .i64 far) := by
    rw [World.cell?_alloc_new]
    rfl
  obtain ⟨w1, hw1⟩ : ∃ w1, w1 = w.alloc (.cells #[.int .i64 far] 3) := ⟨_, rfl⟩
  rw [← hw1] at hga hfar
  rw [← hw1]
  clear hw1
  have HX1 := Lib.hid (HX.out.gr hga)
  have HY1 := Lib.hid (HY.out.gr hga)
  go_loopw [7, 12] (fun kv iv w' => ∃ i : Nat, i ≤ xs.length ∧ iv = .int .i64 i ∧ OwnN w1 w' kv (nearRows far (xs.take i) ys) ∧ Gr w1 w') (fun _ iv _ => xs.length - (intOf iv).toNat)
  case atStart => exact ⟨0, Nat.zero_le _, rfl, World.ownsRow_nil _ _ _ _, Gr.refl _⟩
  case round =>
    obtain ⟨i, hi, rfl, ho, hg⟩ := hrel
    have HO := Lib.hid ho
    have HG := Lib.hid hg
    by_cases hlt : i < xs.length
    · obtain ⟨b, off, rfl, hb, hp⟩ : ∃ b off, ao = some ⟨b, off, none⟩ ∧ b < w1.heap.size ∧ PlacesAt w1 b off xs := by
        rcases HX1.out with ⟨_, e2⟩ | ⟨b, off, c, e, hb, hp⟩
        · rw [e2] at hlt
          exact absurd hlt (by simp)
        · cases e
          exact ⟨b, off, rfl, hb, hp⟩
      have hil : (i : Int) < (xs.length : Int) := by omega
      have c1 := hg.keeps (hp i hlt).1
      have c2 := hg.keeps (hp i hlt).2
      have hnx : nearRows far (xs.take (i + 1)) ys = if ys.any (nearW far xs[i]) then nearRows far (xs.take i) ys ++ [xs[i].1] else nearRows far (xs.take i) ys := by
        unfold nearRows
        rw [filter_next _ _ _ hlt]
        split
        · rw [List.map_append]
          rfl
        · rfl
      have hll : (nearRows far (xs.take i) ys).length ≤ 1000000 := by
        unfold nearRows
        have := List.length_filter_le (fun p => ys.any (nearW far p)) (xs.take i)
        rw [List.length_map]
        rw [List.length_take] at this
        omega
      have hgf := hg.keeps hfar
      generalize hx : xs[i] = x at *
      obtain ⟨x1, x2⟩ := x
      simp only at c1 c2 hnx
      have HN := Lib.hid hnx
      have hg1 := hg.alloc (.cells #[.int .i64 x1, .int .i64 x2] 39)
      have hgb : Gr wr (wr.alloc (.cells #[.int .i64 x1, .int .i64 x2] 39)) := (Gr.refl wr).alloc _
      have k1 : (wr.alloc (.cells #[.int .i64 x1, .int .i64 x2] 39)).cell? ⟨wr.heap.size, 0, none⟩ = some (.int .i64 x1) := by
        rw [World.cell?_alloc_new]
        rfl
      have k2 : (wr.alloc (.cells #[.int .i64 x1, .int .i64 x2] 39)).cell? ⟨wr.heap.size, 1, none⟩ = some (.int .i64 x2) := by
        rw [World.cell?_alloc_new]
        rfl
      have k3 := hgb.keeps hgf
      have hcf := containsF_p ys (.slice bo ys.length cb) 34 #[.pointer (some ⟨wr.heap.size, 0, none⟩), .pointer (some ⟨w.heap.size, 0, none⟩)] (nearW far (x1, x2)) (wr.alloc (.cells #[.int .i64 x1, .int .i64 x2] 39)) (HY1.out.gr hg1) hly EG.out
        (fun W x hW => near1 _ _ far (x1, x2) x W (hW.keeps k1) (hW.keeps k2) (hW.keeps k3))
      have HG1 := Lib.hid hg1
      have K1 := Lib.hid k1
      have HO1 : Hid (OwnN w1 (wr.alloc (.cells #[.int .i64 x1, .int .i64 x2] 39)) u7 (nearRows far (xs.take i) ys)) := Lib.hid (World.ownsRow.alloc ho _)
      clear ho hg hnx hg1 hgb k1 k2 k3 hgf hp hx hfar
      go_wp2_with fail
      refine hcf.mono ?_
      rintro e w3 ⟨rfl, hg3⟩
      have p1 := hg3.keeps K1.out
      have HG3 := Lib.hid (HG1.out.trans hg3)
      have HO3 : Hid (OwnN w1 w3 u7 (nearRows far (xs.take i) ys)) := Lib.hid (ownsRow_gr HO1.out hg3)
      clear hg3 hcf c1 c2
      cases hany : ys.any (nearW far (x1, x2))
      · rw [hany] at HN
        go_wp2_with fail
        go_roundw
        case measure =>
          simp [intOf]
          omega
        case rel => exact ⟨i + 1, by omega, by go_num, by rw [HN.out]; exact HO3.out, HG3.out⟩
      · rw [hany] at HN
        go_wp2_with (at_builtin; refine append_int (a0 := w1) rfl _ _ rfl u7 _ x1 rfl HO3.out _ (by simp) rfl hll HG3.out ?_; intro v4 w4 ho4 hg4)
        go_roundw
        case measure =>
          simp [intOf]
          omega
        case rel => exact ⟨i + 1, by omega, by go_num, by rw [HN.out]; exact ho4, hg4⟩
    · have hii : i = xs.length := by omega
      subst hii
      rw [List.take_length] at HO
      obtain ⟨L, HL⟩ : ∃ L, Hid (L = nearRows far xs ys) := ⟨_, Lib.hid rfl⟩
      have hoi : OwnI w1 wr u7 L := by
        rw [HL.out]
        exact HO.out.own
      have hln : L.length ≤ 1000000 := by
        rw [HL.out]
        unfold nearRows
        have := List.length_filter_le (fun p => ys.any (nearW far p)) xs
        rw [List.length_map]
        omega
      have HOI := Lib.hid hoi
      obtain ⟨uo, uc, rfl⟩ := hoi.form
      clear ho hg hoi HO
      go_wp2_with fail
      refine (sortS_own w1 wr _ L HOI.out HG.out hln).mono ?_
      rintro e w2 ⟨rfl, zs, hp, hw, ho1, hg1⟩
      have HO1 := Lib.hid ho1
      have HP := Lib.hid hp
      have HW := Lib.hid hw
      clear ho1 hp hw
      go_wp2_with fail
      refine (compactI_own w1 w2 _ zs HO1.out hg1 (by rw [HP.out.length_eq]; exact hln)).mono ?_
      rintro e w3 ⟨v3, rfl, ho2, hg2⟩
      have hs : squeeze zs = setOf lessI (nearRows far xs ys) := squeeze_set parts_int HW.out (fun x => by rw [← HL.out]; exact HP.out.mem_iff)
      rw [hs] at ho2
      have HO2 := Lib.hid (ho2.back hga)
      have HG2 := Lib.hid (hga.trans hg2)
      have HS := Lib.hid hs
      clear ho2 hs hg2 hga hfar
      go_wp2_with fail
      go_ret
      exact ⟨_, rfl, HO2.out, HG2.out⟩
end Go.Proofs.Ytkdplnbdhkckhaa
