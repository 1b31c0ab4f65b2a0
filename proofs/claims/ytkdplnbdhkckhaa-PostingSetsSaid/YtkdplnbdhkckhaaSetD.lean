/-
  slices.DeleteFunc of places.
-/
import Derived.Test.YtkdplnbdhkckhaaSetN
namespace Go.Proofs.Ytkdplnbdhkckhaa
open Go Go.RowKit Go.Shelf Go.Lib Go.Sort

theorem idx_cases (pr : GPlace → Bool) : ∀ (xs : List GPlace) (i : Nat), (Lib.idxByFrom (fun _ y => pr y) default xs i = -1 ∧ xs.filter (fun x => !pr x) = xs) ∨ ∃ k, ∃ h : k < xs.length, Lib.idxByFrom (fun _ y => pr y) default xs i = ((i + k : Nat) : Int) ∧ pr xs[k] = true ∧ (xs.take k).filter (fun x => !pr x) = xs.take k
  | [], i => .inl ⟨rfl, rfl⟩
  | x :: xs, i => by
    by_cases hx : pr x = true
    · exact .inr ⟨0, by simp, by simp [Lib.idxByFrom, hx], by simpa using hx, by simp⟩
    · have hx' : pr x = false := by simpa using hx
      rcases idx_cases pr xs (i + 1) with ⟨h1, h2⟩ | ⟨k, hk, h1, h2, h3⟩
      · exact .inl ⟨by simp [Lib.idxByFrom, hx', h1], by simp [hx', h2]⟩
      · refine .inr ⟨k + 1, by simpa using hk, ?_, by simpa using h2, by simp [hx', h3]⟩
        simp only [Lib.idxByFrom, hx', h1]
        simp
        omega
theorem filter_next {α : Type} (f : α → Bool) (l : List α) (k : Nat) (hk : k < l.length) : (l.take (k + 1)).filter f = if f l[k] then (l.take k).filter f ++ [l[k]] else (l.take k).filter f := by
  rw [List.take_succ_eq_append_getElem hk, List.filter_append]
  by_cases h : f l[k] = true <;> simp [h]
set_option maxRecDepth 100000 in
set_option maxHeartbeats 1600000 in
theorem delete_row (a0 w : World) (xs : List GPlace) (B cap g : Nat) (lb : Array Value) (pr : GPlace → Bool) (hl : xs.length ≤ 1000000) (hcap : xs.length ≤ cap) (h : RowP w B xs) (hB : B < w.heap.size) (hB0 : a0.heap.size ≤ B) (hg : Gr a0 w)
    (eg : ∀ args w, (callFunc g args).run Try.prog w = .ok (.enter g args) w) (hp : ∀ (W : World) (x : GPlace), Gr a0 W → Calls Try.prog g (#[x.val] ++ lb) W (Ret W (.bool (pr x)))) :
    Calls Try.prog 28 #[.slice (some ⟨B, 0, none⟩) xs.length cap, .func (.func g) #[] lb] w fun e w' =>
      e = .returned (.slice (some ⟨B, 0, none⟩) (xs.filter (fun x => !pr x)).length cap) ∧ RowP w' B (xs.filter (fun x => !pr x)) ∧ Gr a0 w' ∧ w.heap.size ≤ w'.heap.size := by
  have hix := index_p xs (.slice (some ⟨B, 0, none⟩) xs.length cap) g lb pr w (.inr ⟨B, 0, cap, rfl, hB, fun i hi => by
    have := h i hi
    rw [Nat.zero_add]
    exact ⟨this.1.1, this.2.1⟩⟩) hl eg (fun W x hW => hp W x (hg.trans hW))
  have H := Lib.hid h
  have HP := Lib.hid hp
  have HG := Lib.hid hg
  clear h hp hg
  rcases idx_cases pr xs 0 with ⟨e1, e2⟩ | ⟨k, hk, e1, e2, e3⟩
  · have e1' : Lib.idxBy (fun _ y => pr y) xs default = -1 := e1
    rw [e1'] at hix
    rw [e2]
    go_enter Try.func28, Try.ntmps28
    go_wp2_with fail
    refine hix.mono ?_
    rintro e w1 ⟨rfl, hg1⟩
    go_wp2_with fail
    go_ret
    exact ⟨rfl, H.out.gr hg1 hB, HG.out.trans hg1, hg1.size⟩
  · have e1' : Lib.idxBy (fun _ y => pr y) xs default = (k : Int) := by
      have : Lib.idxBy (fun _ y => pr y) xs default = ((0 + k : Nat) : Int) := e1
      rwa [Nat.zero_add] at this
    rw [e1'] at hix
    have hne1 : ¬ (k : Int) = -1 := by omega
    have E2 := Lib.hid e2
    have E3 := Lib.hid e3
    clear e1 e1' e2 e3
    go_enter Try.func28, Try.ntmps28
    go_wp2_with fail
    refine hix.mono ?_
    rintro e w1 ⟨rfl, hg1⟩
    have HR1 := Lib.hid (H.out.gr hg1 hB)
    have hs1 := hg1.size
    have HG1 := Lib.hid (HG.out.trans hg1)
    clear hg1
    go_wp2_with fail
    go_loopw [5, 6] (fun kv jv w' => ∃ (q j : Nat) (ys : List GPlace), k + 1 ≤ j ∧ j ≤ xs.length ∧ kv = .int .i64 q ∧ jv = .int .i64 j ∧ q < j ∧ ys.length = xs.length ∧ (∀ i, j ≤ i → ys[i]? = xs[i]?) ∧ (xs.take j).filter (fun x => !pr x) = ys.take q ∧ RowP w' B ys ∧ Gr a0 w' ∧ w.heap.size ≤ w'.heap.size) (fun _ jv _ => xs.length - (intOf jv).toNat)
    case atStart =>
      refine ⟨k, k + 1, xs, Nat.le_refl _, hk, rfl, by go_num, by omega, rfl, fun _ _ => rfl, ?_, HR1.out, HG1.out, hs1⟩
      rw [filter_next _ _ _ hk, E2.out]
      exact E3.out
    case round =>
      obtain ⟨q, j, ys, hj1, hjn, rfl, rfl, hqj, hyl, hyx, hsq, hrow, hgw, hsz⟩ := hrel
      have HROW := Lib.hid hrow
      have HSQ := Lib.hid hsq
      have HYX := Lib.hid hyx
      have HGW := Lib.hid hgw
      have hBw : B < wr.heap.size := by omega
      clear hrow hsq hyx hgw
      by_cases hlt : j < xs.length
      · have hjl : (j : Int) < (xs.length : Int) := by omega
        have eyj : ys[j]'(by omega) = xs[j] := by
          have := HYX.out j (Nat.le_refl _)
          rw [List.getElem?_eq_getElem (by omega), List.getElem?_eq_getElem hlt] at this
          exact Option.some.inj this
        have hr := HROW.out j (by omega)
        have hrq := HROW.out q (by omega)
        rw [eyj] at hr
        have hnx := filter_next (fun x => !pr x) xs j hlt
        rw [HSQ.out] at hnx
        have hHP := HP.out
        generalize hxj : xs[j] = x at *
        obtain ⟨a1, a2⟩ := x
        have hqn : (q : Int) < (xs.length : Int) := by omega
        have c1 := hr.1.1
        have c2 := hr.2.1
        simp only at c1 c2
        have HR2 := Lib.hid hr
        have HRQ := Lib.hid hrq
        have HNX := Lib.hid hnx
        clear hr hrq hnx eyj
        go_wp2_with fail
        refine (hHP (wr.alloc (.cells #[.int .i64 a1, .int .i64 a2] 39)) (a1, a2) (HGW.out.alloc _)).mono ?_
        rintro e w4 ⟨rfl, hg4⟩
        have hga : Gr wr (wr.alloc (.cells #[.int .i64 a1, .int .i64 a2] 39)) := (Gr.refl wr).alloc _
        have b1 : w4.cell? ⟨wr.heap.size, 0, none⟩ = some (.int .i64 a1) := hg4.keeps (by rw [World.cell?_alloc_new]; rfl)
        have b2 : w4.cell? ⟨wr.heap.size, 1, none⟩ = some (.int .i64 a2) := hg4.keeps (by rw [World.cell?_alloc_new]; rfl)
        have hgr4 := hga.trans hg4
        have hgw4 := HGW.out.trans hgr4
        have hrow4 := HROW.out.gr hgr4 hBw
        have hsz4 := hgr4.size
        clear c1 c2 HR2 hga hg4
        by_cases hpr : pr (a1, a2) = true
        · have hst := HNX.out
          simp only [hpr, Bool.not_true, Bool.false_eq_true, if_false] at hst
          rw [hpr]
          have HST := Lib.hid hst
          have HR4 := Lib.hid hrow4
          have HG4 := Lib.hid hgw4
          clear hst hrow4 hgw4 hgr4
          go_wp2_with fail
          go_roundw
          case measure =>
            simp [intOf]
            omega
          case rel =>
            first | exact ⟨_, _, _, _, _, _, _, _, _, _, _, _, _, _, _, _, _, _, _, _, _, _, _, ⟨q, j + 1, ys, by omega, by omega, rfl, by go_num, by omega, hyl, fun i hi => HYX.out i (by omega), HST.out, HR4.out, HG4.out, by omega⟩, rfl⟩ | exact ⟨_, _, _, _, _, _, _, _, _, _, _, _, _, _, _, _, _, _, _, _, _, _, ⟨q, j + 1, ys, by omega, by omega, rfl, by go_num, by omega, hyl, fun i hi => HYX.out i (by omega), HST.out, HR4.out, HG4.out, by omega⟩, rfl⟩ | exact ⟨_, _, _, _, _, _, _, _, _, _, _, _, _, _, _, _, _, _, _, _, _, ⟨q, j + 1, ys, by omega, by omega, rfl, by go_num, by omega, hyl, fun i hi => HYX.out i (by omega), HST.out, HR4.out, HG4.out, by omega⟩, rfl⟩ | exact ⟨_, _, _, _, _, _, _, _, _, _, _, _, _, _, _, _, _, _, _, _, ⟨q, j + 1, ys, by omega, by omega, rfl, by go_num, by omega, hyl, fun i hi => HYX.out i (by omega), HST.out, HR4.out, HG4.out, by omega⟩, rfl⟩ | exact ⟨_, _, _, _, _, _, _, _, _, _, _, _, _, _, _, _, _, _, _, ⟨q, j + 1, ys, by omega, by omega, rfl, by go_num, by omega, hyl, fun i hi => HYX.out i (by omega), HST.out, HR4.out, HG4.out, by omega⟩, rfl⟩ | exact ⟨_, _, _, _, _, _, _, _, _, _, _, _, _, _, _, _, _, _, ⟨q, j + 1, ys, by omega, by omega, rfl, by go_num, by omega, hyl, fun i hi => HYX.out i (by omega), HST.out, HR4.out, HG4.out, by omega⟩, rfl⟩ | exact ⟨_, _, _, _, _, _, _, _, _, _, _, _, _, _, _, _, _, ⟨q, j + 1, ys, by omega, by omega, rfl, by go_num, by omega, hyl, fun i hi => HYX.out i (by omega), HST.out, HR4.out, HG4.out, by omega⟩, rfl⟩ | exact ⟨_, _, _, _, _, _, _, _, _, _, _, _, _, _, _, _, ⟨q, j + 1, ys, by omega, by omega, rfl, by go_num, by omega, hyl, fun i hi => HYX.out i (by omega), HST.out, HR4.out, HG4.out, by omega⟩, rfl⟩ | exact ⟨_, _, _, _, _, _, _, _, _, _, _, _, _, _, _, _, _, _, _, _, _, _, _, _, ⟨q, j + 1, ys, by omega, by omega, rfl, by go_num, by omega, hyl, fun i hi => HYX.out i (by omega), HST.out, HR4.out, HG4.out, by omega⟩, rfl⟩
        · have hpr' : pr (a1, a2) = false := by simpa using hpr
          have hst := HNX.out
          simp only [hpr', Bool.not_false, if_true] at hst
          rw [hpr']
          have hq4 := hrow4 q (by omega)
          have d1 := hq4.1.1
          have d2 := hq4.2.1
          have z1 := hq4.1.2
          have z2 := hq4.2.2
          have HST := Lib.hid hst
          have HR4 := Lib.hid hrow4
          have HG4 := Lib.hid hgw4
          clear hst hrow4 hgw4 hgr4 hq4
          go_wp2_with fail
          go_roundw
          case measure =>
            simp [intOf]
            omega
          case rel =>
            have hyx' : ∀ i, j + 1 ≤ i → (ys.set q (a1, a2))[i]? = xs[i]? := fun i hi => by
              rw [List.getElem?_set_ne (by omega)]
              exact HYX.out i (by omega)
            have hsq' : (xs.take (j + 1)).filter (fun x => !pr x) = (ys.set q (a1, a2)).take (q + 1) := by
              rw [HST.out, List.take_succ_eq_append_getElem (by rw [List.length_set]; omega), List.take_set_of_le (Nat.le_refl q)]
              simp
            have hrow' := HR4.out.set (i := q) (by omega) a1 a2
            have hgw' := (HG4.out.setCell (p := ⟨B, q * 2, none⟩) hB0 (.int .i64 a1)).setCell (p := ⟨B, q * 2 + 1, none⟩) hB0 (.int .i64 a2)
            exact ⟨_, _, _, _, _, _, _, _, _, _, _, _, _, _, _, _, _, _, _, _, _, _, _, ⟨q + 1, j + 1, ys.set q (a1, a2), by omega, by omega, by go_num, by go_num, by omega, by rw [List.length_set]; exact hyl, hyx', hsq', hrow', hgw', by simp; omega⟩, rfl⟩
      · have hjn' : j = xs.length := by omega
        have hsqx := HSQ.out
        rw [List.take_of_length_le (by omega)] at hsqx
        have hql : q < xs.length := by omega
        have hcl := run_clear_places wr 0 B (q * 2) (xs.length - q) (cap - q) (by omega) (fun j hj => by
          have hh := HROW.out (q + j / 2) (by omega)
          rcases Nat.mod_two_eq_zero_or_one j with e | e
          · rw [show q * 2 + j = (q + j / 2) * 2 by omega, hh.1.1]
            rfl
          · rw [show q * 2 + j = (q + j / 2) * 2 + 1 by omega, hh.2.1]
            rfl) (fun j hj => by
          have hh := HROW.out (q + j / 2) (by omega)
          rcases Nat.mod_two_eq_zero_or_one j with e | e
          · rw [show q * 2 + j = (q + j / 2) * 2 by omega, hh.1.2]
          · rw [show q * 2 + j = (q + j / 2) * 2 + 1 by omega, hh.2.2])
        have HX := Lib.hid hsqx
        clear hsqx
        go_wp2_with fail
        go_ret
        have hlen : (ys.take q).length = q := by
          rw [List.length_take]
          omega
        have hout := World.cell?_setCells_out B (List.replicate ((xs.length - q) * 2) (.int .i64 0)) (q * 2) wr
        have hfro := World.frozen?_setCells B (List.replicate ((xs.length - q) * 2) (.int .i64 0)) (q * 2) wr
        have hgx : GrX (fun i => i = B) wr (wr.setCells B (q * 2) (List.replicate ((xs.length - q) * 2) (.int .i64 0))) := GrX.setCells B _ _ wr rfl
        refine ⟨by rw [HX.out, hlen]; rfl, ?_, hgx.gr HGW.out (fun k hk => by rw [hk]; exact hB0), Nat.le_trans hsz hgx.2.2.2.1⟩
        rw [HX.out]
        intro i hi
        rw [hlen] at hi
        have hh := HROW.out i (by omega)
        rw [List.getElem_take]
        exact ⟨⟨(hout _ (fun _ _ => Or.inl (by show i * 2 < q * 2; omega))).trans hh.1.1, (hfro _).trans hh.1.2⟩, ⟨(hout _ (fun _ _ => Or.inl (by show i * 2 + 1 < q * 2; omega))).trans hh.2.1, (hfro _).trans hh.2.2⟩⟩
end Go.Proofs.Ytkdplnbdhkckhaa
