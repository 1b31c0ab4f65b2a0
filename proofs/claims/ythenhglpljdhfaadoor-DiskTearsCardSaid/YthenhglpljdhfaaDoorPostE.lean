/-
  The contract of the reference's ReadPlaces.
-/
import Derived.Test.YthenhglpljdhfaaDoorPostD
namespace Go.Proofs.YthenhglpljdhfaaDoor
open Go Go.RowKit

def cellsN (ns : List Nat) : List Value := ns.map fun (n : Nat) => Value.int .i64 (n : Int)
/-- Numbers of the call's own. -/
def OwnN (a0 w : World) (v : Value) (ns : List Nat) : Prop := w.ownsRow a0.heap.size 3 1 v ns.length (cellsN ns)
theorem OwnN.row {a0 w : World} {v : Value} {ns : List Nat} (h : OwnN a0 w v ns) : w.ownsRow a0.heap.size 3 1 v ns.length (cellsN ns) := h
theorem info_int : (Tryd.prog.info? 3).map (fun i => (i.zero, i.size, i.bytes)) = some (some (.int .i64 0), 1, 8) := by kernel_rfl
theorem ownN_snoc {a0 w : World} {v : Value} {ns : List Nat} {n : Nat} {q : Int} (hq : q = (n : Int)) (h : w.ownsRow a0.heap.size 3 1 v (ns.length + 1) (cellsN ns ++ [.int .i64 q])) : OwnN a0 w v (ns ++ [n]) := by
  subst hq
  unfold OwnN
  have e : cellsN (ns ++ [n]) = cellsN ns ++ [.int .i64 (n : Int)] := by unfold cellsN; rw [List.map_append]; simp
  rw [e, List.length_append]
  exact h
def NumsAt (w : World) (b : Nat) (ns : List Nat) : Prop := ∀ i (h : i < ns.length), w.cell? ⟨b, i, none⟩ = some (.int .i64 (ns[i] : Int))
theorem OwnN.nums {a0 w : World} {v : Value} {ns : List Nat} (h : OwnN a0 w v ns) : ∃ ao b c, v = .slice ao ns.length c ∧ (0 < ns.length → ao = some ⟨b, 0, none⟩) ∧ (0 < ns.length → b < w.heap.size ∧ a0.heap.size ≤ b) ∧ NumsAt w b ns := by
  have hc := fun g hg => World.ownsRow.cells (g := g) h.row hg
  have hlt := ownBlock_lt h.row
  have hge := ownBlock_ge h.row
  rcases h.row.2 with ⟨rfl, h0⟩ | ⟨g, cap, cur, rfl, _⟩
  · have h0' : ns.length = 0 := h0
    exact ⟨none, 0, 0, by rw [h0'], fun h => by omega, fun h => by omega, fun i hi => by omega⟩
  · refine ⟨_, g, cap, rfl, fun _ => rfl, fun _ => ⟨hlt g rfl, hge g rfl⟩, fun i hi => ?_⟩
    have c1 := hc g rfl i (.int .i64 (ns[i] : Int)) (by unfold cellsN; simp [hi])
    have e : ∀ j, (⟨g, 0, none⟩ : Addr).add j = ⟨g, 0 + j, none⟩ := by
      intro j; unfold Addr.add; split <;> simp_all
    rw [e, Nat.zero_add] at c1
    exact c1
/-- What ref.ReadPlaces hands back. -/
def RPReadPost (w : World) (l : List UInt8) (e : Ending) (w' : World) : Prop :=
  match readP l with
  | none => e = .returned (.tuple #[.slice none 0 0, .int .i64 3]) ∧ Gr w w'
  | some xs => ∃ v, e = .returned (.tuple #[v, .int .i64 0]) ∧ OwnP w w' v xs ∧ Gr w w'
theorem readP_nums {l : List UInt8} (h : numsL l = none) : readP l = none := by apply readP_none; unfold rdL; rw [h]; rfl

theorem nums_more {l : List UInt8} {p q v : Nat} {ns : List Nat} (h : numsL l = (numsL (l.drop p)).map (ns ++ ·)) (hg : get5 (l.drop p) = some (v, (l.drop p).drop (q + 1))) : numsL l = (numsL (l.drop (p + q + 1))).map ((ns ++ [v]) ++ ·) := by
  rw [h, numsL_some hg, Option.map_map, List.drop_drop, ← Nat.add_assoc]
  refine Option.map_congr fun x _ => ?_
  simp
theorem NumsAt.far {w : World} {b L o : Nat} {ns : List Nat} {u : Value} (h : NumsAt w b ns) (hb : 0 < ns.length → b ≠ L) : NumsAt (w.setCell ⟨L, o, none⟩ u) b ns := fun i hi => cell_far (hb (by omega)) (h i hi)
theorem NumsAt.moved {w w' : World} {v v' : Value} {b : Nat} {ns : List Nat} (h : NumsAt w b ns) (m : Moved v v' w w') (hb : 0 < ns.length → v.ownBlock ≠ some b) : NumsAt w' b ns := fun i hi => m.keeps (hb (by omega)) (h i hi)
theorem pl_even {ns : List Nat} {us : List GPlace} {a1 a2 : Int} {j : Nat} (hj : j < ns.length) (h : placesL (0, 0) ns = (placesL (a1, a2) (ns.drop j)).map (us ++ ·)) (he : ns[j] % 2 = 0) :
    placesL (0, 0) ns = (placesL (a1, a2 + (ns[j] : Int) / 2) (ns.drop (j + 1))).map ((us ++ [(a1, a2 + (ns[j] : Int) / 2)]) ++ ·) := by
  rw [h, List.drop_eq_getElem_cons hj, placesL_even _ _ _ he, Option.map_map, show ((ns[j] / 2 : Nat) : Int) = (ns[j] : Int) / 2 by omega]
  refine Option.map_congr fun x _ => ?_
  simp
theorem pl_odd {ns : List Nat} {us : List GPlace} {a1 a2 : Int} {j : Nat} (hj : j + 1 < ns.length) (h : placesL (0, 0) ns = (placesL (a1, a2) (ns.drop j)).map (us ++ ·)) (he : ¬ ns[j] % 2 = 0) :
    placesL (0, 0) ns = (placesL (a1 + (ns[j] : Int) / 2, (ns[j + 1] : Int)) (ns.drop (j + 2))).map ((us ++ [(a1 + (ns[j] : Int) / 2, (ns[j + 1] : Int))]) ++ ·) := by
  rw [h, List.drop_eq_getElem_cons (by omega), List.drop_eq_getElem_cons hj, placesL_odd _ _ _ _ he, Option.map_map, show ((ns[j] / 2 : Nat) : Int) = (ns[j] : Int) / 2 by omega]
  refine Option.map_congr fun x _ => ?_
  simp
theorem pl_bad {ns : List Nat} {us : List GPlace} {a : GPlace} {j : Nat} {l : List UInt8} (hj : j + 1 = ns.length) (hn : numsL l = some ns) (h : placesL (0, 0) ns = (placesL a (ns.drop j)).map (us ++ ·)) (he : ¬ (ns[j]'(by omega)) % 2 = 0) : readP l = none := by
  apply readP_none
  unfold rdL
  rw [hn]
  show placesL (0, 0) ns = none
  rw [h, List.drop_eq_getElem_cons (by omega), List.drop_of_length_le (by omega), placesL_one _ _ he]
  rfl
theorem get5_lt {l r : List UInt8} {n : Nat} (h : get5 l = some (n, r)) : n < 34359738368 := by
  have := getF_le 5 _ _ _ h
  rw [show 128 ^ 5 = 34359738368 by decide] at this
  exact this
set_option maxRecDepth 100000 in
set_option maxHeartbeats 3200000 in
theorem read_rp (s : ByteArray) (hs : s.size ≤ 1000000) (w : World) : Calls Tryd.prog 25 #[.string s] w (RPReadPost w s.data.toList) := by
  obtain ⟨i0, hi, hz0, hz1, hz2⟩ := info_parts info_place
  obtain ⟨j0, hj, hy0, hy1, hy2⟩ := info_parts info_int
  go_enter Tryd.func25, Tryd.ntmps25
  go_wp2_with fail
  go_loopw [5, 4] (fun i u w' => ∃ (p : Nat) (ns : List Nat), p ≤ s.size ∧ ns.length ≤ p ∧ i = .int .i64 p ∧ Gr w w' ∧ OwnN w w' u ns ∧ numsL s.data.toList = (numsL (s.data.toList.drop p)).map (ns ++ ·) ∧ ∀ n ∈ ns, n < 34359738368) (fun i _ _ => s.size - (intOf i).toNat)
  case atStart => exact ⟨0, [], Nat.zero_le _, Nat.le_refl _, rfl, Gr.refl _, ⟨rfl, .inl ⟨rfl, rfl⟩⟩, by simp, by simp⟩
  case round =>
    obtain ⟨p, ns, hp, hnl, rfl, hg, ho, hnums, hnb⟩ := hrel
    have HO := Lib.hid ho
    have HN := Lib.hid hnums
    have HB := Lib.hid hnb
    clear ho hnums hnb
    by_cases hlp : p < s.size
    · have hpl : (p : Int) < (s.size : Int) := by omega
      go_wp2_with fail
      go_loop [5, 6, 7] (fun i n k => ∃ q m : Nat, q ≤ 5 ∧ p + q ≤ s.size ∧ i = .int .i64 ((p + q : Nat) : Int) ∧ n = .int .i64 m ∧ k = .int .i64 q ∧ GInv (s.data.toList.drop p) q m) (fun _ _ k => 5 - (intOf k).toNat)
      case atStart => exact ⟨0, 0, by omega, by omega, rfl, rfl, rfl, ginv_zero _⟩
      case round =>
        obtain ⟨q, m, hq5, hqs, rfl, rfl, rfl, hgi⟩ := hrel
        have HG := Lib.hid hgi
        have hm := hgi.1
        clear hgi
        by_cases hin : q < 5 ∧ p + q < s.size
        · obtain ⟨hq, hlt⟩ := hin
          have hlt' : ((p + q : Nat) : Int) < (s.size : Int) := by omega
          have hc8 := UInt8.toNat_lt s[p + q]
          have hcl : s[p + q] = (s.data.toList.drop p)[q]'(by rw [List.length_drop, ← size_data]; omega) := by rw [get_data s (p + q) hlt, List.getElem_drop]
          have hdl : q < (s.data.toList.drop p).length := by rw [List.length_drop, ← size_data]; omega
          generalize hcc : s[p + q] = cc at *
          have HCL := Lib.hid hcl
          clear hcl
          cases h128 : decide ((128 : Int) ≤ (cc.toNat : Int))
          · have h128' := of_decide_eq_false h128
            rcases (show q = 0 ∨ q = 1 ∨ q = 2 ∨ q = 3 ∨ q = 4 by omega) with rfl | rfl | rfl | rfl | rfl
            · simp only [Nat.add_zero, Nat.reducePow] at hcc hm
              have hnl : ((p : Int) == (s.size : Int)) = false := by simp; omega
              go_wp2_with (at_builtin; refine append_one (a0 := w) rfl _ _ 51 rfl 3 j0 (.int .i64 0) 1 8 Tryd.underlying51 hj hy0 hy1 hy2 rfl (by decide) _ _ _ rfl (OwnN.row HO.out) [_] rfl (by simp; rfl) rfl hg (by omega) (by omega) ?_; intro v4 w4 hown4 hg4)
              have hht := ginv_hit HG.out (by omega) hdl (by rw [← HCL.out]; omega)
              rw [← HCL.out] at hht
              have hvl := get5_lt hht
              have hmo := nums_more HN.out hht
              refine ⟨⟨p + 0 + 1, ns ++ [m + 128 ^ 0 * cc.toNat], by omega, by rw [List.length_append]; simp only [List.length_cons, List.length_nil]; omega, by go_num, hg4, ownN_snoc (by simp only [Nat.reducePow]; omega) hown4, hmo, fun n hn => ?_⟩, by simp [intOf]; omega⟩
              rcases List.mem_append.1 hn with h | h
              · exact HB.out n h
              · rw [List.mem_singleton.1 h]; exact hvl
            · simp only [Nat.add_zero, Nat.reducePow] at hcc hm
              have hnl : ((p : Int) + 1 == (s.size : Int)) = false := by simp; omega
              go_wp2_with (at_builtin; refine append_one (a0 := w) rfl _ _ 51 rfl 3 j0 (.int .i64 0) 1 8 Tryd.underlying51 hj hy0 hy1 hy2 rfl (by decide) _ _ _ rfl (OwnN.row HO.out) [_] rfl (by simp; rfl) rfl hg (by omega) (by omega) ?_; intro v4 w4 hown4 hg4)
              have hht := ginv_hit HG.out (by omega) hdl (by rw [← HCL.out]; omega)
              rw [← HCL.out] at hht
              have hvl := get5_lt hht
              have hmo := nums_more HN.out hht
              refine ⟨⟨p + 1 + 1, ns ++ [m + 128 ^ 1 * cc.toNat], by omega, by rw [List.length_append]; simp only [List.length_cons, List.length_nil]; omega, by go_num, hg4, ownN_snoc (by simp only [Nat.reducePow]; omega) hown4, hmo, fun n hn => ?_⟩, by simp [intOf]; omega⟩
              rcases List.mem_append.1 hn with h | h
              · exact HB.out n h
              · rw [List.mem_singleton.1 h]; exact hvl
            · simp only [Nat.add_zero, Nat.reducePow] at hcc hm
              have hnl : ((p : Int) + 2 == (s.size : Int)) = false := by simp; omega
              go_wp2_with (at_builtin; refine append_one (a0 := w) rfl _ _ 51 rfl 3 j0 (.int .i64 0) 1 8 Tryd.underlying51 hj hy0 hy1 hy2 rfl (by decide) _ _ _ rfl (OwnN.row HO.out) [_] rfl (by simp; rfl) rfl hg (by omega) (by omega) ?_; intro v4 w4 hown4 hg4)
              have hht := ginv_hit HG.out (by omega) hdl (by rw [← HCL.out]; omega)
              rw [← HCL.out] at hht
              have hvl := get5_lt hht
              have hmo := nums_more HN.out hht
              refine ⟨⟨p + 2 + 1, ns ++ [m + 128 ^ 2 * cc.toNat], by omega, by rw [List.length_append]; simp only [List.length_cons, List.length_nil]; omega, by go_num, hg4, ownN_snoc (by simp only [Nat.reducePow]; omega) hown4, hmo, fun n hn => ?_⟩, by simp [intOf]; omega⟩
              rcases List.mem_append.1 hn with h | h
              · exact HB.out n h
              · rw [List.mem_singleton.1 h]; exact hvl
            · simp only [Nat.add_zero, Nat.reducePow] at hcc hm
              have hnl : ((p : Int) + 3 == (s.size : Int)) = false := by simp; omega
              go_wp2_with (at_builtin; refine append_one (a0 := w) rfl _ _ 51 rfl 3 j0 (.int .i64 0) 1 8 Tryd.underlying51 hj hy0 hy1 hy2 rfl (by decide) _ _ _ rfl (OwnN.row HO.out) [_] rfl (by simp; rfl) rfl hg (by omega) (by omega) ?_; intro v4 w4 hown4 hg4)
              have hht := ginv_hit HG.out (by omega) hdl (by rw [← HCL.out]; omega)
              rw [← HCL.out] at hht
              have hvl := get5_lt hht
              have hmo := nums_more HN.out hht
              refine ⟨⟨p + 3 + 1, ns ++ [m + 128 ^ 3 * cc.toNat], by omega, by rw [List.length_append]; simp only [List.length_cons, List.length_nil]; omega, by go_num, hg4, ownN_snoc (by simp only [Nat.reducePow]; omega) hown4, hmo, fun n hn => ?_⟩, by simp [intOf]; omega⟩
              rcases List.mem_append.1 hn with h | h
              · exact HB.out n h
              · rw [List.mem_singleton.1 h]; exact hvl
            · simp only [Nat.add_zero, Nat.reducePow] at hcc hm
              have hnl : ((p : Int) + 4 == (s.size : Int)) = false := by simp; omega
              go_wp2_with (at_builtin; refine append_one (a0 := w) rfl _ _ 51 rfl 3 j0 (.int .i64 0) 1 8 Tryd.underlying51 hj hy0 hy1 hy2 rfl (by decide) _ _ _ rfl (OwnN.row HO.out) [_] rfl (by simp; rfl) rfl hg (by omega) (by omega) ?_; intro v4 w4 hown4 hg4)
              have hht := ginv_hit HG.out (by omega) hdl (by rw [← HCL.out]; omega)
              rw [← HCL.out] at hht
              have hvl := get5_lt hht
              have hmo := nums_more HN.out hht
              refine ⟨⟨p + 4 + 1, ns ++ [m + 128 ^ 4 * cc.toNat], by omega, by rw [List.length_append]; simp only [List.length_cons, List.length_nil]; omega, by go_num, hg4, ownN_snoc (by simp only [Nat.reducePow]; omega) hown4, hmo, fun n hn => ?_⟩, by simp [intOf]; omega⟩
              rcases List.mem_append.1 hn with h | h
              · exact HB.out n h
              · rw [List.mem_singleton.1 h]; exact hvl
          · have h128' := of_decide_eq_true h128
            rcases (show q = 0 ∨ q = 1 ∨ q = 2 ∨ q = 3 ∨ q = 4 by omega) with rfl | rfl | rfl | rfl | rfl
            · simp only [Nat.add_zero, Nat.reducePow] at hcc hm
              go_wp2_with fail
              have hst := ginv_step HG.out (by omega) hdl (by rw [← HCL.out]; omega)
              rw [← HCL.out] at hst
              refine ⟨⟨1, m + 128 ^ 0 * (cc.toNat - 128), by omega, by omega, by go_num, ?_, rfl, hst⟩, by simp [intOf]⟩
              simp only [Nat.reducePow]
              congr 1
              omega
            · simp only [Nat.add_zero, Nat.reducePow] at hcc hm
              go_wp2_with fail
              have hst := ginv_step HG.out (by omega) hdl (by rw [← HCL.out]; omega)
              rw [← HCL.out] at hst
              refine ⟨⟨2, m + 128 ^ 1 * (cc.toNat - 128), by omega, by omega, by go_num, ?_, rfl, hst⟩, by simp [intOf]⟩
              simp only [Nat.reducePow]
              congr 1
              omega
            · simp only [Nat.add_zero, Nat.reducePow] at hcc hm
              go_wp2_with fail
              have hst := ginv_step HG.out (by omega) hdl (by rw [← HCL.out]; omega)
              rw [← HCL.out] at hst
              refine ⟨⟨3, m + 128 ^ 2 * (cc.toNat - 128), by omega, by omega, by go_num, ?_, rfl, hst⟩, by simp [intOf]⟩
              simp only [Nat.reducePow]
              congr 1
              omega
            · simp only [Nat.add_zero, Nat.reducePow] at hcc hm
              go_wp2_with fail
              have hst := ginv_step HG.out (by omega) hdl (by rw [← HCL.out]; omega)
              rw [← HCL.out] at hst
              refine ⟨⟨4, m + 128 ^ 3 * (cc.toNat - 128), by omega, by omega, by go_num, ?_, rfl, hst⟩, by simp [intOf]⟩
              simp only [Nat.reducePow]
              congr 1
              omega
            · simp only [Nat.add_zero, Nat.reducePow] at hcc hm
              go_wp2_with fail
              have hst := ginv_step HG.out (by omega) hdl (by rw [← HCL.out]; omega)
              rw [← HCL.out] at hst
              refine ⟨⟨5, m + 128 ^ 4 * (cc.toNat - 128), by omega, by omega, by go_num, ?_, rfl, hst⟩, by simp [intOf]⟩
              simp only [Nat.reducePow]
              congr 1
              omega
        · have hout : get5 (s.data.toList.drop p) = none := ginv_out HG.out (by rw [List.length_drop, ← size_data]; omega)
          have hrp : readP s.data.toList = none := readP_nums (by rw [HN.out, numsL_none (by intro e; have := congrArg List.length e; rw [List.length_drop, ← size_data] at this; simp at this; omega) hout]; rfl)
          have HRP := Lib.hid hrp
          clear hrp hout
          rcases (show q = 5 ∨ (q < 5 ∧ p + q = s.size) by omega) with rfl | ⟨hq, hqs'⟩
          · by_cases hpe : p + 5 = s.size
            · have e1 : ((p + 5 : Nat) : Int) = (s.size : Int) := by omega
              go_wp2_with fail
              refine bodyPost_ret (v := .tuple #[.slice none 0 0, .int .i64 3]) (by simp [results, Tryd.results25, go_sem]) rfl ?_
              unfold RPReadPost
              rw [HRP.out]
              exact ⟨rfl, hg⟩
            · have e1 : ((p + 5 : Nat) : Int) < (s.size : Int) := by omega
              have e2 : ((p : Int) + 5 == (s.size : Int)) = false := by simp; omega
              cases h128 : decide ((128 : Int) ≤ (s[p + 5].toNat : Int))
              · go_wp2_with fail
                refine bodyPost_ret (v := .tuple #[.slice none 0 0, .int .i64 3]) (by simp [results, Tryd.results25, go_sem]) rfl ?_
                unfold RPReadPost
                rw [HRP.out]
                exact ⟨rfl, hg⟩
              · go_wp2_with fail
                refine bodyPost_ret (v := .tuple #[.slice none 0 0, .int .i64 3]) (by simp [results, Tryd.results25, go_sem]) rfl ?_
                unfold RPReadPost
                rw [HRP.out]
                exact ⟨rfl, hg⟩
          · have e1 : ((p : Int) + (q : Int)) = (s.size : Int) := by omega
            go_wp2_with fail
            refine bodyPost_ret (v := .tuple #[.slice none 0 0, .int .i64 3]) (by simp [results, Tryd.results25, go_sem]) rfl ?_
            unfold RPReadPost
            rw [HRP.out]
            exact ⟨rfl, hg⟩
    · obtain rfl : p = s.size := by omega
      have hall : numsL s.data.toList = some ns := by rw [HN.out, List.drop_of_length_le (by rw [← size_data]; omega), numsL_nil]; simp
      have HALL := Lib.hid hall
      clear hall
      obtain ⟨ao, b, c, rfl, hao, hblt, hnat⟩ := OwnN.nums HO.out
      have HA := Lib.hid hao
      have HBL := Lib.hid hblt
      have HNA := Lib.hid hnat
      clear hao hblt hnat
      go_wp2_with fail
      have hgL := hg.alloc (.cells #[.int .i64 0, .int .i64 0] 47)
      have q0 : (wr.alloc (.cells #[.int .i64 0, .int .i64 0] 47)).cell? ⟨wr.heap.size, 0, none⟩ = some (.int .i64 0) := by rw [World.cell?_alloc_new]; rfl
      have q1 : (wr.alloc (.cells #[.int .i64 0, .int .i64 0] 47)).cell? ⟨wr.heap.size, 1, none⟩ = some (.int .i64 0) := by rw [World.cell?_alloc_new]; rfl
      have z0 : ∀ o, (wr.alloc (.cells #[.int .i64 0, .int .i64 0] 47)).frozen? ⟨wr.heap.size, o, none⟩ = false := fun o => by simp
      have hL1 : wr.heap.size < (wr.alloc (.cells #[.int .i64 0, .int .i64 0] 47)).heap.size := by simp
      have hna0 : NumsAt (wr.alloc (.cells #[.int .i64 0, .int .i64 0] 47)) b ns := fun i hi => ((Gr.refl wr).alloc _).keeps (HNA.out i hi)
      generalize (wr.alloc (.cells #[.int .i64 0, .int .i64 0] 47)) = W0 at *
      have hL0 := hg.size
      have hbL : 0 < ns.length → b ≠ wr.heap.size := fun h => Nat.ne_of_lt (HBL.out h).1
      have HBN := Lib.hid hbL
      generalize wr.heap.size = L at *
      have HQ := Lib.hid (And.intro q0 (And.intro q1 z0))
      have HNA0 := Lib.hid hna0
      clear q0 q1 z0 HNA hbL hna0
      go_loopw [10, 8] (fun i u w' => ∃ (j : Nat) (us : List GPlace) (a : GPlace), j ≤ ns.length ∧ us.length ≤ j ∧ i = .int .i64 j ∧ Gr w w' ∧ OwnP w w' u us ∧ u.ownBlock ≠ some L ∧ L < w'.heap.size ∧ (0 < ns.length → u.ownBlock ≠ some b) ∧ NumsAt w' b ns ∧
        (w'.cell? ⟨L, 0, none⟩ = some (.int .i64 a.1) ∧ w'.cell? ⟨L, 1, none⟩ = some (.int .i64 a.2) ∧ ∀ o, w'.frozen? ⟨L, o, none⟩ = false) ∧
        (0 ≤ a.1 ∧ a.1 ≤ 34359738368 * j ∧ 0 ≤ a.2 ∧ a.2 ≤ 34359738368 * (j + 1)) ∧ placesL (0, 0) ns = (placesL a (ns.drop j)).map (us ++ ·)) (fun i _ _ => ns.length - (intOf i).toNat)
      case atStart => exact ⟨0, [], (0, 0), Nat.zero_le _, Nat.le_refl _, rfl, hgL, ⟨rfl, .inl ⟨rfl, rfl⟩⟩, by simp [Value.ownBlock], hL1, fun _ => by simp [Value.ownBlock], HNA0.out, HQ.out, by simp, by simp⟩
      case round =>
        obtain ⟨j, us, ⟨a1, a2⟩, hj, hul2, rfl, hg, ho, hul, hlL, hub, hna, ⟨q0, q1, z⟩, hbd, hpl⟩ := hrel
        have HOP := Lib.hid ho
        have HPL := Lib.hid hpl
        have HNW := Lib.hid hna
        have HUB := Lib.hid hub
        clear ho hpl hna hub
        simp only at q0 q1 hbd
        have zz0 := z 0
        have zz1 := z 1
        by_cases hlt : j < ns.length
        · obtain rfl := HA.out (by omega)
          have hn0 := HNW.out j hlt
          have hnb := HB.out ns[j] (List.getElem_mem hlt)
          have hubb := HUB.out (by omega)
          by_cases hodd : ns[j] % 2 = 0
          · have hpe := pl_even hlt HPL.out hodd
            have hme : ((ns[j] : Int) % 2 == 0) = true := by simp; omega
            generalize hnn : ns[j] = n at *
            have HPE := Lib.hid hpe
            clear hpe
            have ho1 := ownsRow_gr (ownsRow_setCell_at (OwnP.row HOP.out) (a := ⟨L, 1, none⟩) (u := .int .i64 (a2 + (n : Int) / 2)) hul) ((Gr.refl _).drew)
            have hgw := (hg.setCell (p := ⟨L, 1, none⟩) hL0 (.int .i64 (a2 + (n : Int) / 2))).drew
            have tw0 := ((Gr.refl _).drew).keeps (show (wr.setCell ⟨L, 1, none⟩ (.int .i64 (a2 + (n : Int) / 2))).cell? ⟨L, 0, none⟩ = some (.int .i64 a1) from (World.cell?_setCell_other _ _ _ _ (by simp)).trans q0)
            have tw1 := ((Gr.refl _).drew).keeps (show (wr.setCell ⟨L, 1, none⟩ (.int .i64 (a2 + (n : Int) / 2))).cell? ⟨L, 1, none⟩ = some (.int .i64 (a2 + (n : Int) / 2)) from World.cell?_setCell_same _ _ _ q1)
            have tn : NumsAt (wr.setCell ⟨L, 1, none⟩ (.int .i64 (a2 + (n : Int) / 2))).drew b ns := fun i hi => ((Gr.refl _).drew).keeps (HNW.out.far HBN.out i hi)
            have HTN := Lib.hid tn
            clear tn
            go_wp2_with fail
            go_region
            go_wp2_with (at_builtin; refine append_moved' (a0 := w) rfl _ _ 30 rfl 47 i0 (.agg #[.int .i64 0, .int .i64 0]) 2 16 Tryd.underlying30 hi hz0 hz1 hz2 rfl (by decide) _ _ _ rfl ho1 [_, _] rfl (placeCells_one _ _) wr.heap.size (by simp) rfl hgw (by omega) (by omega) ?_; intro v4 w4 hown4 hg4 hmv4)
            have hmL := hmv4.2 L (by simp; omega) hul
            have hm1 := hmv4.1
            simp only [World.size_drew, World.size_setCell] at hm1
            refine ⟨⟨j + 1, us ++ [(a1, a2 + (n : Int) / 2)], (a1, a2 + (n : Int) / 2), by omega, by rw [List.length_append]; simp only [List.length_cons, List.length_nil]; omega, by go_num, hg4, ownP_snoc (x := (a1, a2 + (n : Int) / 2)) hown4, hmL.1, by omega, fun h => (hmv4.2 b (by simp; have := (HBL.out h).1; omega) (HUB.out h)).1, HTN.out.moved hmv4 HUB.out, ⟨hmv4.keeps hul tw0, hmv4.keeps hul tw1, fun o => (hmL.2 o).2.trans (by simpa using z o)⟩, by simp only; omega, HPE.out⟩, by simp [intOf]; omega⟩
          · have hme : ((ns[j] : Int) % 2 == 0) = false := by simp; omega
            by_cases hlast : j + 1 = ns.length
            · have HRP := Lib.hid (pl_bad hlast HALL.out HPL.out hodd)
              have hle : ((j : Int) + 1 == (ns.length : Int)) = true := by simp; omega
              generalize hnn : ns[j] = n at *
              go_wp2_with fail
              refine bodyPost_ret (v := .tuple #[.slice none 0 0, .int .i64 3]) (by simp [results, Tryd.results25, go_sem]) rfl ?_
              unfold RPReadPost
              rw [HRP.out]
              exact ⟨rfl, hg⟩
            · have hlt2 : j + 1 < ns.length := by omega
              have hpo := pl_odd hlt2 HPL.out hodd
              have hn1 := HNW.out (j + 1) hlt2
              have hnb1 := HB.out ns[j + 1] (List.getElem_mem hlt2)
              have hle : ((j : Int) + 1 == (ns.length : Int)) = false := by simp; omega
              generalize hnn : ns[j] = n at *
              generalize hnn1 : ns[j + 1] = n1 at *
              have HPO := Lib.hid hpo
              clear hpo
              have tw := two_set (u := .int .i64 (a1 + (n : Int) / 2)) (v := .int .i64 (n1 : Int)) q0 q1
              have ho1 := ownsRow_gr (ownsRow_setCell_at (ownsRow_setCell_at (OwnP.row HOP.out) (a := ⟨L, 0, none⟩) (u := .int .i64 (a1 + (n : Int) / 2)) hul) (a := ⟨L, 1, none⟩) (u := .int .i64 (n1 : Int)) hul) ((Gr.refl _).drew)
              have hgw := ((hg.setCell (p := ⟨L, 0, none⟩) hL0 (.int .i64 (a1 + (n : Int) / 2))).setCell (p := ⟨L, 1, none⟩) hL0 (.int .i64 (n1 : Int))).drew
              have tw0 := ((Gr.refl _).drew).keeps tw.1
              have tw1 := ((Gr.refl _).drew).keeps tw.2
              have tn : NumsAt ((wr.setCell ⟨L, 0, none⟩ (.int .i64 (a1 + (n : Int) / 2))).setCell ⟨L, 1, none⟩ (.int .i64 (n1 : Int))).drew b ns := fun i hi => ((Gr.refl _).drew).keeps ((HNW.out.far HBN.out).far HBN.out i hi)
              have HTN := Lib.hid tn
              clear tn
              go_wp2_with fail
              go_region
              go_wp2_with (at_builtin; refine append_moved' (a0 := w) rfl _ _ 30 rfl 47 i0 (.agg #[.int .i64 0, .int .i64 0]) 2 16 Tryd.underlying30 hi hz0 hz1 hz2 rfl (by decide) _ _ _ rfl ho1 [_, _] rfl (placeCells_one _ _) wr.heap.size (by simp) rfl hgw (by omega) (by omega) ?_; intro v4 w4 hown4 hg4 hmv4)
              have hmL := hmv4.2 L (by simp; omega) hul
              have hm1 := hmv4.1
              simp only [World.size_drew, World.size_setCell] at hm1
              refine ⟨⟨j + 2, us ++ [(a1 + (n : Int) / 2, (n1 : Int))], (a1 + (n : Int) / 2, (n1 : Int)), by omega, by rw [List.length_append]; simp only [List.length_cons, List.length_nil]; omega, by go_num, hg4, ownP_snoc (x := (a1 + (n : Int) / 2, (n1 : Int))) hown4, hmL.1, by omega, fun h => (hmv4.2 b (by simp; have := (HBL.out h).1; omega) (HUB.out h)).1, HTN.out.moved hmv4 HUB.out, ⟨hmv4.keeps hul tw0, hmv4.keeps hul tw1, fun o => (hmL.2 o).2.trans (by simpa using z o)⟩, by simp only; omega, HPO.out⟩, by simp [intOf]; omega⟩
        · have hus : rdL (0, 0) s.data.toList = some us := by
            unfold rdL
            rw [HALL.out]
            show placesL (0, 0) ns = some us
            rw [HPL.out, List.drop_of_length_le (by omega), placesL_nil]
            simp
          have HUS := Lib.hid hus
          clear hus
          obtain ⟨ao2, bb, cc, rfl, hao2, hpl2⟩ := OwnP.places HOP.out
          have HA2 := Lib.hid hao2
          have HP2 := Lib.hid hpl2
          clear hao2 hpl2
          go_wp2_with fail
          refine (write_ref us bb 0 cc ao2 HA2.out (by omega) _ HP2.out).mono ?_
          rintro e w1 ⟨rfl, hg1⟩
          cases hp : placesB us
          · have hrp : readP s.data.toList = none := by unfold readP; rw [HUS.out]; simp [hp]
            have HRP := Lib.hid hrp
            unfold wN wS
            simp only [hp]
            clear hp hrp
            go_wp2_with fail
            refine bodyPost_ret (v := .tuple #[.slice none 0 0, .int .i64 3]) (by simp [results, Tryd.results25, go_sem]) rfl ?_
            unfold RPReadPost
            rw [HRP.out]
            exact ⟨rfl, hg.trans hg1⟩
          · have hwl : (wS us) = writeP us := by unfold wS; rw [hp]; rfl
            have hwe : wN us = 0 := by unfold wN; rw [hp]; rfl
            rw [hwl, hwe]
            cases hw : writeP us == s.data.toList
            · have hrp : readP s.data.toList = none := by unfold readP; rw [HUS.out]; simp [hp, hw]
              have HRP := Lib.hid hrp
              have hne : (writeP us == s.toList) = false := by rw [ByteArray.toList_eq]; exact hw
              clear hp hrp hwl hwe hw
              go_wp2_with fail
              refine bodyPost_ret (v := .tuple #[.slice none 0 0, .int .i64 3]) (by simp [results, Tryd.results25, go_sem]) rfl ?_
              unfold RPReadPost
              rw [HRP.out]
              exact ⟨rfl, hg.trans hg1⟩
            · have hrp : readP s.data.toList = some us := by unfold readP; rw [HUS.out]; simp [hp, hw]
              have HRP := Lib.hid hrp
              have hws : (⟨(writeP us).toArray⟩ : ByteArray) = s := by apply bytes_ext; simpa using hw
              rw [hws]
              clear hp hrp hwl hwe hws
              go_wp2_with fail
              refine bodyPost_ret (v := .tuple #[.slice ao2 us.length cc, .int .i64 0]) (by simp [results, Tryd.results25, go_sem]) rfl ?_
              unfold RPReadPost
              rw [HRP.out]
              exact ⟨_, rfl, ownsRow_gr (OwnP.row HOP.out) hg1, hg.trans hg1⟩
end Go.Proofs.YthenhglpljdhfaaDoor
