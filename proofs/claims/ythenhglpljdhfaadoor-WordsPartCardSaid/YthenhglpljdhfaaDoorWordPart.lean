/-
  The walk of the law WordsPart: it returns true.
-/
import Derived.Test.YthenhglpljdhfaaDoorWordPartS
import Derived.Test.YthenhglpljdhfaaDoorApp
import Derived.Deep.RegionHeld3
namespace Go.Proofs.YthenhglpljdhfaaDoor
open Go Go.RowKit

theorem StrsAt.cells {w : World} {b off : Nat} {ws : List ByteArray} (h : StrsAt w b off ws) : ∀ j u, (ws.map Value.string)[j]? = some u → w.cell? ⟨b, off + j, none⟩ = some u := by
  intro j u hj
  have hlt : j < ws.length := by simpa using (List.getElem?_eq_some_iff.1 hj).1
  rw [List.getElem?_map, List.getElem?_eq_getElem hlt] at hj
  rw [h j hlt]; exact hj
theorem strs_one (ws : List ByteArray) : ∀ u ∈ ws.map Value.string, u.oneCell' = true := by
  intro u hu
  obtain ⟨x, _, rfl⟩ := List.mem_map.1 hu
  rfl
theorem splitS_le (s : ByteArray) : (splitS s).length ≤ s.size + 1 := by
  rw [splitS_eq, List.length_map, size_data]
  exact runs_length _ _ _
theorem own_two {B : Nat} {w : World} {v : Value} {xs ys : List ByteArray} (h : w.ownsRow B 9 1 v (0 + xs.length + ys.length) ([] ++ xs.map Value.string ++ ys.map Value.string)) :
    ∃ ao c b, v = .slice ao (xs.length + ys.length) c ∧ (0 < (xs ++ ys).length → ao = some ⟨b, 0, none⟩) ∧ StrsAt w b 0 (xs ++ ys) := by
  have h2 : OwnS w B v (xs ++ ys) := by
    show w.ownsRow _ _ 1 v (xs ++ ys).length ((xs ++ ys).map Value.string)
    rw [List.map_append, List.length_append]
    simpa using h
  obtain ⟨ao, c, b, h3, h4, h5⟩ := own_open h2
  exact ⟨ao, c, b, by rw [h3, List.length_append], h4, h5⟩
def markE (k : Nat) : ByteArray := [⟨#[32]⟩, ⟨#[45]⟩, ⟨#[10]⟩, ⟨#[46, 32]⟩, ⟨#[40, 41]⟩].getD k ⟨#[]⟩
theorem mark_at (w : World) (k : Nat) (hk : k < 5) : (w.alloc (Obj.cells #[Value.string { data := #[32] }, Value.string { data := #[45] }, Value.string { data := #[10] }, Value.string { data := #[46, 32] }, Value.string { data := #[40, 41] }] 9)).cell? ⟨w.heap.size, k, none⟩ = some (.string (markE k)) := by
  rw [World.cell?_alloc_new]
  rcases (show k = 0 ∨ k = 1 ∨ k = 2 ∨ k = 3 ∨ k = 4 by omega) with rfl | rfl | rfl | rfl | rfl <;> rfl
theorem mark_fine (k : Nat) (hk : k < 5) : (markE k).data.toList.all (fun c => !letterB c) = true ∧ (markE k).data.toList ≠ [] ∧ (markE k).size ≤ 2 := by
  rcases (show k = 0 ∨ k = 1 ∨ k = 2 ∨ k = 3 ∨ k = 4 by omega) with rfl | rfl | rfl | rfl | rfl <;> exact ⟨by decide +kernel, by decide +kernel, by decide +kernel⟩
theorem mark_sum (a b : ByteArray) (k : Nat) (hk : k < 5) (ha : a.size ≤ 600) (hb : b.size ≤ 600) :
    ∃ m s : ByteArray, (∀ w : World, (Op.stringOp .add a (markE k)).run Tryd.prog w = .ok (.string m) w) ∧ (∀ w : World, (Op.stringOp .add m b).run Tryd.prog w = .ok (.string s) w) ∧ splitS s = splitS a ++ splitS b ∧ s.size ≤ 1202 := by
  obtain ⟨h1, h2, h3⟩ := mark_fine k hk
  refine ⟨a ++ markE k, a ++ markE k ++ b, fun w => run_string_add_sum w _ _ (by omega), fun w => run_string_add_sum w _ _ (by rw [ByteArray.size_append]; omega), splitS_gap a _ b h1 h2, ?_⟩
  rw [ByteArray.size_append, ByteArray.size_append]; omega
theorem same_app (xs ys : List ByteArray) (b off c b' off' c' : Nat) (ao ao' : Option Addr) (hao : 0 < (xs ++ ys).length → ao = some ⟨b, off, none⟩) (hao' : 0 < (xs ++ ys).length → ao' = some ⟨b', off', none⟩) (hl : xs.length + ys.length ≤ 4611686018427387904) (w : World)
    (hc : StrsAt w b off (xs ++ ys)) (hc' : StrsAt w b' off' (xs ++ ys)) :
    Calls Tryd.prog 19 #[.slice ao (xs.length + ys.length) c, .slice ao' (xs.length + ys.length) c'] w (Ret w (.bool true)) := by
  have h := sameTexts_k (xs ++ ys) b off c b' off' c' ao ao' hao hao' (by rw [List.length_append]; exact hl) w hc hc'
  rw [List.length_append] at h
  exact h
theorem fine_n1 {x : ByteArray} (h : FineW x.data.toList) : ((x.size : Int) == 0) = false := by
  have h1 := h.1
  rw [beq_eq_false_iff_ne]
  intro e
  have : x.data.toList.length = 0 := by rw [← size_data]; omega
  exact h1 (List.eq_nil_of_length_eq_zero this)
theorem fine_n2 {x : ByteArray} (h : FineW x.data.toList) (h2 : (12 : Int) < (x.size : Int)) : False := by
  have h1 := h.2.1
  rw [← size_data] at h1
  omega
theorem held_gr {ba j : Nat} {x : ByteArray} {w w1 w2 : World} (h : w1.cell? ⟨ba, j, none⟩ = some (.string x) ∧ Gr w w1) (g : Gr w1 w2) : w2.cell? ⟨ba, j, none⟩ = some (.string x) ∧ Gr w w2 := ⟨g.keeps h.1, h.2.trans g⟩
theorem held_snd {ba j : Nat} {x : ByteArray} {w w1 : World} (h : w1.cell? ⟨ba, j, none⟩ = some (.string x) ∧ Gr w w1) : Gr w w1 := h.2
set_option maxHeartbeats 1600000 in
theorem wordsPart_walk (a b : ByteArray) (gap : Int) (ha : a.size ≤ 9223372036854775807) (hb : b.size ≤ 9223372036854775807) (w : World) (he : EndsAt w) :
    Calls Tryd.prog 4 #[.string a, .string b, .int .i64 gap] w (Ret w (.bool true)) := by
  have HE := Lib.hid he
  clear he
  by_cases h6 : a.size ≤ 600 ∧ b.size ≤ 600 ∧ a.size + b.size ≤ 600
  · obtain ⟨hsa, hsb, hsab⟩ := h6
    go_enter Tryd.func4, Tryd.ntmps4
    go_wp2_with fail
    refine (worded_t _ HE.out).mono ?_
    rintro e w1 ⟨rfl, hg1⟩
    go_wp2_with fail
    refine (split_t a (by omega) _ (HE.out.gr hg1)).mono ?_
    rintro e w2 ⟨v2, rfl, ho2, hg2⟩
    obtain ⟨ao, c, ba, rfl, hao, hst⟩ := own_open ho2
    clear ho2
    have HA := Lib.hid hao
    have HS := Lib.hid hst
    clear hao hst
    have hg := hg1.trans hg2
    clear hg1 hg2
    go_wp2_with fail
    refine (split_t b (by omega) _ (HE.out.gr hg)).mono ?_
    rintro e w3 ⟨v3, rfl, ho3, hg3⟩
    obtain ⟨ao', c', ba', rfl, hao', hst'⟩ := own_open ho3
    clear ho3
    have HA' := Lib.hid hao'
    have HS' := Lib.hid hst'
    have HS2 := Lib.hid (HS.out.gr hg3)
    clear hao' hst' HS
    have hg' := hg.trans hg3
    clear hg hg3
    have hla := splitS_length a (by omega)
    have hlb := splitS_length b (by omega)
    have hla2 := splitS_le a
    have hlb2 := splitS_le b
    obtain ⟨i0, hi, hz0, hz1, hz2⟩ := info_parts info_string
    go_wp2_with (first
      | (at_builtin; (refine append_src (a0 := w3) (by rfl) _ _ 24 rfl 9 i0 _ 1 16 Tryd.underlying24 hi hz0 hz1 hz2 rfl (by decide) _ 0 [] rfl (World.ownsRow_lit w3 #[] 0 (Nat.le_refl _) (by decide) rfl) ao ba 0 (splitS a).length c ((splitS a).map Value.string) rfl HA.out (by simp) (HS2.out.gr ((Gr.refl w3).alloc _)).cells (strs_one _) ((Gr.refl w3).alloc _) (by omega) (by omega) ?_; intro v1 w11 hown1 hg11))
      | (at_builtin; (refine append_src (a0 := w3) (by rfl) _ _ 24 rfl 9 i0 _ 1 16 Tryd.underlying24 hi hz0 hz1 hz2 rfl (by decide) _ (0 + (splitS a).length) ([] ++ (splitS a).map Value.string) rfl hown1 ao' ba' 0 (splitS b).length c' ((splitS b).map Value.string) rfl HA'.out (by simp) (HS'.out.gr hg11).cells (strs_one _) hg11 (by omega) (by omega) ?_; intro v2 w12 hown2 hg12; obtain ⟨o2, c2, b2, rfl, HO0, HO1⟩ := own_two hown2)))
    obtain ⟨k, hk, ek⟩ : ∃ k : Nat, k < 5 ∧ gap % 18446744073709551616 % 5 = (k : Int) := ⟨(gap % 18446744073709551616 % 5).toNat, by omega, by omega⟩
    refine (pick_t gap 5 (by decide) (by decide) _).mono ?_
    rintro e w13 ⟨rfl, hg13⟩
    rw [ek]
    have hcell := hg13.keeps (mark_at w12 k hk)
    have hgw := (hg12.alloc _).trans hg13
    have hz := (hg12.trans ((Gr.refl _).alloc _)).trans hg13
    obtain ⟨m, s, hadd1, hadd2, hsp, hss⟩ := mark_sum a b k hk hsa hsb
    have HZ := Lib.hid (HO1.gr (((Gr.refl w12).alloc _).trans hg13))
    have HX := Lib.hid (HS2.out.gr hgw)
    clear HO1 HS2 HS' hg13 hg12 hg11 hown1 hown2 ek
    go_wp2_with fail
    have hgz := hg'.trans hgw
    clear hg' hcell hz
    refine (split_t s (by omega) _ (HE.out.gr hgz)).mono ?_
    rintro e w14 ⟨v14, rfl, ho14, hg14⟩
    rw [hsp] at ho14
    obtain ⟨p0, pc, pb, rfl, hp0, hp1⟩ := own_open ho14
    rw [List.length_append]
    have HP0 := Lib.hid hp0
    have HP1 := Lib.hid hp1
    have HZ2 := Lib.hid (HZ.out.gr hg14)
    have HX2 := Lib.hid (HX.out.gr hg14)
    have hg := hgz.trans hg14
    clear ho14 hp0 hp1 HZ HX hgz hg14 hgw
    go_wp2_with fail
    refine (same_app (splitS a) (splitS b) pb 0 pc b2 0 c2 p0 o2 HP0.out HO0 (by omega) _ HP1.out HZ2.out).mono ?_
    rintro e w15 ⟨rfl, hg15⟩
    have HX3 := Lib.hid (HX2.out.gr hg15)
    have hg' := hg.trans hg15
    clear HP0 HP1 HZ2 HX2 hg hg15 HO0
    go_wp2_with fail
    refine (small_t a ha _).mono ?_
    rintro e w16 ⟨rfl, hg16⟩
    have HX4 := Lib.hid (HX3.out.gr hg16)
    have hg := hg'.trans hg16
    clear HX3 hg' hg16
    go_wp2_with fail
    refine (split_t (smallS a) (by rw [smallS_size]; omega) _ (HE.out.gr hg)).mono ?_
    rintro e w17 ⟨v17, rfl, ho17, hg17⟩
    rw [splitS_small] at ho17
    obtain ⟨q0, qc, qb, rfl, hq0, hq1⟩ := own_open ho17
    have HQ0 := Lib.hid hq0
    have HQ1 := Lib.hid hq1
    have HX5 := Lib.hid (HX4.out.gr hg17)
    have hg' := hg.trans hg17
    clear ho17 hq0 hq1 HX4 hg hg17
    go_wp2_with fail
    refine (sameTexts_k (splitS a) qb 0 qc ba 0 c q0 ao HQ0.out HA.out hla _ HQ1.out HX5.out).mono ?_
    rintro e w18 ⟨rfl, hg18⟩
    have HX6 := Lib.hid (HX5.out.gr hg18)
    have hg := hg'.trans hg18
    clear HQ0 HQ1 HX5 hg' hg18
    have HF := Lib.hid (fun i (h : i < (splitS a).length) => splitS_fine a _ (List.getElem_mem h))
    go_wp2_with fail
    go_loopw [11] (fun i w' => ∃ j : Nat, j ≤ (splitS a).length ∧ i = .int .i64 j ∧ Gr w w' ∧ StrsAt w' ba 0 (splitS a)) (fun i _ => (splitS a).length - (intOf i).toNat)
    case atStart => exact ⟨0, Nat.zero_le _, rfl, hg, HX6.out⟩
    case round =>
      obtain ⟨j, hj, rfl, hg, hx⟩ := hrel
      have HX := Lib.hid hx
      clear hx
      by_cases h1 : j < (splitS a).length
      · obtain rfl := HA.out (by omega)
        obtain ⟨x, hxe⟩ : ∃ x, (splitS a)[j] = x := ⟨_, rfl⟩
        have f1 := HX.out j h1
        have hfine := HF.out j h1
        rw [hxe, Nat.zero_add] at f1
        rw [hxe] at hfine
        have hxs := hfine.2.1
        have n1 : ((x.size : Int) == 0) = false := fine_n1 hfine
        have n2 : decide ((12 : Int) < (x.size : Int)) = false := decide_eq_false (fine_n2 hfine)
        have n2b : ¬ ((12 : Int) < (x.size : Int)) := fine_n2 hfine
        have n3 : (!x.toList == x.toList) = false := by simp
        have hx12 : x.size ≤ 12 := by rw [size_data]; exact hxs
        have hsm := fine_smallS x hfine
        have hsl := fine_split x hfine
        clear hfine hxs hxe
        go_wp2_with fail
        go_region_held3 (fun w' => w'.cell? ⟨ba, j, none⟩ = some (.string x) ∧ Gr wr w') (first | exact ⟨f1, (Gr.refl wr).drew⟩ | (refine held_gr ?_ (by assumption); assumption)) (first | (go_at_call 10; refine (small_t x (by omega) _).mono ?_; rintro e w21 ⟨rfl, hg21⟩; rw [hsm]) | (go_at_call 15; refine (split_t x (by omega) _ (HE.out.gr (hg.trans (held_snd (by assumption))))).mono ?_; rintro e w22 ⟨v22, rfl, ho22, hg22⟩; obtain ⟨r0, rc, rb, rfl, hr0, hr1⟩ := own_open ho22; rw [hsl]))
        go_wp2_with fail
        exact ⟨⟨j + 1, by omega, by go_num, hg.trans (held_snd (by assumption)), HX.out.gr (held_snd (by assumption))⟩, by simp [intOf]; omega⟩
      · go_wp2_with fail
        go_ret
        exact Ret.mk rfl hg
  · go_enter Tryd.func4, Tryd.ntmps4
    go_wp2_with fail
    all_goals (go_ret; exact Ret.mk rfl (Gr.refl _))
end Go.Proofs.YthenhglpljdhfaaDoor
