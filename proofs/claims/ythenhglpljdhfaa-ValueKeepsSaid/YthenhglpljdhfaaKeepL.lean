/-
  The walk of the law ValueKeeps: it returns true.
-/
import Derived.Test.YthenhglpljdhfaaKeepO
namespace Go.Proofs.Ythenhglpljdhfaa
open Go Go.RowKit

theorem short_sizes2 {xs : List GVal} (h : shortB xs = true) : xs.length ≤ 30 ∧ ∀ i (hi : i < xs.length), xs[i].text.size ≤ 100 := by
  unfold shortB at h
  simp only [Bool.and_eq_true, decide_eq_true_eq, List.all_eq_true] at h
  exact ⟨h.1, fun i hi => h.2 _ (List.getElem_mem hi)⟩


theorem key_post_none {w : World} {xs : List GVal} {e : Ending} {w' : World} (hb : firstBad xs = none) (h : KeyPost w xs e w') : Ret w (.tuple #[.string ⟨(keyL xs).toArray⟩, .nilIface]) e w' := by
  unfold KeyPost at h; rw [hb] at h; exact h
theorem key_post_some {w : World} {xs : List GVal} {i : Nat} {e : Ending} {w' : World} (hb : firstBad xs = some i) (h : KeyPost w xs e w') : ∃ b, Ret w (.tuple #[.string ⟨#[]⟩, .iface 59 (.pointer (some ⟨b, 0, none⟩))]) e w' := by
  unfold KeyPost at h; rw [hb] at h
  obtain ⟨b, h1, _, _, _, h2⟩ := h
  exact ⟨b, h1, h2⟩
theorem read_post {w : World} {l : List UInt8} {xs : List GVal} {e : Ending} {w' : World} (hr : readL l = some xs) (h : ReadPost w l e w') :
    ∃ ao b c, e = .returned (.tuple #[.slice ao xs.length c, .nilIface]) ∧ (0 < xs.length → ao = some ⟨b, 0, none⟩) ∧ ValsAt w' b 0 xs ∧ OwnV w w' (.slice ao xs.length c) xs ∧ Gr w w' := by
  unfold ReadPost at h; rw [hr] at h
  obtain ⟨v, h1, h2, h3⟩ := h
  obtain ⟨ao, b, c, rfl, h4, h5⟩ := h2.vals
  exact ⟨ao, b, c, h1, h4, h5, h2, h3⟩
theorem fine_of {xs : List GVal} (hb : firstBad xs = none) (hn : ∀ i (h : i < xs.length), -9223372036854775808 ≤ xs[i].num ∧ xs[i].num ≤ 9223372036854775807) : ∀ v ∈ xs, FineV v := by
  induction xs with
  | nil => simp
  | cons x xs ih =>
    unfold firstBad at hb
    cases hr : rightB x
    · rw [hr] at hb; simp at hb
    · rw [hr] at hb
      simp at hb
      intro v hv
      rcases List.mem_cons.1 hv with rfl | hv
      · exact ⟨hr, hn 0 (by simp)⟩
      · exact ih hb (fun i h => hn (i + 1) (by simpa using h)) v hv
theorem key_len {xs : List GVal} (h30 : xs.length ≤ 30) (hs : ∀ i (h : i < xs.length), xs[i].text.size ≤ 100) : (keyL xs).length ≤ 30000270 := by
  have := keyL_len xs xs.length (fun i h => Nat.le_trans (hs i h) (by omega))
  rw [List.take_length] at this
  omega
theorem ba_size (l : List UInt8) : (⟨l.toArray⟩ : ByteArray).size = l.length := by show l.toArray.size = _; simp
theorem cellsL_append (xs ys : List GVal) : cellsL (xs ++ ys) = cellsL xs ++ cellsL ys := List.flatMap_append ..
theorem own_two {a0 w : World} {v : Value} {xs ys : List GVal} (h : w.ownsRow a0.heap.size 26 3 v (0 + xs.length + ys.length) ([] ++ cellsL xs ++ cellsL ys)) :
    ∃ ao b c, v = .slice ao (xs.length + ys.length) c ∧ (0 < (xs ++ ys).length → ao = some ⟨b, 0, none⟩) ∧ ValsAt w b 0 (xs ++ ys) := by
  have h2 : OwnV a0 w v (xs ++ ys) := by
    show w.ownsRow _ _ 3 v (xs ++ ys).length (cellsL (xs ++ ys))
    rw [cellsL_append, List.length_append]
    simpa using h
  obtain ⟨ao, b, c, h3, h4, h5⟩ := h2.vals
  exact ⟨ao, b, c, by rw [h3, List.length_append], h4, h5⟩
theorem same_app (xs ys : List GVal) (b off c : Nat) (ao : Option Addr) (hao : 0 < (xs ++ ys).length → ao = some ⟨b, off, none⟩) (hl : xs.length + ys.length ≤ 9223372036854775807)
    (b' off' c' : Nat) (ao' : Option Addr) (hao' : 0 < (xs ++ ys).length → ao' = some ⟨b', off', none⟩) (w : World) (hc : ValsAt w b off (xs ++ ys)) (hc' : ValsAt w b' off' (xs ++ ys)) :
    Calls Try.prog 18 #[.slice ao (xs.length + ys.length) c, .slice ao' (xs.length + ys.length) c'] w (Ret w (.bool true)) := by
  have h := same_t (xs ++ ys) b off c ao hao (by rw [List.length_append]; exact hl) b' off' c' ao' hao' w hc hc'
  rw [List.length_append] at h
  exact h
theorem cmp_key (xs ys : List GVal) (hx : ∀ v ∈ xs, FineV v) (hy : ∀ v ∈ ys, FineV v) (w : World) : Calls Try.prog 19 #[.string ⟨(keyL xs).toArray⟩, .string ⟨(keyL ys).toArray⟩] w (Ret w (.int .i64 (orderV xs ys))) := by
  refine Ret.of_same ((Try.strings_Compare _ _ w).mono ?_)
  rintro e w' ⟨rfl, rfl⟩
  refine ⟨?_, rfl⟩
  rw [← key_order xs ys hx hy]
set_option maxHeartbeats 1600000 in
theorem valueKeeps_walk (xs ys : List GVal) (b off c : Nat) (ao : Option Addr) (hao : 0 < xs.length → ao = some ⟨b, off, none⟩) (hl : xs.length ≤ 9223372036854775807)
    (b' off' c' : Nat) (ao' : Option Addr) (hao' : 0 < ys.length → ao' = some ⟨b', off', none⟩) (hl' : ys.length ≤ 9223372036854775807) (w : World) (hc : ValsAt w b off xs) (hc' : ValsAt w b' off' ys) (hm : MaxAt w)
    (hn : ∀ i (h : i < xs.length), -9223372036854775808 ≤ xs[i].num ∧ xs[i].num ≤ 9223372036854775807) (hn' : ∀ i (h : i < ys.length), -9223372036854775808 ≤ ys[i].num ∧ ys[i].num ≤ 9223372036854775807) :
    Calls Try.prog 4 #[.slice ao xs.length c, .slice ao' ys.length c'] w (Ret w (.bool true)) := by
  have HM := Lib.hid hm
  clear hm
  have HN := Lib.hid hn
  have HN' := Lib.hid hn'
  clear hn hn'
  have HC := Lib.hid hc
  have HA := Lib.hid hao
  have HC' := Lib.hid hc'
  have HA' := Lib.hid hao'
  clear hc hao hc' hao'
  cases hx : shortB xs
  · have HX := Lib.hid hx
    clear hx
    go_enter Try.func4, Try.ntmps4
    go_wp2_with fail
    refine (short_k xs b off c ao HA.out hl _ HC.out).mono ?_
    rintro e w1 ⟨rfl, hg1⟩
    rw [HX.out]
    go_wp2_with fail
    go_ret
    exact Ret.mk rfl hg1
  cases hy : shortB ys
  · have HX := Lib.hid hx
    have HY := Lib.hid hy
    clear hx hy
    go_enter Try.func4, Try.ntmps4
    go_wp2_with fail
    refine (short_k xs b off c ao HA.out hl _ HC.out).mono ?_
    rintro e w1 ⟨rfl, hg1⟩
    rw [HX.out]
    go_wp2_with fail
    refine (short_k ys b' off' c' ao' HA'.out hl' _ (HC'.out.gr hg1)).mono ?_
    rintro e w2 ⟨rfl, hg2⟩
    rw [HY.out]
    go_wp2_with fail
    go_ret
    exact Ret.mk rfl (hg1.trans hg2)
  have HX := Lib.hid hx
  have HY := Lib.hid hy
  clear hx hy
  have HS := Lib.hid (short_sizes2 HX.out).2
  have HS' := Lib.hid (short_sizes2 HY.out).2
  have hl30 := (short_sizes2 HX.out).1
  have hl30' := (short_sizes2 HY.out).1
  go_enter Try.func4, Try.ntmps4
  go_wp2_with fail
  refine (short_k xs b off c ao HA.out hl _ HC.out).mono ?_
  rintro e w1 ⟨rfl, hg1⟩
  rw [HX.out]
  go_wp2_with fail
  refine (short_k ys b' off' c' ao' HA'.out hl' _ (HC'.out.gr hg1)).mono ?_
  rintro e w2 ⟨rfl, hg2⟩
  rw [HY.out]
  have hg := hg1.trans hg2
  clear hg1 hg2
  go_wp2_with fail

  refine (ordered_t _).mono ?_
  rintro e w3 ⟨rfl, hg3⟩
  have hg' := hg.trans hg3
  clear hg hg3
  go_wp2_with fail
  refine (key_t xs b off c ao HA.out (by omega) (fun i h => ⟨HN.out i h, Nat.le_trans (HS.out i h) (by omega)⟩) _ (HC.out.gr hg')).mono ?_
  intro e w4 hp
  cases hbx : firstBad xs with
  | some i =>
    obtain ⟨bb, rfl, hg4⟩ := key_post_some hbx hp
    have hg := hg'.trans hg4
    clear hp hg' hg4
    go_wp2_with fail
    refine (key_t ys b' off' c' ao' HA'.out (by omega) (fun i h => ⟨HN'.out i h, Nat.le_trans (HS'.out i h) (by omega)⟩) _ (HC'.out.gr hg)).mono ?_
    intro e w5 hp
    cases hby : firstBad ys with
    | some i =>
      obtain ⟨bb', rfl, hg5⟩ := key_post_some hby hp
      have hg' := hg.trans hg5
      clear hp hg hg5
      go_wp2_with fail
      go_ret
      exact Ret.mk rfl hg'
    | none =>
      obtain ⟨rfl, hg5⟩ := key_post_none hby hp
      have hg' := hg.trans hg5
      clear hp hg hg5
      go_wp2_with fail
      go_ret
      exact Ret.mk rfl hg'
  | none =>
  obtain ⟨rfl, hg4⟩ := key_post_none hbx hp
  have hg := hg'.trans hg4
  clear hp hg' hg4
  go_wp2_with fail
  refine (key_t ys b' off' c' ao' HA'.out (by omega) (fun i h => ⟨HN'.out i h, Nat.le_trans (HS'.out i h) (by omega)⟩) _ (HC'.out.gr hg)).mono ?_
  intro e w5 hp
  cases hby : firstBad ys with
  | some i =>
    obtain ⟨bb', rfl, hg5⟩ := key_post_some hby hp
    have hg' := hg.trans hg5
    clear hp hg hg5
    go_wp2_with fail
    go_ret
    exact Ret.mk rfl hg'
  | none =>
  obtain ⟨rfl, hg5⟩ := key_post_none hby hp
  have hg' := hg.trans hg5
  clear hp hg hg5
  have FX := Lib.hid (fine_of hbx HN.out)
  have FY := Lib.hid (fine_of hby HN'.out)
  have LX := Lib.hid (key_len hl30 HS.out)
  have LY := Lib.hid (key_len hl30' HS'.out)
  clear hbx hby
  go_wp2_with fail
  refine (read_t _ (by rw [ba_size]; have := LX.out; omega) _ (HM.out.gr hg')).mono ?_
  intro e w6 hp
  obtain ⟨x0, x1, x2, rfl, HX0, HX1, _, hg6⟩ := read_post (xs := xs) (by exact read_key xs FX.out) hp
  have hg := hg'.trans hg6
  clear hp hg' hg6
  have HX0 := Lib.hid HX0
  have HX1 := Lib.hid HX1
  go_wp2_with fail
  refine (read_t _ (by rw [ba_size]; have := LY.out; omega) _ (HM.out.gr hg)).mono ?_
  intro e w7 hp
  obtain ⟨y0, y1, y2, rfl, HY0, HY1, _, hg7⟩ := read_post (xs := ys) (by exact read_key ys FY.out) hp
  have HX2 := Lib.hid (HX1.out.gr hg7)
  clear HX1
  have hg' := hg.trans hg7
  clear hp hg hg7
  have HY0 := Lib.hid HY0
  have HY1 := Lib.hid HY1
  have hadd : ∀ w, (Op.stringOp .add ⟨(keyL xs).toArray⟩ ⟨(keyL ys).toArray⟩).run Try.prog w = .ok (.string ⟨(keyL (xs ++ ys)).toArray⟩) w := fun w => by
    rw [keyL_append]
    rw [run_string_add_sum w _ _ (by rw [ba_size, ba_size]; have := LX.out; have := LY.out; omega), ByteArray.mk_append_mk]
  go_wp2_with fail
  refine (read_t _ (by rw [ba_size]; have := LX.out; have := LY.out; rw [keyL_append, List.length_append]; omega) _ (HM.out.gr hg')).mono ?_
  intro e w8 hp
  obtain ⟨z0, z1, z2, rfl, HZ0, HZ1, HZO, hg8⟩ := read_post (xs := xs ++ ys) (by exact read_key _ (fun v hv => (List.mem_append.1 hv).elim (FX.out v) (FY.out v))) hp
  have HX3 := Lib.hid (HX2.out.gr hg8)
  have HY3 := Lib.hid (HY1.out.gr hg8)
  clear HX2 HY1
  have hg := hg'.trans hg8
  clear hp hg' hg8
  have HZ0 := Lib.hid HZ0
  have HZ1 := Lib.hid HZ1
  go_wp2_with fail
  refine (same_t xs _ _ x2 x0 HX0.out hl b off c ao HA.out _ HX3.out (HC.out.gr hg)).mono ?_
  rintro e w9 ⟨rfl, hg9⟩
  have hg' := hg.trans hg9
  have HY4 := Lib.hid (HY3.out.gr hg9)
  have HZ2 := Lib.hid (HZ1.out.gr hg9)
  clear hg hg9 HX3 HY3 HZ1
  go_wp2_with fail
  refine (same_t ys _ _ y2 y0 HY0.out hl' b' off' c' ao' HA'.out _ HY4.out (HC'.out.gr hg')).mono ?_
  rintro e w10 ⟨rfl, hg10⟩
  have hg := hg'.trans hg10
  have HZ3 := Lib.hid (HZ2.out.gr hg10)
  clear hg' hg10 HY4 HZ2
  obtain ⟨i0, hi, hz0, hz1, hz2⟩ := info_parts info_val
  have HW := HC.out.gr hg
  have HW' := HC'.out.gr hg
  go_wp2_with (first
    | (at_builtin; refine append_src (a0 := w10) (by rfl) _ _ 22 rfl 26 i0 _ 3 32 Try.underlying22 hi hz0 hz1 hz2 rfl (by decide) _ 0 [] rfl (World.ownsRow_lit w10 #[] 0 (Nat.le_refl _) (by decide) rfl) ao b off xs.length c (cellsL xs) rfl HA.out (cellsL_len xs) (HW.gr ((Gr.refl w10).alloc _)).cells (cellsL_one xs) ((Gr.refl w10).alloc _) (by omega) (by omega) ?_; intro v1 w11 hown1 hg11)
    | (at_builtin; refine append_src (a0 := w10) (by rfl) _ _ 22 rfl 26 i0 _ 3 32 Try.underlying22 hi hz0 hz1 hz2 rfl (by decide) _ (0 + xs.length) ([] ++ cellsL xs) rfl hown1 ao' b' off' ys.length c' (cellsL ys) rfl HA'.out (cellsL_len ys) (HW'.gr hg11).cells (cellsL_one ys) hg11 (by omega) (by omega) ?_; intro v2 w12 hown2 hg12; obtain ⟨o2, b2, c2, rfl, HO0, HO1⟩ := own_two hown2))
  refine (same_app xs ys _ _ z2 z0 HZ0.out (by omega) _ _ c2 o2 HO0 _ (HZ3.out.gr hg12) HO1).mono ?_
  rintro e w13 ⟨rfl, hg13⟩
  have hg' := (hg.trans hg12).trans hg13
  clear hg hg13 HZ3 HO1 HW HW'
  go_wp2_with fail
  refine (cmp_key xs ys FX.out FY.out _).mono ?_
  rintro e w14 ⟨rfl, hg14⟩
  have hg := hg'.trans hg14
  clear hg' hg14
  go_wp2_with fail
  refine (order_t xs ys b off c ao HA.out hl b' off' c' ao' HA'.out hl' _ (HC.out.gr hg) (HC'.out.gr hg)).mono ?_
  rintro e w15 ⟨rfl, hg15⟩
  have hg' := hg.trans hg15
  clear hg hg15
  go_wp2_with fail
  go_ret
  exact Ret.mk rfl hg'
end Go.Proofs.Ythenhglpljdhfaa
