/-
  Contracts of value.big and value.Key.
-/
import Derived.Test.YthenhglpljdhfaaDoorValL
import Derived.Test.YthenhglpljdhfaaDoorKeyP
import Derived.Laws.IdiomStrings
import Derived.Laws.BytesArg
namespace Go.Proofs.YthenhglpljdhfaaDoor
open Go Go.RowKit

def byteV (b : UInt8) : Value := .int .u8 (b.toNat : Int)
/-- Bytes of the call's own. -/
def OwnB (a0 w : World) (v : Value) (l : List UInt8) : Prop := w.ownsRow a0.heap.size 5 1 v l.length (l.map byteV)
theorem OwnB.row {a0 w : World} {v : Value} {l : List UInt8} (h : OwnB a0 w v l) : w.ownsRow a0.heap.size 5 1 v l.length (l.map byteV) := h
theorem info_u8 : (Tryd.prog.info? 5).map (fun i => (i.zero, i.size, i.bytes)) = some (some (.int .u8 0), 1, 1) := by kernel_rfl

theorem big_round {a0 w4 : World} {v4 : Value} {l : List UInt8} {m k : Nat} {q : Int} {c : UInt8} (hc : (be8 m)[k]? = some c) (hq : q = (c.toNat : Int))
    (h : w4.ownsRow a0.heap.size 5 1 v4 ((l ++ (be8 m).take k).length + 1) ((l ++ (be8 m).take k).map byteV ++ [.int .u8 q])) : OwnB a0 w4 v4 (l ++ (be8 m).take (k + 1)) := by
  obtain ⟨hk, he⟩ := List.getElem?_eq_some_iff.1 hc
  have e : l ++ (be8 m).take (k + 1) = (l ++ (be8 m).take k) ++ [c] := by rw [List.take_succ_eq_append_getElem hk, he, List.append_assoc]
  unfold OwnB
  rw [e, List.length_append, List.map_append]
  have e2 : [c].map byteV = [Value.int .u8 q] := by rw [hq]; rfl
  rw [e2]
  exact h
theorem u8_div (m d : Nat) : (m : Int) / (d : Int) % 256 = ((m / d).toUInt8.toNat : Int) := by
  simp

set_option maxRecDepth 100000 in
set_option maxHeartbeats 800000 in
theorem big_t (a0 w : World) (v : Value) (l : List UInt8) (n : Int) (hn : -9223372036854775808 ≤ n ∧ n ≤ 9223372036854775807) (hl : l.length ≤ 100000000000) (hg : Gr a0 w) (ho : OwnB a0 w v l) :
    Calls Tryd.prog 66 #[v, .int .i64 n] w fun e w' => ∃ v', e = .returned v' ∧ OwnB a0 w' v' (l ++ be8 (n + 9223372036854775808).toNat) ∧ Gr a0 w' := by
  obtain ⟨i0, hi, hz0, hz1, hz2⟩ := info_parts info_u8
  go_enter Tryd.func66, Tryd.ntmps66
  go_wp2_with fail
  have hbt := bits_top n hn.1 hn.2
  rw [hbt]
  clear hbt
  have hm : (n + 9223372036854775808).toNat < 18446744073709551616 := by omega
  generalize hmm : (n + 9223372036854775808).toNat = m at *
  have HMM := Lib.hid hmm
  clear hmm
  have HO : Hid (∃ k : Nat, k ≤ 8 ∧ (7 : Int) = 7 - (k : Int) ∧ OwnB a0 w v (l ++ (be8 m).take k)) := Lib.hid ⟨0, by omega, by omega, by simpa using ho⟩
  clear ho
  have HM := Lib.hid hm
  clear hm
  go_loopw [6, 0] (fun i u w' => ∃ k : Nat, k ≤ 8 ∧ i = .int .i64 (7 - (k : Int)) ∧ Gr a0 w' ∧ OwnB a0 w' u (l ++ (be8 m).take k)) (fun i _ _ => (intOf i + 1).toNat)
  case atStart =>
    obtain ⟨k, hk, he, ho⟩ := HO.out
    exact ⟨k, hk, by rw [← he], hg, ho⟩
  case round =>
    obtain ⟨k, hk, rfl, hg, ho⟩ := hrel
    have HOO := Lib.hid ho
    clear ho
    have hcs : k = 0 ∨ k = 1 ∨ k = 2 ∨ k = 3 ∨ k = 4 ∨ k = 5 ∨ k = 6 ∨ k = 7 ∨ k = 8 := by omega
    rcases hcs with rfl | rfl | rfl | rfl | rfl | rfl | rfl | rfl | rfl
    all_goals try clear hcs
    rotate_right
    · go_wp2_with fail
      go_ret
      refine ⟨_, rfl, ?_, hg⟩
      have h8 := HOO.out
      rw [List.take_of_length_le (by rw [be8_length]; omega), ← HMM.out] at h8
      exact h8
    all_goals
      go_wp2_with (at_builtin; (refine append_one (a0 := a0) rfl _ _ 92 rfl 5 i0 (.int .u8 0) 1 1 Tryd.underlying92 hi hz0 hz1 hz2 rfl (by decide) _ _ _ rfl (OwnB.row HOO.out) [_] rfl (by simp; rfl) rfl hg (by simp; omega) (by simp; omega) ?_); intro v4 w4 hown4 hg4)
      refine ⟨⟨_ + 1, ?_, ?_, hg4, big_round rfl ?_ hown4⟩, ?_⟩
    all_goals first | omega | (simp [intOf]; done) | exact u8_div m _ | (simp; done)

/-- What value.Key hands back. -/
def KeyPost (w : World) (xs : List GVal) (e : Ending) (w' : World) : Prop :=
  match firstBad xs with
  | none => e = .returned (.tuple #[.string ⟨(keyL xs).toArray⟩, .nilIface]) ∧ Gr w w'
  | some i => ∃ b, e = .returned (.tuple #[.string ⟨#[]⟩, .iface 113 (.pointer (some ⟨b, 0, none⟩))]) ∧ w.heap.size ≤ b ∧ w'.cell? ⟨b, 0, none⟩ = some (.int .i64 1) ∧ w'.cell? ⟨b, 1, none⟩ = some (.int .i64 (i : Int)) ∧ Gr w w'

theorem firstBad_at (xs : List GVal) (j : Nat) (h : j < xs.length) (h0 : firstBad (xs.take j) = none) (hb : rightB xs[j] = false) : firstBad xs = some j := by
  induction xs generalizing j with
  | nil => simp at h
  | cons v xs ih =>
    cases j with
    | zero =>
      simp only [List.getElem_cons_zero] at hb
      rw [firstBad, if_neg (by rw [hb]; decide)]
    | succ j =>
      rw [List.take_succ_cons, firstBad] at h0
      by_cases hv : rightB v = true
      · rw [if_pos hv] at h0
        rw [firstBad, if_pos hv, ih j (by simpa using h) (by simpa using h0) (by simpa using hb)]
        rfl
      · rw [if_neg hv] at h0
        cases h0
theorem firstBad_succ (xs : List GVal) (j : Nat) (h : j < xs.length) (h0 : firstBad (xs.take j) = none) (hb : rightB xs[j] = true) : firstBad (xs.take (j + 1)) = none := by
  induction xs generalizing j with
  | nil => simp at h
  | cons v xs ih =>
    cases j with
    | zero =>
      simp only [List.getElem_cons_zero] at hb
      simp [firstBad, hb]
    | succ j =>
      rw [List.take_succ_cons, firstBad] at h0 ⊢
      by_cases hv : rightB v = true
      · rw [if_pos hv] at h0 ⊢
        rw [ih j (by simpa using h) (by simpa using h0) (by simpa using hb)]
        rfl
      · rw [if_neg hv] at h0
        cases h0
theorem keyL_succ (xs : List GVal) (j : Nat) (h : j < xs.length) : keyL (xs.take (j + 1)) = keyL (xs.take j) ++ keyV xs[j] := by
  unfold keyL
  rw [List.take_succ_eq_append_getElem h, List.flatMap_append]
  simp
theorem own_snoc {a0 w : World} {v : Value} {l : List UInt8} {c : UInt8} (h : w.ownsRow a0.heap.size 5 1 v (l.length + 1) (l.map byteV ++ [byteV c])) : OwnB a0 w v (l ++ [c]) := by
  unfold OwnB
  rw [List.length_append, List.map_append]
  exact h
theorem keyL_len (xs : List GVal) (j : Nat) (h : ∀ i (hi : i < xs.length), xs[i].text.size ≤ 1000000) : (keyL (xs.take j)).length ≤ xs.length * 1000009 := by
  have : ∀ (l : List GVal), (∀ v ∈ l, v.text.size ≤ 1000000) → (keyL l).length ≤ l.length * 1000009 := by
    intro l
    induction l with
    | nil => intro _; simp [keyL]
    | cons v l ih =>
      intro hv
      have h1 := ih (fun u hu => hv u (List.mem_cons_of_mem _ hu))
      have h2 := hv v List.mem_cons_self
      have h3 : (keyV v).length ≤ 1000009 := by
        unfold keyV
        have h4 := h2
        rw [size_data] at h4
        split
        · simp [be8_length]
        · split <;> simp <;> omega
      unfold keyL at h1 ⊢
      rw [List.flatMap_cons, List.length_append, List.length_cons]
      omega
  have h1 := this (xs.take j) (fun v hv => by
    obtain ⟨i, hi, rfl⟩ := List.getElem_of_mem (List.mem_of_mem_take hv)
    exact h i hi)
  have h2 : (xs.take j).length ≤ xs.length := List.length_take_le' _ _
  exact Nat.le_trans h1 (Nat.mul_le_mul_right 1000009 h2)
/-- Bytes of the call's own, made a text. -/
theorem own_string {a0 w : World} {v : Value} {l : List UInt8} (h : OwnB a0 w v l) : (convert 92 9 v).run Tryd.prog w = .ok (.string ⟨l.toArray⟩) w := by
  obtain ⟨h1, h2⟩ := h
  rcases h2 with ⟨rfl, h0⟩ | ⟨g, cap, cur, rfl, _, hh, hn, _, hcur, ht⟩
  · have hl : l = [] := List.eq_nil_of_length_eq_zero h0
    subst hl
    exact run_convert_bytes_nil (P := Tryd.prog) w 92 5 Tryd.underlying92 Tryd.underlying5 0 0 9 Tryd.underlying9
  · refine run_convert_bytes_back (P := Tryd.prog) w 92 9 5 ⟨g, 0, none⟩ cap l Tryd.underlying92 Tryd.underlying5 Tryd.underlying9 (fun j hj => ?_)
    have he : (⟨g, 0, none⟩ : Addr).add j = ⟨g, j, none⟩ := by
      unfold Addr.add
      split
      · rename_i h0; rw [h0]
      · simp
    have hc : cur.toList[j]? = some (byteV l[j]) := by
      have e := congrArg (fun l : List Value => l[j]?) ht
      simp only [Nat.mul_one] at e
      rw [List.getElem?_take, if_pos hj, List.getElem?_map, List.getElem?_eq_getElem hj] at e
      exact e
    rw [he]
    unfold World.cell?
    simp only [hh]
    rw [← Array.getElem?_toList]
    exact hc

set_option maxRecDepth 100000 in
set_option maxHeartbeats 1600000 in
theorem key_t (xs : List GVal) (b off c : Nat) (ao : Option Addr) (hao : 0 < xs.length → ao = some ⟨b, off, none⟩) (hl : xs.length ≤ 1000) (hr : ∀ i (h : i < xs.length), (-9223372036854775808 ≤ xs[i].num ∧ xs[i].num ≤ 9223372036854775807) ∧ xs[i].text.size ≤ 1000000) (w : World) (hc : ValsAt w b off xs) :
    Calls Tryd.prog 45 #[.slice ao xs.length c] w (KeyPost w xs) := by
  obtain ⟨i0, hi, hz0, hz1, hz2⟩ := info_parts info_u8
  have HC := Lib.hid hc
  have HA := Lib.hid hao
  have HR := Lib.hid hr
  clear hc hao hr
  go_enter Tryd.func45, Tryd.ntmps45
  go_wp2_with fail
  go_loopw [9, 4] (fun i u w' => ∃ j : Nat, j ≤ xs.length ∧ i = .int .i64 j ∧ Gr w w' ∧ firstBad (xs.take j) = none ∧ OwnB w w' u (keyL (xs.take j))) (fun i _ _ => xs.length - (intOf i).toNat)
  case atStart => exact ⟨0, Nat.zero_le _, rfl, Gr.refl _, rfl, ⟨rfl, .inl ⟨rfl, rfl⟩⟩⟩
  case round =>
    obtain ⟨j, hj, rfl, hg, hfb, ho⟩ := hrel
    have HO := Lib.hid ho
    have HF := Lib.hid hfb
    clear ho hfb
    by_cases hlt : j < xs.length
    · obtain rfl := HA.out (by omega)
      have hv := HC.out.gr hg j hlt
      obtain ⟨c0, c1, c2⟩ := hv
      have hrt := (HR.out j hlt).2
      generalize hxj : xs[j] = x at *
      have HX := Lib.hid hxj
      clear hxj
      cases hrb : rightB x
      · have HB := Lib.hid hrb
        clear hrb
        go_wp2_with (go_at_call 65; refine (right_t x (by omega) _).mono ?_; rintro e w1 ⟨rfl, hg1⟩; rw [HB.out])
        have hfb := firstBad_at xs j hlt HF.out (by rw [HX.out]; exact HB.out)
        refine bodyPost_ret (v := .tuple #[.string ⟨#[]⟩, .iface 113 (.pointer (some ⟨w1.heap.size, 0, none⟩))]) (by simp [results, Tryd.results45, go_sem]) rfl ?_
        unfold KeyPost
        rw [hfb]
        have hgw := (hg.alloc _).trans hg1
        exact ⟨_, rfl, hgw.size, by rw [World.cell?_alloc_new]; rfl, by rw [World.cell?_alloc_new]; rfl, hgw.alloc _⟩
      · have HB := Lib.hid hrb
        have hkn := right_kinds x hrb
        have HFS := Lib.hid (firstBad_succ xs j hlt HF.out (by rw [HX.out]; exact hrb))
        have hks := keyL_succ xs j hlt
        rw [HX.out] at hks
        have HKS := Lib.hid hks
        have hkl := keyL_len xs j (fun i h => (HR.out i h).2)
        have hnb : ¬ u4.ownBlock = some wr.heap.size := fun h => Nat.lt_irrefl _ (ownBlock_lt (OwnB.row HO.out) _ h)
        have hn' := (HR.out j hlt).1
        rw [HX.out] at hn'
        have hrt' : x.text.size ≤ 9223372036854775807 := by omega
        clear hrb hks
        obtain ⟨kx, nx, sx⟩ := x
        simp only at c0 c1 c2 hrt hkn hn' hrt'
        rcases hkn with rfl | rfl | rfl
        · go_wp2_with fail
          refine (right_t ⟨0, nx, sx⟩ hrt' _).mono ?_
          rintro e w1 ⟨rfl, hg1⟩
          rw [HB.out]
          have k0 := hg1.keeps (b := wr.heap.size) (o := 0) (v := .int .i64 0) (by rw [World.cell?_alloc_new]; rfl)
          have k1 := hg1.keeps (b := wr.heap.size) (o := 1) (v := .int .i64 nx) (by rw [World.cell?_alloc_new]; rfl)
          have k2 := hg1.keeps (b := wr.heap.size) (o := 2) (v := .string sx) (by rw [World.cell?_alloc_new]; rfl)
          have hs1 := hg1.size
          have ho1 := ownsRow_gr (OwnB.row HO.out) (((Gr.refl _).alloc _).trans hg1)
          have hgw := (hg.alloc _).trans hg1
          simp only [World.size_alloc] at hs1
          go_wp2_with (first | (at_builtin; refine append_keep (a0 := w) rfl _ _ 92 rfl 5 i0 (.int .u8 0) 1 1 Tryd.underlying92 hi hz0 hz1 hz2 rfl (by decide) _ _ _ rfl ho1 [_] rfl (by simp; rfl) rfl hgw (by omega) (by omega) ?_; intro v3 w3 hown3 hg3 hkb; have m0 := (hkb wr.heap.size 0 (by omega) hnb).1.trans k0; have m1 := (hkb wr.heap.size 1 (by omega) hnb).1.trans k1; have m2 := (hkb wr.heap.size 2 (by omega) hnb).1.trans k2; clear k0 k1 k2; have H3 : Hid (OwnB w w3 v3 (keyL (xs.take j) ++ [1])) := Lib.hid (own_snoc hown3); clear hown3; have HL3 : Hid ((keyL (xs.take j) ++ [(1 : UInt8)]).length = (keyL (xs.take j)).length + 1) := Lib.hid (by rw [List.length_append]; rfl)))
          refine ⟨⟨j + 1, by omega, by go_num, hg3, HFS.out, ?_⟩, by simp [intOf]; omega⟩
          rw [HKS.out]
          exact H3.out
        · go_wp2_with fail
          refine (right_t ⟨1, nx, sx⟩ hrt' _).mono ?_
          rintro e w1 ⟨rfl, hg1⟩
          rw [HB.out]
          have k0 := hg1.keeps (b := wr.heap.size) (o := 0) (v := .int .i64 1) (by rw [World.cell?_alloc_new]; rfl)
          have k1 := hg1.keeps (b := wr.heap.size) (o := 1) (v := .int .i64 nx) (by rw [World.cell?_alloc_new]; rfl)
          have k2 := hg1.keeps (b := wr.heap.size) (o := 2) (v := .string sx) (by rw [World.cell?_alloc_new]; rfl)
          have hs1 := hg1.size
          have ho1 := ownsRow_gr (OwnB.row HO.out) (((Gr.refl _).alloc _).trans hg1)
          have hgw := (hg.alloc _).trans hg1
          simp only [World.size_alloc] at hs1
          go_wp2_with (first | (at_builtin; refine append_keep (a0 := w) rfl _ _ 92 rfl 5 i0 (.int .u8 0) 1 1 Tryd.underlying92 hi hz0 hz1 hz2 rfl (by decide) _ _ _ rfl ho1 [_] rfl (by simp; rfl) rfl hgw (by omega) (by omega) ?_; intro v3 w3 hown3 hg3 hkb; have m0 := (hkb wr.heap.size 0 (by omega) hnb).1.trans k0; have m1 := (hkb wr.heap.size 1 (by omega) hnb).1.trans k1; have m2 := (hkb wr.heap.size 2 (by omega) hnb).1.trans k2; clear k0 k1 k2; have H3 : Hid (OwnB w w3 v3 (keyL (xs.take j) ++ [2])) := Lib.hid (own_snoc hown3); clear hown3; have HL3 : Hid ((keyL (xs.take j) ++ [(2 : UInt8)]).length = (keyL (xs.take j)).length + 1) := Lib.hid (by rw [List.length_append]; rfl)) | (go_at_call 66; refine (big_t w w3 v3 _ nx hn' (by rw [HL3.out]; omega) hg3 H3.out).mono ?_; rintro e w4 ⟨v4, rfl, ho4, hg4⟩; have H4 := Lib.hid ho4; clear ho4))
          refine ⟨⟨j + 1, by omega, by go_num, hg4, HFS.out, ?_⟩, by simp [intOf]; omega⟩
          rw [HKS.out]
          have h4 := H4.out
          rw [List.append_assoc] at h4
          exact h4
        · go_wp2_with fail
          refine (right_t ⟨2, nx, sx⟩ hrt' _).mono ?_
          rintro e w1 ⟨rfl, hg1⟩
          rw [HB.out]
          have k0 := hg1.keeps (b := wr.heap.size) (o := 0) (v := .int .i64 2) (by rw [World.cell?_alloc_new]; rfl)
          have k1 := hg1.keeps (b := wr.heap.size) (o := 1) (v := .int .i64 nx) (by rw [World.cell?_alloc_new]; rfl)
          have k2 := hg1.keeps (b := wr.heap.size) (o := 2) (v := .string sx) (by rw [World.cell?_alloc_new]; rfl)
          have hs1 := hg1.size
          have ho1 := ownsRow_gr (OwnB.row HO.out) (((Gr.refl _).alloc _).trans hg1)
          have hgw := (hg.alloc _).trans hg1
          simp only [World.size_alloc] at hs1
          go_wp2_with (first | (at_builtin; refine append_keep (a0 := w) rfl _ _ 92 rfl 5 i0 (.int .u8 0) 1 1 Tryd.underlying92 hi hz0 hz1 hz2 rfl (by decide) _ _ _ rfl ho1 [_] rfl (by simp; rfl) rfl hgw (by omega) (by omega) ?_; intro v3 w3 hown3 hg3 hkb; have m0 := (hkb wr.heap.size 0 (by omega) hnb).1.trans k0; have m1 := (hkb wr.heap.size 1 (by omega) hnb).1.trans k1; have m2 := (hkb wr.heap.size 2 (by omega) hnb).1.trans k2; clear k0 k1 k2; have H3 : Hid (OwnB w w3 v3 (keyL (xs.take j) ++ [3])) := Lib.hid (own_snoc hown3); clear hown3; have HL3 : Hid ((keyL (xs.take j) ++ [(3 : UInt8)]).length = (keyL (xs.take j)).length + 1) := Lib.hid (by rw [List.length_append]; rfl)) | (at_builtin; refine append_text (a0 := w) rfl _ _ 92 9 rfl 5 i0 Tryd.underlying92 Tryd.underlying9 hi hz0 hz1 hz2 _ _ _ rfl (OwnB.row H3.out) sx rfl hg3 (by rw [HL3.out]; omega) ?_; intro v4 w4 hown4 hg4 hkb4) | (at_builtin; refine append_keep (a0 := w) rfl _ _ 92 rfl 5 i0 (.int .u8 0) 1 1 Tryd.underlying92 hi hz0 hz1 hz2 rfl (by decide) _ _ _ rfl hown4 [_] rfl (by simp; rfl) rfl hg4 (by rw [HL3.out]; omega) (by rw [HL3.out]; omega) ?_; intro v5 w5 hown5 hg5 hkb5))
          refine ⟨⟨j + 1, by omega, by go_num, hg5, HFS.out, ?_⟩, by simp [intOf]; omega⟩
          rw [HKS.out]
          have h5 : OwnB w w5 v5 ((keyL (xs.take j) ++ [3]) ++ sx.data.toList ++ [0]) := by
            unfold OwnB
            rw [List.length_append, List.map_append, List.length_append, List.map_append, ← size_data]
            exact hown5
          rw [List.append_assoc, List.append_assoc] at h5
          exact h5
    · have hco := own_string HO.out
      go_wp2_with fail
      refine bodyPost_ret (v := .tuple #[.string ⟨(keyL (xs.take j)).toArray⟩, .nilIface]) (by simp [results, Tryd.results45, go_sem]) rfl ?_
      have e : xs.take j = xs := List.take_of_length_le (by omega)
      have hfb := HF.out
      rw [e] at hfb
      rw [e]
      unfold KeyPost
      rw [hfb]
      exact ⟨rfl, hg⟩
end Go.Proofs.YthenhglpljdhfaaDoor
