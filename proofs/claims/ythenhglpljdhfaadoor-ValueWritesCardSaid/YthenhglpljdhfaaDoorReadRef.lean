/-
  The contract of the reference's Read.
-/
import Derived.Test.YthenhglpljdhfaaDoorRead
import Derived.Test.YthenhglpljdhfaaDoorRefK
namespace Go.Proofs.YthenhglpljdhfaaDoor
open Go Go.RowKit

/-- What the reference's Read hands back. -/
def RReadPost (w : World) (l : List UInt8) (e : Ending) (w' : World) : Prop :=
  match readL l with
  | none => e = .returned (.tuple #[.slice none 0 0, .int .i64 3]) ∧ Gr w w'
  | some xs => ∃ v, e = .returned (.tuple #[v, .int .i64 0]) ∧ OwnV w w' v xs ∧ Gr w w'
theorem indexByte_zero (l : List UInt8) : Lib.indexByte l 0 = if l.all (· != 0) then -1 else ((l.takeWhile (· != 0)).length : Int) := by
  induction l with
  | nil => rfl
  | cons b l ih =>
    rw [Lib.indexByte]
    by_cases hb : b = 0
    · subst hb; simp
    · have h2 : (b != 0) = true := by simpa using hb
      have h1 : (b == 0) = false := by simpa using hb
      rw [h1, ih]
      simp only [List.all_cons, h2, Bool.true_and, List.takeWhile_cons]
      by_cases ha : l.all (· != 0) = true
      · simp [ha]
      · simp only [ha]
        simp
theorem has_zero (l : List UInt8) : decide (0 ≤ Lib.indexByte l 0) = !l.all (· != 0) := by
  rw [indexByte_zero]
  cases l.all (· != 0) <;> simp

theorem three_set {w : World} {k : Nat} {x y z u v t : Value} (h0 : w.cell? ⟨k, 0, none⟩ = some x) (h1 : w.cell? ⟨k, 1, none⟩ = some y) (h2 : w.cell? ⟨k, 2, none⟩ = some z) :
    (((w.setCell ⟨k, 0, none⟩ u).setCell ⟨k, 1, none⟩ v).setCell ⟨k, 2, none⟩ t).cell? ⟨k, 0, none⟩ = some u ∧ (((w.setCell ⟨k, 0, none⟩ u).setCell ⟨k, 1, none⟩ v).setCell ⟨k, 2, none⟩ t).cell? ⟨k, 1, none⟩ = some v ∧ (((w.setCell ⟨k, 0, none⟩ u).setCell ⟨k, 1, none⟩ v).setCell ⟨k, 2, none⟩ t).cell? ⟨k, 2, none⟩ = some t := by
  have r := two_set (u := u) (v := v) h0 h1
  have e0 : (⟨k, 2, none⟩ : Addr) ≠ ⟨k, 0, none⟩ := by simp
  have e1 : (⟨k, 2, none⟩ : Addr) ≠ ⟨k, 1, none⟩ := by simp
  refine ⟨?_, ?_, ?_⟩
  · rw [World.cell?_setCell_other _ _ _ _ e0]; exact r.1
  · rw [World.cell?_setCell_other _ _ _ _ e1]; exact r.2
  · have d0 : (⟨k, 0, none⟩ : Addr) ≠ ⟨k, 2, none⟩ := by simp
    have d1 : (⟨k, 1, none⟩ : Addr) ≠ ⟨k, 2, none⟩ := by simp
    exact World.cell?_setCell_same _ _ _ ((World.cell?_setCell_other _ _ _ _ d1).trans ((World.cell?_setCell_other _ _ _ _ d0).trans h2))
set_option maxRecDepth 100000 in
set_option maxHeartbeats 3200000 in
theorem read_ref (s : ByteArray) (hs : s.size < 4294967281) (w : World) : Calls Tryd.prog 46 #[.string s] w (RReadPost w s.data.toList) := by
  obtain ⟨i0, hi, hz0, hz1, hz2⟩ := info_parts info_val
  go_enter Tryd.func46, Tryd.ntmps46
  go_wp2_with fail
  go_loopw [0, 4] (fun x u w' => ReadInv w s.data.toList s.size x u w') (fun x _ _ => lenOf x)
  case atStart => exact ⟨s, [], rfl, by simp, Gr.refl _, ⟨rfl, .inl ⟨rfl, rfl⟩⟩, by simp⟩
  case round =>
    obtain ⟨t, us, rfl, hsz, hg, ho, hrd⟩ := hrel
    have HO := Lib.hid ho
    have HR := Lib.hid hrd
    clear ho hrd
    cases hte : t.data.toList with
    | nil =>
      have hb : t.size = 0 := by rw [size_data, hte]; rfl
      have HT := Lib.hid hte
      clear hte
      go_wp2_with fail
      go_ret2
      unfold RReadPost
      rw [HR.out, HT.out]
      exact ⟨_, rfl, by simpa [readL, readF] using HO.out, hg⟩
    | cons k r =>
      have hpos : 0 < t.size := by rw [size_data, hte]; simp
      have hk := head_is t k r hte hpos
      obtain ⟨R, rfl⟩ : ∃ R : ByteArray, R.data.toList = r := ⟨⟨r.toArray⟩, rfl⟩
      have hrl : t.size = R.size + 1 := by rw [size_data, hte, size_data]; rfl
      have hx : t.extract 1 (R.size + 1) = R := by rw [← hrl, ext_tail t k _ hte]
      have HRE : Hid (readL s.data.toList = (readL (k :: R.data.toList)).map (us ++ ·)) := Lib.hid (by rw [HR.out, hte])
      have hk8 := UInt8.toNat_lt k
      have HTL := Lib.hid hrl
      have hul : us.length + R.size + 1 ≤ s.size := by omega
      clear hte HR
      have hks : k = 1 ∨ k = 2 ∨ k = 3 ∨ (k ≠ 1 ∧ k ≠ 2 ∧ k ≠ 3) := by
        by_cases h1 : k = 1
        · exact .inl h1
        · by_cases h2 : k = 2
          · exact .inr (.inl h2)
          · by_cases h3 : k = 3
            · exact .inr (.inr (.inl h3))
            · exact .inr (.inr (.inr ⟨h1, h2, h3⟩))
      rcases hks with rfl | rfl | rfl | ⟨h1, h2, h3⟩
      · go_wp2_with fail
        refine (right_ref ⟨0, 0, ⟨#[]⟩⟩ (by decide) _).mono ?_
        rintro e w1 ⟨rfl, hg1⟩
        rw [show rightB ⟨0, 0, ⟨#[]⟩⟩ = true from rfl]
        have k0 := hg1.keeps (b := wr.heap.size) (o := 0) (v := .int .i64 0) (by rw [World.cell?_alloc_new]; rfl)
        have k1 := hg1.keeps (b := wr.heap.size) (o := 1) (v := .int .i64 0) (by rw [World.cell?_alloc_new]; rfl)
        have k2 := hg1.keeps (b := wr.heap.size) (o := 2) (v := .string ⟨#[]⟩) (by rw [World.cell?_alloc_new]; rfl)
        have ho1 := ownsRow_gr (OwnV.row HO.out) (((Gr.refl _).alloc _).trans hg1)
        have hgw := (hg.alloc _).trans hg1
        go_wp2_with (at_builtin; refine append_one (a0 := w) rfl _ _ 71 rfl 110 i0 (.agg #[.int .i64 0, .int .i64 0, .string ⟨#[]⟩]) 3 32 Tryd.underlying71 hi hz0 hz1 hz2 rfl (by decide) _ _ _ rfl ho1 [_, _, _] rfl (valCells_one _ _ _) rfl hgw (by omega) (by omega) ?_; intro v4 w4 hown4 hg4)
        exact ⟨⟨R, us ++ [⟨0, 0, ⟨#[]⟩⟩], rfl, by rw [List.length_append]; simp; omega, hg4, ownV_snoc hown4, read_more HRE.out rfl⟩, by show R.size < t.size; rw [HTL.out]; omega⟩
      · by_cases h8 : R.size < 8
        · have g8 : decide ((8 : Int) ≤ (R.size : Int)) = false := by simp; omega
          go_wp2_with fail
          refine bodyPost_ret (v := .tuple #[.slice none 0 0, .int .i64 3]) (by simp [results, Tryd.results46, go_sem]) rfl ?_
          unfold RReadPost
          rw [read_bad HRE.out (by rw [parse1, if_neg (by decide), if_pos rfl, if_pos (by rw [← size_data]; exact h8)])]
          exact ⟨rfl, hg.alloc _⟩
        · have g8 : decide ((8 : Int) ≤ (R.size : Int)) = true := by simp; omega
          go_wp2_with fail
          go_loop [29, 7] (fun i u => ∃ q : Nat, q ≤ 8 ∧ i = .int .i64 q ∧ u = .int .u64 (beN (R.data.toList.take q))) (fun i _ => 8 - (intOf i).toNat)
          case atStart => exact ⟨0, by omega, rfl, rfl⟩
          case round =>
            obtain ⟨q, hq, rfl, rfl⟩ := hrel
            by_cases hq8 : q < 8
            · have hqr : q < R.size := by omega
              have hbl := beN_lt (R.data.toList.take q)
              have hbs := beN_snoc R q hqr
              generalize beN (R.data.toList.take q) = U at *
              have HBS := Lib.hid hbs
              clear hbs
              have hc8 := UInt8.toNat_lt R[q]
              have hU : U < 72057594037927936 := Nat.lt_of_lt_of_le hbl (by
                rw [show (72057594037927936 : Nat) = 256 ^ 7 from rfl]
                exact Nat.pow_le_pow_right (by omega) (by rw [List.length_take]; omega))
              clear hbl
              go_wp2_with fail
              refine ⟨⟨q + 1, by omega, by go_num, ?_⟩, by simp [intOf]; omega⟩
              rw [HBS.out]
              simp
            · obtain rfl : q = 8 := by omega
              have hbl := beN_lt (R.data.toList.take 8)
              have hM : beN (R.data.toList.take 8) < 18446744073709551616 := Nat.lt_of_lt_of_le hbl (by
                rw [show (18446744073709551616 : Nat) = 256 ^ 8 from rfl]
                exact Nat.pow_le_pow_right (by omega) (by rw [List.length_take]; omega))
              clear hbl
              generalize hMM : beN (R.data.toList.take 8) = M at *
              have HMM := Lib.hid hMM
              have HM := Lib.hid hM
              clear hMM hM
              go_wp2_with fail
              have hwm : wrap64 (IntKind.u64.wrap ((M : Int) - 9223372036854775808)) = (M : Int) - 9223372036854775808 := by
                have := HM.out
                show wrap64 (((M : Int) - 9223372036854775808) % 18446744073709551616) = _
                unfold wrap64
                omega
              rw [hwm]
              have hpr : parse1 (2 :: R.data.toList) = some (⟨1, (M : Int) - 9223372036854775808, ⟨#[]⟩⟩, (R.extract 8 R.size).data.toList) := by
                rw [parse1, if_neg (by decide), if_pos rfl, if_neg (by rw [← size_data]; omega), HMM.out, Lib.extract_data, List.take_of_length_le (by rw [List.length_drop, ← size_data]; omega)]
              have hxs : (R.extract 8 R.size).size ≤ R.size := by rw [ByteArray.size_extract]; omega
              generalize hnn : (M : Int) - 9223372036854775808 = n at *
              generalize R.extract 8 R.size = R2 at *
              have HP := Lib.hid hpr
              have HNN := Lib.hid hnn
              clear hpr hnn
              refine (right_ref ⟨1, n, ⟨#[]⟩⟩ (by show (0 : Nat) ≤ 9223372036854775807; omega) _).mono ?_
              rintro e w1 ⟨rfl, hg1⟩
              rw [show rightB ⟨1, n, ⟨#[]⟩⟩ = true from rfl]
              have k0 := hg1.keeps (b := wr.heap.size) (o := 0) (v := .int .i64 1) (by rw [World.cell?_alloc_new]; rfl)
              have k1 := hg1.keeps (b := wr.heap.size) (o := 1) (v := .int .i64 n) (by rw [World.cell?_alloc_new]; rfl)
              have k2 := hg1.keeps (b := wr.heap.size) (o := 2) (v := .string ⟨#[]⟩) (by rw [World.cell?_alloc_new]; rfl)
              have ho1 := ownsRow_gr (OwnV.row HO.out) (((Gr.refl _).alloc _).trans hg1)
              have hgw := (hg.alloc _).trans hg1
              clear hg1
              go_wp2_with (at_builtin; refine append_one (a0 := w) rfl _ _ 71 rfl 110 i0 (.agg #[.int .i64 0, .int .i64 0, .string ⟨#[]⟩]) 3 32 Tryd.underlying71 hi hz0 hz1 hz2 rfl (by decide) _ _ _ rfl ho1 [_, _, _] rfl (valCells_one _ _ _) rfl hgw (by omega) (by omega) ?_; intro v4 w4 hown4 hg4)
              exact ⟨⟨R2, us ++ [⟨1, n, ⟨#[]⟩⟩], rfl, by rw [List.length_append]; simp; omega, hg4, ownV_snoc hown4, read_more HRE.out HP.out⟩, by show R2.size < t.size; rw [HTL.out]; omega⟩
      · cases hal : R.data.toList.all (· != 0)
        · have hcz : ∀ w, Calls Tryd.prog 67 #[.string R, .string ⟨#[0]⟩] w (Ret w (.bool true)) := fun w => (Tryd.strings_Contains_one R 0 w).mono (by
            rintro e w' ⟨rfl, rfl⟩
            rw [has_zero, hal]
            exact ⟨rfl, Gr.refl _⟩)
          have hib := indexByte_zero R.data.toList
          rw [hal] at hib
          simp only [Bool.false_eq_true, if_false] at hib
          have htw := tw_all R.data.toList
          have hpx := List.prefix_iff_eq_take.1 (List.takeWhile_prefix (· != 0) (l := R.data.toList))
          have hlw : (R.data.toList.takeWhile (· != 0)).length < R.size := by
            rw [size_data]
            rcases Nat.lt_or_ge (R.data.toList.takeWhile (· != 0)).length R.data.toList.length with h | h
            · exact h
            · rw [List.take_of_length_le h] at hpx
              rw [hpx] at htw
              rw [htw] at hal
              cases hal
          have hpr : parse1 (3 :: R.data.toList) = if 40 < (R.data.toList.takeWhile (· != 0)).length then none else some (⟨2, 0, ⟨(R.data.toList.takeWhile (· != 0)).toArray⟩⟩, R.data.toList.drop ((R.data.toList.takeWhile (· != 0)).length + 1)) := by
            rw [parse1, if_neg (by decide), if_neg (by decide), if_pos rfl, if_neg (by rw [hal]; decide)]
          generalize R.data.toList.takeWhile (· != 0) = x at *
          have HCU := Lib.hid hib
          have HP := Lib.hid hpr
          have HTW := Lib.hid htw
          have HPX := Lib.hid hpx
          have HCZ := Lib.hid hcz
          clear hib hpr htw hal hpx hcz
          go_wp2_with (first | (go_at_call 67; refine (HCZ.out _).mono ?_; rintro e w1 ⟨rfl, hg1⟩; have k0 := hg1.keeps (b := wr.heap.size) (o := 0) (v := .int .i64 0) (by rw [World.cell?_alloc_new]; rfl); have k1 := hg1.keeps (b := wr.heap.size) (o := 1) (v := .int .i64 0) (by rw [World.cell?_alloc_new]; rfl); have k2 := hg1.keeps (b := wr.heap.size) (o := 2) (v := .string ⟨#[]⟩) (by rw [World.cell?_alloc_new]; rfl); have f0 := (hg1.frozen (b := wr.heap.size) 0 (by simp)).trans (World.frozen?_alloc_new ..); have f1 := (hg1.frozen (b := wr.heap.size) 1 (by simp)).trans (World.frozen?_alloc_new ..); have f2 := (hg1.frozen (b := wr.heap.size) 2 (by simp)).trans (World.frozen?_alloc_new ..)) | (go_at_call 68; refine (Tryd.strings_Index_one R 0 _).mono ?_; rintro e w2 ⟨rfl, rfl⟩; rw [HCU.out]))
          have r := three_set (u := .int .i64 2) (v := .int .i64 0) (t := .string (R.extract 0 x.length)) k0 k1 k2
          have hsz1 := hg1.size
          simp only [World.size_alloc] at hsz1
          have ho1 := ownsRow_gr (OwnV.row HO.out) (((Gr.refl _).alloc _).trans hg1)
          have hnb : ∀ o, ¬ u4.ownBlock = some (⟨wr.heap.size, o, none⟩ : Addr).block := fun o h => Nat.lt_irrefl _ (ownBlock_lt (OwnV.row HO.out) _ h)
          have ho2 := ownsRow_setCell_at (ownsRow_setCell_at (ownsRow_setCell_at ho1 (u := .int .i64 2) (hnb 0)) (u := .int .i64 0) (hnb 1)) (u := .string (R.extract 0 x.length)) (hnb 2)
          have hwb := hg.size
          have hgs := ((((hg.alloc _).trans hg1).setCell (p := ⟨wr.heap.size, 0, none⟩) hwb (.int .i64 2)).setCell (p := ⟨wr.heap.size, 1, none⟩) hwb (.int .i64 0)).setCell (p := ⟨wr.heap.size, 2, none⟩) hwb (.string (R.extract 0 x.length))
          have hex : R.extract 0 x.length = ⟨x.toArray⟩ := by
            apply bytes_ext
            rw [Lib.extract_data, List.drop_zero, Nat.sub_zero]
            exact HPX.out.symm
          have hed : (R.extract (x.length + 1) R.size).data.toList = R.data.toList.drop (x.length + 1) := by
            rw [Lib.extract_data, List.take_of_length_le (by rw [List.length_drop, ← size_data]; omega)]
          have hxs : (R.extract (x.length + 1) R.size).size ≤ R.size := by rw [ByteArray.size_extract]; omega
          generalize R.extract (x.length + 1) R.size = R2 at *
          rw [hex] at r ho2 hgs ⊢
          rw [← hed] at HP
          have HED := Lib.hid hed
          clear hed hex k0 k1 k2 f0 f1 f2 ho1 hnb
          generalize (((w2.setCell { block := wr.heap.size, off := 0, spot := none } (Value.int IntKind.i64 2)).setCell { block := wr.heap.size, off := 1, spot := none } (Value.int IntKind.i64 0)).setCell { block := wr.heap.size, off := 2, spot := none } (Value.string ⟨x.toArray⟩)) = W2 at *
          cases hrb : rightB ⟨2, 0, ⟨x.toArray⟩⟩
          · have HRB := Lib.hid hrb
            have HPB := Lib.hid (right_long x HTW.out hrb)
            clear hrb
            refine (right_ref ⟨2, 0, ⟨x.toArray⟩⟩ (by rw [size_data]; show x.length ≤ _; omega) _).mono ?_
            rintro e w3 ⟨rfl, hg3⟩
            rw [HRB.out]
            go_wp2_with fail
            refine bodyPost_ret (v := .tuple #[.slice none 0 0, .int .i64 3]) (by simp [results, Tryd.results46, go_sem]) rfl ?_
            unfold RReadPost
            rw [read_bad HRE.out (by rw [HP.out, if_pos HPB.out])]
            exact ⟨rfl, hgs.trans hg3⟩
          · have HRB := Lib.hid hrb
            have HPB := Lib.hid (right_short x hrb)
            clear hrb
            refine (right_ref ⟨2, 0, ⟨x.toArray⟩⟩ (by rw [size_data]; show x.length ≤ _; omega) _).mono ?_
            rintro e w3 ⟨rfl, hg3⟩
            rw [HRB.out]
            have c0 := hg3.keeps r.1
            have c1 := hg3.keeps r.2.1
            have c2 := hg3.keeps r.2.2
            have ho3 := ownsRow_gr ho2 hg3
            have hgw := hgs.trans hg3
            clear ho2 hgs hg3 r
            go_wp2_with (at_builtin; refine append_one (a0 := w) rfl _ _ 71 rfl 110 i0 (.agg #[.int .i64 0, .int .i64 0, .string ⟨#[]⟩]) 3 32 Tryd.underlying71 hi hz0 hz1 hz2 rfl (by decide) _ _ _ rfl ho3 [_, _, _] rfl (valCells_one _ _ _) rfl hgw (by omega) (by omega) ?_; intro v4 w4 hown4 hg4)
            exact ⟨⟨R2, us ++ [⟨2, 0, ⟨x.toArray⟩⟩], rfl, by rw [List.length_append]; simp only [List.length_cons, List.length_nil]; omega, hg4, ownV_snoc hown4, read_more HRE.out (by rw [HP.out, if_neg HPB.out])⟩, Nat.lt_of_le_of_lt hxs (by show R.size < t.size; rw [HTL.out]; omega)⟩
        · have hcz : ∀ w, Calls Tryd.prog 67 #[.string R, .string ⟨#[0]⟩] w (Ret w (.bool false)) := fun w => (Tryd.strings_Contains_one R 0 w).mono (by
            rintro e w' ⟨rfl, rfl⟩
            rw [has_zero, hal]
            exact ⟨rfl, Gr.refl _⟩)
          have hpr : parse1 (3 :: R.data.toList) = none := by
            rw [parse1, if_neg (by decide), if_neg (by decide), if_pos rfl, if_pos hal]
          have HP := Lib.hid hpr
          have HCZ := Lib.hid hcz
          clear hpr hal hcz
          go_wp2_with (go_at_call 67; refine (HCZ.out _).mono ?_; rintro e w1 ⟨rfl, hg1⟩)
          refine bodyPost_ret (v := .tuple #[.slice none 0 0, .int .i64 3]) (by simp [results, Tryd.results46, go_sem]) rfl ?_
          unfold RReadPost
          rw [read_bad HRE.out HP.out]
          exact ⟨rfl, (hg.alloc _).trans hg1⟩
      · have g1 : ((k.toNat : Int) == 1) = false := by have := not_byte h1; simp at this ⊢; omega
        have g2 : ((k.toNat : Int) == 2) = false := by have := not_byte h2; simp at this ⊢; omega
        have g3 : ((k.toNat : Int) == 3) = false := by have := not_byte h3; simp at this ⊢; omega
        have hpr : parse1 (k :: R.data.toList) = none := by rw [parse1, if_neg h1, if_neg h2, if_neg h3]
        have HP := Lib.hid hpr
        clear hpr h1 h2 h3
        go_wp2_with fail
        refine bodyPost_ret (v := .tuple #[.slice none 0 0, .int .i64 3]) (by simp [results, Tryd.results46, go_sem]) rfl ?_
        unfold RReadPost
        rw [read_bad HRE.out HP.out]
        exact ⟨rfl, hg.alloc _⟩
end Go.Proofs.YthenhglpljdhfaaDoor
