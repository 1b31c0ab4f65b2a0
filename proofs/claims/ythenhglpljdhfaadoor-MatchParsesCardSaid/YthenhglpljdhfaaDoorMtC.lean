/-
  match.cut and concordanceref.pieces: the pieces of a text.
-/
import Derived.Test.YthenhglpljdhfaaDoorMtA
import Derived.WalkLawsBesides
namespace Go.Proofs.YthenhglpljdhfaaDoor
open Go Go.RowKit

/-- match throws a number of what is wrong. -/
def Thrown (n : Int) : Ending := .panicked [{ v := .iface 130 (.agg #[.int .i64 n]), recovered := false }]
theorem fail_t (n : Int) (w : World) : Calls Tryd.prog 78 #[.int .i64 n] w (fun e w' => e = Thrown n ∧ w' = w) := by
  go_enter Tryd.func78, Tryd.ntmps78
  go_wp2_with fail
  exact ⟨rfl, rfl, rfl⟩
def sizeOfS (v : Value) : Nat := match v with | .string t => t.size | _ => 0
def CutPost (w : World) (R : Option (List ByteArray)) (e : Ending) (w' : World) : Prop :=
  match R with
  | none => e = Thrown 3 ∧ Gr w w'
  | some ps => RetS w ps e w'
theorem ext_take (t : ByteArray) (k : Nat) : t.extract 0 k = bsL (t.data.toList.take k) := by
  apply bytes_ext
  rw [Lib.extract_data, bsL_data]
  simp
theorem ext_drop (t : ByteArray) (k : Nat) : (t.extract k t.size).data.toList = t.data.toList.drop k := by
  rw [Lib.extract_data]
  exact List.take_of_length_le (by rw [List.length_drop, ← size_data]; exact Nat.le_refl _)
set_option maxRecDepth 100000 in
set_option maxHeartbeats 1600000 in
theorem cut_t (s : ByteArray) (hs : s.size ≤ 1000) (w : World) : Calls Tryd.prog 75 #[.string s] w (CutPost w (cutN s.size s.data.toList)) := by
  obtain ⟨i0, hi, hz0, hz1, hz2⟩ := info_parts info_string
  generalize hR : cutN s.size s.data.toList = R
  have HR := Lib.hid hR
  clear hR
  go_enter Tryd.func75, Tryd.ntmps75
  go_wp2_with fail
  go_loopw [0, 3] (fun sv v w' => ∃ (t : ByteArray) (us : List ByteArray) (n : Nat), sv = .string t ∧ t.size ≤ n ∧ t.size ≤ 1000 ∧ us.length + t.size ≤ 1000 ∧ Gr w w' ∧ OwnS w' w.heap.size v us ∧ (cutN n t.data.toList).map (us ++ ·) = R) (fun sv _ _ => sizeOfS sv)
  case atStart => exact ⟨s, [], s.size, rfl, Nat.le_refl _, hs, by simpa using hs, Gr.refl _, ⟨rfl, .inl ⟨rfl, rfl⟩⟩, by rw [HR.out]; cases R <;> simp⟩
  case round =>
    obtain ⟨t, us, n, rfl, hn, ht, hul, hg, hown, hcut⟩ := hrel
    have HO := Lib.hid hown
    have HC := Lib.hid hcut
    clear hown hcut
    cases hl : t.data.toList with
    | nil =>
      have hb : t.toList.isEmpty = true := by rw [ByteArray.toList_eq, hl]; rfl
      have HL := Lib.hid hl
      clear hl
      go_wp2_with fail
      go_ret
      have hc := HC.out
      rw [HL.out] at hc
      have : R = some us := by rw [← hc]; cases n <;> simp [cutN]
      rw [this]
      exact ⟨_, rfl, HO.out, hg⟩
    | cons c r =>
      have hb : t.toList.isEmpty = false := by rw [ByteArray.toList_eq, hl]; rfl
      have hts : t.size = r.length + 1 := by rw [size_data, hl]; rfl
      have h0 : 0 < t.size := by omega
      have hc0 : t[0] = c := by rw [get_data t 0 h0]; simp [hl]
      obtain ⟨n, rfl⟩ : ∃ m, n = m + 1 := ⟨n - 1, by omega⟩
      have hix := fun W => index_any t (by omega) W
      have hown' := HO.out
      rw [hl] at hix
      have HL := Lib.hid hl
      have HTS := Lib.hid hts
      clear hts
      by_cases hall : (c :: r).all (fun x => !signB x) = true
      · have hv : idxSign (c :: r) = -1 := by unfold idxSign; rw [if_pos hall]
        rw [hv] at hix
        have HIX := Lib.hid hix
        have hca := cut_all n hall
        have HCA := Lib.hid hca
        clear hl hix hc0 hv hall hca
        go_wp2_with (first
          | (go_at_call 96; refine (HIX.out _).mono ?_; rintro e w1 ⟨rfl, hg1⟩; have hg2 := hg.trans hg1; have hown2 := ownsRow_gr hown' hg1)
          | (at_builtin; refine append_one (a0 := w) rfl _ _ 24 rfl 9 i0 (.string ⟨#[]⟩) 1 16 Tryd.underlying24 hi hz0 hz1 hz2 rfl (by decide) _ us.length (us.map Value.string) rfl hown2 [_] rfl (by simp; rfl) rfl hg2 (by omega) (by omega) ?_; intro v4 w4 hown4 hg4))
        go_ret
        have hc := HC.out
        rw [HL.out, HCA.out] at hc
        have he : R = some (us ++ [t]) := by
          rw [← hc]
          show some (us ++ [bsL (c :: r)]) = _
          rw [← HL.out, show bsL t.data.toList = t from rfl]
        rw [he]
        refine ⟨_, rfl, ?_, hg4⟩
        unfold OwnS
        rw [List.length_append, List.map_append]
        exact hown4
      · cases hsc : signB c
        · have hkd : ∃ K : Nat, ((c :: r).takeWhile (fun x => !signB x)).length = K + 1 := ⟨(r.takeWhile (fun x => !signB x)).length, by simp [hsc]⟩
          obtain ⟨K, hK⟩ := hkd
          obtain ⟨hlt, _⟩ := tw_lt (fun x => !signB x) (c :: r) (by simpa using hall)
          rw [hK] at hlt
          have hlt' : K + 1 < t.size := by rw [HTS.out]; exact hlt
          have hv : idxSign (c :: r) = ((K + 1 : Nat) : Int) := by unfold idxSign; rw [if_neg hall, hK]
          rw [hv] at hix
          have HIX := Lib.hid hix
          have hca := cut_word n hsc (r := r)
          rw [← take_tw, ← drop_tw, hK, ← hl] at hca
          have HCA := Lib.hid hca
          have g3 : 0 < K + 1 := by omega
          have g1 : decide (((K + 1 : Nat) : Int) < 0) = false := by simp; omega
          have g2 : decide ((0 : Int) < ((K + 1 : Nat) : Int)) = true := by simp
          clear hl hix hc0 hv hall hca hK hsc
          generalize K + 1 = k at *
          go_wp2_with (first
            | (go_at_call 96; refine (HIX.out _).mono ?_; rintro e w1 ⟨rfl, hg1⟩; have hg2 := hg.trans hg1; have hown2 := ownsRow_gr hown' hg1)
            | (at_builtin; refine append_one (a0 := w) rfl _ _ 24 rfl 9 i0 (.string ⟨#[]⟩) 1 16 Tryd.underlying24 hi hz0 hz1 hz2 rfl (by decide) _ us.length (us.map Value.string) rfl hown2 [_] rfl (by simp; rfl) rfl hg2 (by omega) (by omega) ?_; intro v4 w4 hown4 hg4))
          have hx : (t.extract k t.size).size = t.size - k := by rw [size_data, ext_drop, List.length_drop, ← size_data]
          refine ⟨⟨t.extract k t.size, us ++ [t.extract 0 k], n, rfl, by omega, by omega, by simp; omega, hg4, ?_, ?_⟩, by simp [sizeOfS]; omega⟩
          · unfold OwnS
            rw [List.length_append, List.map_append]
            exact hown4
          · rw [ext_drop, ext_take, ← HC.out, HCA.out]
            cases cutN n (t.data.toList.drop k) <;> simp
        · have hv : idxSign (c :: r) = 0 := by unfold idxSign; rw [if_neg hall]; simp [hsc]
          rw [hv] at hix
          have HIX := Lib.hid hix
          have h1s : 1 ≤ t.size := h0
          have hd1 : (t.extract 1 t.size).data.toList = r := by rw [ext_drop, hl]; rfl
          by_cases h34 : c = 34
          · have hq : (((t[0].toNat : Nat) : Int) == 34) = true := by rw [hc0, h34]; rfl
            have hib : ∀ W, Calls Tryd.prog 91 #[.string (t.extract 1 t.size), .int .u8 34] W (Ret W (.int .i64 (if r.all (· != 34) = true then -1 else ((r.takeWhile (· != 34)).length : Int)))) := fun W => by
              have h := Tryd.strings_IndexByte (t.extract 1 t.size) 34 W
              rw [show ((34 : Int)).toNat.toUInt8 = 34 from rfl, hd1, indexByte_tw] at h
              exact Ret.of_same h
            subst h34
            by_cases hq2 : r.all (· != 34) = true
            · rw [if_pos hq2] at hib
              have hco := cut_open n r hq2
              have HCO := Lib.hid hco
              have HIB := Lib.hid hib
              clear hl hix hc0 hv hall hsc hib hq2 hco hd1
              go_wp2_with (first
                | (go_at_call 96; refine (HIX.out _).mono ?_; rintro e w1 ⟨rfl, hg1⟩; have hg2 := hg.trans hg1; have hown2 := ownsRow_gr hown' hg1)
                | (go_at_call 91; refine (HIB.out _).mono ?_; rintro e w3 ⟨rfl, hg3⟩; have hg5 := hg2.trans hg3)
                | (go_at_call 78; refine (fail_t 3 _).mono ?_; rintro e w6 ⟨rfl, rfl⟩; unfold Thrown))
              have hc := HC.out
              rw [HL.out, HCO.out] at hc
              have he : R = none := by rw [← hc]; rfl
              rw [he]
              exact ⟨rfl, rfl, hg5⟩
            · obtain ⟨hE, _⟩ := tw_lt (· != 34) r (by simpa using hq2)
              rw [if_neg hq2] at hib
              have hco := cut_quote n r (by simpa using hq2)
              rw [show bsL (34 :: r.takeWhile (· != 34)) = t.extract 0 ((r.takeWhile (· != 34)).length + 1) by rw [ext_take, hl, List.take_succ_cons, take_tw], show r.drop ((r.takeWhile (· != 34)).length + 1) = (t.extract ((r.takeWhile (· != 34)).length + 2) t.size).data.toList by rw [ext_drop, hl]; rfl] at hco
              have HCO := Lib.hid hco
              have hts' := HTS.out
              generalize hEE : (r.takeWhile (· != 34)).length = E at *
              have hE2 : E + 2 ≤ t.size := by omega
              have HIB := Lib.hid hib
              have gE : decide ((E : Int) < 0) = false := by simp
              clear hl hix hc0 hv hall hsc hib hq2 hco hd1 hts' hEE
              go_wp2_with (first
                | (go_at_call 96; refine (HIX.out _).mono ?_; rintro e w1 ⟨rfl, hg1⟩; have hg2 := hg.trans hg1; have hown2 := ownsRow_gr hown' hg1)
                | (go_at_call 91; refine (HIB.out _).mono ?_; rintro e w3 ⟨rfl, hg3⟩; have hg2 := hg2.trans hg3; have hown2 := ownsRow_gr hown2 hg3)
                | (at_builtin; refine append_one (a0 := w) rfl _ _ 24 rfl 9 i0 (.string ⟨#[]⟩) 1 16 Tryd.underlying24 hi hz0 hz1 hz2 rfl (by decide) _ us.length (us.map Value.string) rfl hown2 [_] rfl (by simp; rfl) rfl hg2 (by omega) (by omega) ?_; intro v4 w4 hown4 hg4))
              have hx : (t.extract (E + 2) t.size).size = t.size - (E + 2) := by rw [size_data, ext_drop, List.length_drop, ← size_data]
              refine ⟨⟨t.extract (E + 2) t.size, us ++ [t.extract 0 (E + 1)], n, rfl, by omega, by omega, by simp; omega, hg4, ?_, ?_⟩, by simp [sizeOfS]; omega⟩
              · unfold OwnS
                rw [List.length_append, List.map_append]
                exact hown4
              · rw [← HC.out, HL.out, HCO.out]
                cases cutN n (t.extract (E + 2) t.size).data.toList <;> simp
          · have hq : (((t[0].toNat : Nat) : Int) == 34) = false := by
              rw [hc0, Bool.eq_false_iff]
              intro h
              have := beq_iff_eq.1 h
              exact h34 (UInt8.toNat_inj.1 (by show c.toNat = 34; omega))
            have hx : (t.extract 1 t.size).size = t.size - 1 := by rw [size_data, ext_drop, List.length_drop, ← size_data]
            by_cases h32 : c = 32
            · have hq3 : (((t[0].toNat : Nat) : Int) != 32) = false := by rw [hc0, h32]; rfl
              subst h32
              have hco := cut_blank n r
              rw [← hd1] at hco
              have HCO := Lib.hid hco
              have HL2 := Lib.hid hd1
              clear hl hix hc0 hv hall hsc hco hd1
              go_wp2_with (first
                | (go_at_call 96; refine (HIX.out _).mono ?_; rintro e w1 ⟨rfl, hg1⟩; have hg2 := hg.trans hg1; have hown2 := ownsRow_gr hown' hg1))
              refine ⟨⟨t.extract 1 t.size, us, n, rfl, by omega, by omega, by omega, hg2, hown2, ?_⟩, by simp [sizeOfS]; omega⟩
              rw [← HC.out, HL.out, ← HL2.out]
              exact congrArg _ HCO.out.symm
            · have hq3 : (((t[0].toNat : Nat) : Int) != 32) = true := by
                rw [hc0, bne_iff_ne]
                intro h
                exact h32 (UInt8.toNat_inj.1 (by show c.toNat = 32; omega))
              have hco := cut_mark n r hsc h32 h34
              rw [show bsL [c] = t.extract 0 1 by rw [ext_take, hl]; rfl, ← hd1] at hco
              have HCO := Lib.hid hco
              have HL2 := Lib.hid hd1
              clear hl hix hc0 hv hall hsc hco hd1
              go_wp2_with (first
                | (go_at_call 96; refine (HIX.out _).mono ?_; rintro e w1 ⟨rfl, hg1⟩; have hg2 := hg.trans hg1; have hown2 := ownsRow_gr hown' hg1)
                | (at_builtin; refine append_one (a0 := w) rfl _ _ 24 rfl 9 i0 (.string ⟨#[]⟩) 1 16 Tryd.underlying24 hi hz0 hz1 hz2 rfl (by decide) _ us.length (us.map Value.string) rfl hown2 [_] rfl (by simp; rfl) rfl hg2 (by omega) (by omega) ?_; intro v4 w4 hown4 hg4))
              refine ⟨⟨t.extract 1 t.size, us ++ [t.extract 0 1], n, rfl, by omega, by omega, by simp; omega, hg4, ?_, ?_⟩, by simp [sizeOfS]; omega⟩
              · unfold OwnS
                rw [List.length_append, List.map_append]
                exact hown4
              · rw [← HC.out, HL.out, ← HL2.out, HCO.out]
                cases cutN n (t.extract 1 t.size).data.toList <;> simp
end Go.Proofs.YthenhglpljdhfaaDoor
