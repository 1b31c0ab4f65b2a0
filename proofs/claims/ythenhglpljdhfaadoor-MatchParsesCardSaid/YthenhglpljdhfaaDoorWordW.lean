/-
  Lists of texts of the call's own; contracts of word.letter, word.Split, the reference's Words and sameTexts.
-/
import Derived.Test.YthenhglpljdhfaaDoorWordT
import Derived.Test.YthenhglpljdhfaaDoorWordP
import Derived.Deep.DeepCutAuto
namespace Go.Proofs.YthenhglpljdhfaaDoor
open Go Go.RowKit

theorem letter_t (c : UInt8) (w : World) : Calls Tryd.prog 54 #[.int .u8 (c.toNat : Int)] w fun e w' => e = .returned (.bool (letterB c)) ∧ w' = w := by
  have hr := UInt8.toNat_lt c
  generalize hb : letterB c = b
  have HB := Lib.hid hb
  clear hb
  go_enter Tryd.func54, Tryd.ntmps54
  go_wp2_with fail
  all_goals
    go_ret
    refine ⟨congrArg (fun x => Ending.returned (Value.bool x)) ?_, rfl⟩
    rw [← HB.out]
    unfold letterB
    first | (simp [*]; done) | (rw [Bool.eq_iff_iff]; simp only [Bool.or_eq_true, Bool.and_eq_true, decide_eq_true_eq]; omega)

theorem letter_small (c : UInt8) : letterB (smallC c) = letterB c := by
  by_cases h : (65 : Int) ≤ (c.toNat : Int) ∧ (c.toNat : Int) ≤ 90
  · have e := smallC_yes c h.1 h.2
    unfold letterB
    rw [e, Bool.eq_iff_iff]
    simp only [Bool.or_eq_true, Bool.and_eq_true, decide_eq_true_eq]
    omega
  · rw [smallC_no c h]

/-- A word, of a run in small letters. -/
def wordY (y : List UInt8) : ByteArray := stemS ⟨(y.take 12).toArray⟩
def splitY (l : List UInt8) : List ByteArray := (runsA letterB [] l).map wordY
/-- The words of a text. -/
def splitS (s : ByteArray) : List ByteArray := splitY (smallS s).data.toList

/-- A list of texts of the call's own. -/
def OwnS (w : World) (B : Nat) (v : Value) (ws : List ByteArray) : Prop := w.ownsRow B 9 1 v ws.length (ws.map Value.string)
/-- It hands back a list of texts of its own. -/
def RetS (w : World) (ws : List ByteArray) (e : Ending) (w' : World) : Prop := ∃ v, e = .returned v ∧ OwnS w' w.heap.size v ws ∧ Gr w w'

theorem info_string : (Tryd.prog.info? 9).map (fun i => (i.zero, i.size, i.bytes)) = some (some (.string ⟨#[]⟩), 1, 16) := by kernel_rfl

theorem take_letters (l : List UInt8) (j m : Nat) (hjm : j ≤ m) (hm : m < l.length) (h : ((l.drop j).take (m - j)).all letterB = true) (hl : letterB l[m] = true) : ((l.drop j).take (m + 1 - j)).all letterB = true := by
  rw [show m + 1 - j = (m - j) + 1 from by omega, List.take_succ_eq_append_getElem (by simp; omega), List.all_append, h]
  simp [show j + (m - j) = m from by omega, hl]
theorem split_at (l : List UInt8) (j m : Nat) (hjm : j ≤ m) (hm : m ≤ l.length) (h : ((l.drop j).take (m - j)).all letterB = true) (hl : ∀ h : m < l.length, letterB l[m] = false) :
    splitY (l.drop j) = (if j < m then [wordY ((l.drop j).take (m - j))] else []) ++ splitY (l.drop (m + 1)) := by
  unfold splitY
  rcases Nat.lt_or_ge m l.length with hlt | hge
  · have e : l.drop j = (l.drop j).take (m - j) ++ l[m] :: l.drop (m + 1) := by
      rw [← List.drop_eq_getElem_cons hlt]
      have := List.take_append_drop (m - j) (l.drop j)
      rw [List.drop_drop, show j + (m - j) = m from by omega] at this
      exact this.symm
    split
    · rename_i hj
      conv => lhs; rw [e]
      rw [runs_stop letterB _ _ _ h (by intro h0; have := congrArg List.length h0; simp at this; omega) (hl hlt)]
      rfl
    · have hjm' : m = j := by omega
      subst hjm'
      rw [List.drop_eq_getElem_cons hlt, runs_skip letterB _ _ (hl hlt)]
      rfl
  · have hm' : m = l.length := by omega
    subst hm'
    rw [List.drop_eq_nil_of_le (Nat.le_succ _)]
    have e : (l.drop j).take (l.length - j) = l.drop j := by rw [List.take_of_length_le (by simp)]
    rw [e] at h ⊢
    split
    · rename_i hj
      rw [runs_last letterB _ h (by intro h0; have := congrArg List.length h0; simp at this; omega)]
      rfl
    · rw [List.drop_eq_nil_of_le (by omega)]
      rfl

theorem ext_word (t : ByteArray) (j m : Nat) (hjm : j ≤ m) : t.extract j (min (m : Int) ((j : Int) + 12)).toNat = ⟨(((t.data.toList.drop j).take (m - j)).take 12).toArray⟩ := by
  refine bytes_ext ?_
  rw [Lib.extract_data, List.take_take]
  simp only
  congr 1
  omega

set_option maxRecDepth 100000 in
set_option maxHeartbeats 1600000 in
theorem split_t (s : ByteArray) (hs : s.size ≤ 1000000) (w : World) (he : EndsAt w) : Calls Tryd.prog 15 #[.string s] w (RetS w (splitS s)) := by
  obtain ⟨i0, hi, hz0, hz1, hz2⟩ := info_parts info_string
  have HE := Lib.hid he
  clear he
  generalize hws : splitS s = ws
  unfold splitS at hws
  have hsz : (smallS s).size = s.size := by rw [size_data, size_data]; simp [smallS]
  have HW := Lib.hid hws
  have HZ := Lib.hid hsz
  clear hws hsz
  go_enter Tryd.func15, Tryd.ntmps15
  go_wp2_with (go_at_call 10; refine (small_t s (by omega) _).mono ?_; rintro e w1 ⟨rfl, hg1⟩)
  have hs2 : (smallS s).size ≤ 1000000 := by rw [HZ.out]; exact hs
  clear HZ
  generalize smallS s = t at *
  go_loopw [4, 3] (fun i v w' => ∃ (j : Nat) (us : List ByteArray), j ≤ t.size + 1 ∧ i = .int .i64 j ∧ us.length ≤ j ∧ Gr w w' ∧ OwnS w' w.heap.size v us ∧ us ++ splitY (t.data.toList.drop j) = splitY t.data.toList) (fun i _ _ => t.size + 1 - (intOf i).toNat)
  case atStart => exact ⟨0, [], by omega, rfl, by simp, hg1, ⟨rfl, .inl ⟨rfl, rfl⟩⟩, rfl⟩
  case round =>
    obtain ⟨j, us, hj, rfl, hul, hg, hown, hst⟩ := hrel
    have HS := Lib.hid hst
    have HO := Lib.hid hown
    clear hst hown
    by_cases hlt : j < t.size
    · go_wp2_with fail
      go_loop [5] (fun n => ∃ m : Nat, j ≤ m ∧ m ≤ t.size ∧ n = .int .i64 m ∧ ((t.data.toList.drop j).take (m - j)).all letterB = true) (fun n => t.size - (intOf n).toNat)
      case atStart => exact ⟨j, Nat.le_refl _, by omega, rfl, by simp⟩
      case round =>
        obtain ⟨m, hjm, hm, rfl, hall⟩ := hrel
        have HA := Lib.hid hall
        clear hall
        by_cases hmt : m < t.size ∧ ∃ h : m < t.size, letterB t[m] = true
        · obtain ⟨hmt, _, hlb⟩ := hmt
          have hr := UInt8.toNat_lt t[m]
          have HL := Lib.hid hlb
          clear hlb
          go_wp2_with (go_at_call 54; refine (letter_t t[m] _).mono ?_; rintro e w1 ⟨rfl, rfl⟩; rw [HL.out])
          refine ⟨⟨m + 1, by omega, by omega, by go_num, ?_⟩, by simp [intOf]; omega⟩
          exact take_letters t.data.toList j m hjm (by rw [← size_data]; exact hmt) HA.out (by rw [← get_data t m hmt]; exact HL.out)
        · have hst := split_at t.data.toList j m hjm (by rw [← size_data]; exact hm) HA.out (fun h => by
            have h' : m < t.size := by rw [size_data]; exact h
            rw [← get_data t m h', Bool.eq_false_iff]
            exact fun h2 => hmt ⟨h', h', h2⟩)
          have HL := Lib.hid hst
          have hlf : ∀ h : m < t.size, letterB t[m] = false := fun h => by rw [Bool.eq_false_iff]; exact fun h2 => hmt ⟨h, h, h2⟩
          have HF := Lib.hid hlf
          clear hst hmt hlf
          by_cases hjm2 : j < m
          · have hx := ext_word t j m hjm
            generalize hy : (t.data.toList.drop j).take (m - j) = y at *
            have HX := Lib.hid hx
            clear hx
            have HY := Lib.hid hy
            clear hy
            have hsy : (⟨(y.take 12).toArray⟩ : ByteArray).size ≤ 4611686018427387904 := by rw [size_data]; simp; omega
            go_wp2_with (go_at_call 54; refine (letter_t t[m] _).mono ?_; rintro e w1 ⟨rfl, rfl⟩; rw [HF.out])
            all_goals
              rw [HX.out]
              refine (stem_t _ hsy _ (HE.out.gr hg)).mono ?_
              rintro e w2 ⟨rfl, hg2⟩
              have hown2 := ownsRow_gr HO.out hg2
              have hg3 := hg.trans hg2
              clear hg2
              go_wp2_with (at_builtin; refine append_one (a0 := w) rfl _ _ 24 rfl 9 i0 (.string ⟨#[]⟩) 1 16 Tryd.underlying24 hi hz0 hz1 hz2 rfl (by decide) _ us.length (us.map Value.string) rfl hown2 [_] rfl (by simp; rfl) rfl hg3 (by omega) (by omega) ?_; intro v4 w4 hown4 hg4)
            all_goals
              refine ⟨⟨m + 1, us ++ [wordY y], by omega, by go_num, by rw [List.length_append]; simp; omega, hg4, ?_, ?_⟩, by simp [intOf]; omega⟩
              · unfold OwnS
                rw [List.length_append, List.map_append]
                exact hown4
              · rw [← HS.out, HL.out, if_pos hjm2, List.append_assoc]
          · obtain rfl : m = j := by omega
            go_wp2_with (go_at_call 54; refine (letter_t t[m] _).mono ?_; rintro e w1 ⟨rfl, rfl⟩; rw [HF.out])
            exact ⟨⟨m + 1, us, by omega, by go_num, by omega, hg, HO.out, by rw [← HS.out, HL.out, if_neg (Nat.lt_irrefl _)]; rfl⟩, by simp [intOf]; omega⟩
    · go_wp2_with fail
      go_ret
      refine ⟨_, rfl, ?_, hg⟩
      have hx := HS.out
      rw [List.drop_eq_nil_of_le (by rw [← size_data]; omega)] at hx
      have hx' : us = ws := by rw [← HW.out, ← hx]; simp [splitY, runsA]
      rw [← hx']
      exact HO.out

theorem runs_length (p : UInt8 → Bool) (l : List UInt8) : ∀ cur, (runsA p cur l).length ≤ l.length + 1 := by
  induction l with
  | nil => intro cur; rw [runsA]; split <;> simp
  | cons c l ih =>
    intro cur
    rw [runsA]
    split
    · exact Nat.le_trans (ih _) (by simp)
    · split
      · exact Nat.le_trans (ih _) (by simp)
      · simp only [List.length_cons]; have := ih []; omega
theorem splitS_length (s : ByteArray) (h : s.size ≤ 1000000) : (splitS s).length ≤ 4611686018427387904 := by
  unfold splitS splitY
  rw [List.length_map]
  have := runs_length letterB (smallS s).data.toList []
  have e : (smallS s).data.toList.length = s.size := by rw [size_data]; simp [smallS]
  omega

theorem splitS_eq (s : ByteArray) : splitS s = (runsA letterB [] s.data.toList).map (fun x => wordY (x.map smallC)) := by
  unfold splitS splitY smallS
  have := runs_map letterB smallC letter_small s.data.toList []
  rw [List.map_nil] at this
  simp only
  rw [this, List.map_map]
  rfl

theorem smallS_size (x : ByteArray) : (smallS x).size = x.size := by rw [size_data, size_data]; simp [smallS]
theorem word_short (x : ByteArray) (h : x.size ≤ 12) : stemS (smallS x) = wordY (x.data.toList.map smallC) := by
  unfold wordY
  rw [List.take_of_length_le (by rw [List.length_map, ← size_data]; exact h)]
  rfl
theorem word_long (x : ByteArray) (_h : ¬ x.size ≤ 12) : stemS ((smallS x).extract 0 12) = wordY (x.data.toList.map smallC) := by
  unfold wordY
  congr 1
  refine bytes_ext ?_
  rw [Lib.extract_data]
  simp [smallS]

set_option maxRecDepth 100000 in
set_option maxHeartbeats 3200000 in
theorem words_ref (s : ByteArray) (hs : s.size ≤ 1000000) (w : World) : Calls Tryd.prog 16 #[.string s] w (RetS w (splitS s)) := by
  obtain ⟨i0, hi, hz0, hz1, hz2⟩ := info_parts info_string
  have hws := splitS_eq s
  generalize splitS s = ws at *
  have HW := Lib.hid hws
  clear hws
  go_enter Tryd.func16, Tryd.ntmps16
  go_wp2_with fail
  go_loopw [5, 3, 4] (fun i v r w' => ∃ (j : Nat) (us : List ByteArray) (x : ByteArray), j ≤ s.size + 1 ∧ i = .int .i64 j ∧ r = .string x ∧ us.length ≤ j ∧ x.size ≤ j ∧ Gr w w' ∧ OwnS w' w.heap.size v us ∧ (j = s.size + 1 → us = ws) ∧
      (j ≤ s.size → us ++ (runsA letterB x.data.toList (s.data.toList.drop j)).map (fun x => wordY (x.map smallC)) = ws)) (fun i _ _ _ => s.size + 1 - (intOf i).toNat)
  case atStart => exact ⟨0, [], ⟨#[]⟩, by omega, rfl, rfl, Nat.zero_le _, Nat.zero_le _, Gr.refl _, ⟨rfl, .inl ⟨rfl, rfl⟩⟩, by omega, fun _ => HW.out.symm⟩
  case round =>
    obtain ⟨j, us, x, hj, rfl, rfl, hul, hxl, hg, hown, hend, hst⟩ := hrel
    have HS := Lib.hid hst
    have HO := Lib.hid hown
    have HN := Lib.hid hend
    clear hst hown hend
    by_cases hlt : j < s.size
    · have hr := UInt8.toNat_lt s[j]
      go_upto_region 9 with (fail)
      go_cut [6] (fun s6 wx => s6 = .bool (letterB s[j]) ∧ wx = wr)
      case first =>
        clear HS HO HN hg
        go_wp2_with fail
        all_goals
          go_meet
          refine ⟨congrArg Value.bool ?_, rfl⟩
          unfold letterB
          first | (simp [*]; done) | (rw [Bool.eq_iff_iff]; simp only [Bool.or_eq_true, Bool.and_eq_true, decide_eq_true_eq]; omega)
      case rest =>
        obtain ⟨rfl, rfl⟩ := hcut
        have hl : j < s.data.toList.length := by rw [← size_data]; exact hlt
        cases hlb : letterB s[j]
        · have hlb' : letterB s.data.toList[j] = false := by rw [← get_data s j hlt]; exact hlb
          have HL := Lib.hid hlb
          clear hlb
          cases hxe : x.data.toList.isEmpty
          · have hb : (!x.toList.isEmpty) = true := by rw [ByteArray.toList_eq, hxe]; rfl
            have HR : Hid ((runsA letterB x.data.toList (s.data.toList.drop j)).map (fun x => wordY (x.map smallC)) = wordY (x.data.toList.map smallC) :: (runsA letterB [] (s.data.toList.drop (j + 1))).map (fun x => wordY (x.map smallC))) := Lib.hid (by
              rw [List.drop_eq_getElem_cons hl, runsA, if_neg (by rw [hlb']; decide), if_neg (by simp [hxe]), List.map_cons])
            have SZ := Lib.hid (smallS_size x)
            have hsz := smallS_size x
            clear hlb' hxe
            by_cases hx12 : x.size ≤ 12
            · have hw12 := word_short x hx12
              generalize wordY (x.data.toList.map smallC) = wd at *
              have HD := Lib.hid hw12
              clear hw12
              go_wp2_with (first | (go_at_call 11; refine (small_ref x (by omega) _).mono ?_; rintro e w1 ⟨rfl, hg1⟩) | (go_at_call 13; refine (stem_ref _ (by rw [SZ.out]; omega) _).mono ?_; rintro e w2 ⟨rfl, hg2⟩; rw [HD.out]; have hg3 := (hg.trans hg1).trans hg2; have hown2 := ownsRow_gr HO.out (hg1.trans hg2)) | (at_builtin; refine append_one (a0 := w) rfl _ _ 24 rfl 9 i0 (.string ⟨#[]⟩) 1 16 Tryd.underlying24 hi hz0 hz1 hz2 rfl (by decide) _ us.length (us.map Value.string) rfl hown2 [_] rfl (by simp; rfl) rfl hg3 (by omega) (by omega) ?_; intro v4 w4 hown4 hg4))
              exact ⟨⟨j + 1, us ++ [wd], ⟨#[]⟩, by omega, by go_num, rfl, by rw [List.length_append]; simp; omega, Nat.zero_le _, hg4, by unfold OwnS; rw [List.length_append, List.map_append]; exact hown4, fun h => absurd h (by omega), fun _ => by rw [← HS.out (by omega), HR.out]; simp⟩, by simp [intOf]; omega⟩
            · have hw12 := word_long x hx12
              generalize wordY (x.data.toList.map smallC) = wd at *
              have HD := Lib.hid hw12
              clear hw12
              go_wp2_with (first | (go_at_call 11; refine (small_ref x (by omega) _).mono ?_; rintro e w1 ⟨rfl, hg1⟩) | (go_at_call 13; refine (stem_ref _ (by rw [ByteArray.size_extract]; omega) _).mono ?_; rintro e w2 ⟨rfl, hg2⟩; rw [HD.out]; have hg3 := (hg.trans hg1).trans hg2; have hown2 := ownsRow_gr HO.out (hg1.trans hg2)) | (at_builtin; refine append_one (a0 := w) rfl _ _ 24 rfl 9 i0 (.string ⟨#[]⟩) 1 16 Tryd.underlying24 hi hz0 hz1 hz2 rfl (by decide) _ us.length (us.map Value.string) rfl hown2 [_] rfl (by simp; rfl) rfl hg3 (by omega) (by omega) ?_; intro v4 w4 hown4 hg4))
              exact ⟨⟨j + 1, us ++ [wd], ⟨#[]⟩, by omega, by go_num, rfl, by rw [List.length_append]; simp; omega, Nat.zero_le _, hg4, by unfold OwnS; rw [List.length_append, List.map_append]; exact hown4, fun h => absurd h (by omega), fun _ => by rw [← HS.out (by omega), HR.out]; simp⟩, by simp [intOf]; omega⟩
          · have hb : (!x.toList.isEmpty) = false := by rw [ByteArray.toList_eq, hxe]; rfl
            have HR : Hid ((runsA letterB x.data.toList (s.data.toList.drop j)).map (fun x => wordY (x.map smallC)) = (runsA letterB [] (s.data.toList.drop (j + 1))).map (fun x => wordY (x.map smallC))) := Lib.hid (by
              rw [List.drop_eq_getElem_cons hl, runsA, if_neg (by rw [hlb']; decide), if_pos hxe])
            clear hlb' hxe
            go_wp2_with fail
            exact ⟨⟨j + 1, us, ⟨#[]⟩, by omega, by go_num, rfl, by omega, Nat.zero_le _, hg, HO.out, fun h => absurd h (by omega), fun _ => by rw [← HS.out (by omega), HR.out]⟩, by simp [intOf]; omega⟩
        · have hlb' : letterB s.data.toList[j] = true := by rw [← get_data s j hlt]; exact hlb
          have HR : Hid ((runsA letterB x.data.toList (s.data.toList.drop j)).map (fun x => wordY (x.map smallC)) = (runsA letterB (x ++ s.extract j (j + 1)).data.toList (s.data.toList.drop (j + 1))).map (fun x => wordY (x.map smallC))) := Lib.hid (by
            rw [data_app, Lib.extract_data, List.drop_eq_getElem_cons hl, runsA, if_pos hlb']
            simp)
          have HL := Lib.hid hlb
          have hse : (s.extract j (j + 1)).size ≤ 1 := by rw [ByteArray.size_extract]; omega
          clear hlb hlb'
          go_wp2_with fail
          exact ⟨⟨j + 1, us, _, by omega, by go_num, rfl, by omega, by rw [ByteArray.size_append]; omega, hg, HO.out, fun h => absurd h (by omega), fun _ => by rw [← HS.out (by omega), HR.out]⟩, by simp [intOf]; omega⟩
    · by_cases hle : j ≤ s.size
      · cases hxe : x.data.toList.isEmpty
        · have hb : (!x.toList.isEmpty) = true := by rw [ByteArray.toList_eq, hxe]; rfl
          have HR : Hid ((runsA letterB x.data.toList (s.data.toList.drop j)).map (fun x => wordY (x.map smallC)) = [wordY (x.data.toList.map smallC)]) := Lib.hid (by
            rw [List.drop_eq_nil_of_le (by rw [← size_data]; omega), runsA, if_neg (by simp [hxe])]; rfl)
          have SZ := Lib.hid (smallS_size x)
          have hsz := smallS_size x
          clear hxe
          by_cases hx12 : x.size ≤ 12
          · have hw12 := word_short x hx12
            generalize wordY (x.data.toList.map smallC) = wd at *
            have HD := Lib.hid hw12
            clear hw12
            go_wp2_with (first | (go_at_call 11; refine (small_ref x (by omega) _).mono ?_; rintro e w1 ⟨rfl, hg1⟩) | (go_at_call 13; refine (stem_ref _ (by rw [SZ.out]; omega) _).mono ?_; rintro e w2 ⟨rfl, hg2⟩; rw [HD.out]; have hg3 := (hg.trans hg1).trans hg2; have hown2 := ownsRow_gr HO.out (hg1.trans hg2)) | (at_builtin; refine append_one (a0 := w) rfl _ _ 24 rfl 9 i0 (.string ⟨#[]⟩) 1 16 Tryd.underlying24 hi hz0 hz1 hz2 rfl (by decide) _ us.length (us.map Value.string) rfl hown2 [_] rfl (by simp; rfl) rfl hg3 (by omega) (by omega) ?_; intro v4 w4 hown4 hg4))
            exact ⟨⟨j + 1, us ++ [wd], ⟨#[]⟩, by omega, by go_num, rfl, by rw [List.length_append]; simp; omega, Nat.zero_le _, hg4, by unfold OwnS; rw [List.length_append, List.map_append]; exact hown4, fun _ => by rw [← HS.out hle, HR.out], fun h => absurd h (by omega)⟩, by simp [intOf]; omega⟩
          · have hw12 := word_long x hx12
            generalize wordY (x.data.toList.map smallC) = wd at *
            have HD := Lib.hid hw12
            clear hw12
            go_wp2_with (first | (go_at_call 11; refine (small_ref x (by omega) _).mono ?_; rintro e w1 ⟨rfl, hg1⟩) | (go_at_call 13; refine (stem_ref _ (by rw [ByteArray.size_extract]; omega) _).mono ?_; rintro e w2 ⟨rfl, hg2⟩; rw [HD.out]; have hg3 := (hg.trans hg1).trans hg2; have hown2 := ownsRow_gr HO.out (hg1.trans hg2)) | (at_builtin; refine append_one (a0 := w) rfl _ _ 24 rfl 9 i0 (.string ⟨#[]⟩) 1 16 Tryd.underlying24 hi hz0 hz1 hz2 rfl (by decide) _ us.length (us.map Value.string) rfl hown2 [_] rfl (by simp; rfl) rfl hg3 (by omega) (by omega) ?_; intro v4 w4 hown4 hg4))
            exact ⟨⟨j + 1, us ++ [wd], ⟨#[]⟩, by omega, by go_num, rfl, by rw [List.length_append]; simp; omega, Nat.zero_le _, hg4, by unfold OwnS; rw [List.length_append, List.map_append]; exact hown4, fun _ => by rw [← HS.out hle, HR.out], fun h => absurd h (by omega)⟩, by simp [intOf]; omega⟩
        · have hb : (!x.toList.isEmpty) = false := by rw [ByteArray.toList_eq, hxe]; rfl
          have HR : Hid ((runsA letterB x.data.toList (s.data.toList.drop j)).map (fun x => wordY (x.map smallC)) = []) := Lib.hid (by
            rw [List.drop_eq_nil_of_le (by rw [← size_data]; omega), runsA, if_pos hxe]; rfl)
          clear hxe
          go_wp2_with fail
          exact ⟨⟨j + 1, us, ⟨#[]⟩, by omega, by go_num, rfl, by omega, Nat.zero_le _, hg, HO.out, fun _ => by rw [← HS.out hle, HR.out, List.append_nil], fun h => absurd h (by omega)⟩, by simp [intOf]; omega⟩
      · go_wp2_with fail
        go_ret
        exact ⟨_, rfl, by rw [← HN.out (by omega)]; exact HO.out, hg⟩
end Go.Proofs.YthenhglpljdhfaaDoor
