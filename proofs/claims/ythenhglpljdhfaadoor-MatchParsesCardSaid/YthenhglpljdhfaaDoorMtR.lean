/-
  concordanceref.pieces: the pieces of a text, as the document has them.
-/
import Derived.Test.YthenhglpljdhfaaDoorMtC
namespace Go.Proofs.YthenhglpljdhfaaDoor
open Go Go.RowKit

theorem byteEq (x y : UInt8) : (((x.toNat : Nat) : Int) == ((y.toNat : Nat) : Int)) = (x == y) := by
  rw [Bool.eq_iff_iff, beq_iff_eq, beq_iff_eq]
  constructor
  · intro h
    exact UInt8.toNat_inj.1 (by omega)
  · intro h
    rw [h]
theorem ext_mid (s : ByteArray) (j m : Nat) (_h : j ≤ m) : s.extract j m = bsL ((s.data.toList.drop j).take (m - j)) := by
  apply bytes_ext
  rw [Lib.extract_data, bsL_data]
theorem tw_stop {α : Type} (p : α → Bool) (l : List α) (d : Nat) (hd : d ≤ l.length) (ha : (l.take d).all p = true) (hs : ∀ h : d < l.length, p l[d] = false) : l.takeWhile p = l.take d := by
  induction l generalizing d with
  | nil => simp
  | cons a t ih =>
    cases d with
    | zero =>
      have := hs (by simp)
      simp only [List.getElem_cons_zero] at this
      simp [this]
    | succ d =>
      simp only [List.take_succ_cons, List.all_cons, Bool.and_eq_true] at ha
      simp only [List.length_cons] at hd
      rw [List.takeWhile_cons, if_pos ha.1, List.take_succ_cons, ih d (by omega) ha.2 (fun h => by have := hs (by simp; omega); simpa using this)]
theorem take_all_succ {α : Type} (p : α → Bool) (l : List α) (d : Nat) (hd : d < l.length) (ha : (l.take d).all p = true) (hp : p l[d] = true) : (l.take (d + 1)).all p = true := by
  rw [List.take_succ_eq_append_getElem hd, List.all_append, ha]
  simp [hp]
theorem sign_at (x : UInt8) : decide (Lib.indexByte [32, 40, 41, 42, 34] x < 0) = !signB x := by
  have h := Lib.contains_iff_indexByte [32, 40, 41, 42, 34] x
  have h2 : [32, 40, 41, 42, 34].contains x = signB x := by
    unfold signB
    simp only [List.contains_cons, List.contains_nil, Bool.or_false, Bool.or_assoc]
    cases x == 32 <;> cases x == 40 <;> cases x == 41 <;> cases x == 42 <;> cases x == 34 <;> rfl
  rw [h2] at h
  rw [h, ← decide_not]
  congr 1
  simp
def PcsPost (w : World) (R : Option (List ByteArray)) (e : Ending) (w' : World) : Prop :=
  match R with
  | none => e = .returned (.tuple #[.slice none 0 0, .bool false]) ∧ Gr w w'
  | some ps => ∃ v, e = .returned (.tuple #[v, .bool true]) ∧ OwnS w' w.heap.size v ps ∧ Gr w w'
set_option maxRecDepth 100000 in
set_option maxHeartbeats 1600000 in
theorem pieces_t (s : ByteArray) (hs : s.size ≤ 1000) (w : World) : Calls Tryd.prog 71 #[.string s] w (PcsPost w (cutN s.size s.data.toList)) := by
  obtain ⟨i0, hi, hz0, hz1, hz2⟩ := info_parts info_string
  generalize hR : cutN s.size s.data.toList = R
  have HR := Lib.hid hR
  clear hR
  go_enter Tryd.func71, Tryd.ntmps71
  go_wp2_with fail
  go_loopw [5, 4] (fun i v w' => ∃ (j : Nat) (us : List ByteArray) (n : Nat), i = .int .i64 j ∧ j ≤ s.size ∧ s.size ≤ j + n ∧ us.length ≤ j ∧ Gr w w' ∧ OwnS w' w.heap.size v us ∧ (cutN n (s.data.toList.drop j)).map (us ++ ·) = R) (fun i _ _ => s.size - (intOf i).toNat)
  case atStart => exact ⟨0, [], s.size, rfl, Nat.zero_le _, by omega, by simp, Gr.refl _, ⟨rfl, .inl ⟨rfl, rfl⟩⟩, by rw [List.drop_zero, HR.out]; cases R <;> simp⟩
  case round =>
    obtain ⟨j, us, n, rfl, hj, hn, hul, hg, hown, hcut⟩ := hrel
    have HO := Lib.hid hown
    have HC := Lib.hid hcut
    clear hcut
    by_cases hlt : j < s.size
    · have hld : s.data.toList.drop j = s[j] :: s.data.toList.drop (j + 1) := by
        rw [get_data s j hlt]
        exact List.drop_eq_getElem_cons (by rw [← size_data]; exact hlt)
      obtain ⟨n, rfl⟩ : ∃ m, n = m + 1 := ⟨n - 1, by omega⟩
      have b32 := byteEq s[j] 32
      have b40 := byteEq s[j] 40
      have b41 := byteEq s[j] 41
      have b42 := byteEq s[j] 42
      have b34 := byteEq s[j] 34
      have h1 : s.extract j (j + 1) = bsL [s[j]] := by rw [ext_mid s j (j + 1) (by omega), hld, show j + 1 - j = 1 by omega]; rfl
      by_cases h32 : s[j] = 32
      · have hco : cutN (n + 1) (s.data.toList.drop j) = cutN n (s.data.toList.drop (j + 1)) := by rw [hld, h32]; exact cut_blank n _
        have HCO := Lib.hid hco
        have q32 : (((s[j].toNat : Nat) : Int) == 32) = true := by rw [h32]; rfl
        clear hco h32 h1 b32 b40 b41 b42 b34 hld
        go_wp2_with fail
        exact ⟨⟨j + 1, us, n, by go_num, by omega, by omega, by omega, hg, hown, by rw [← HC.out, HCO.out]⟩, by simp [intOf]; omega⟩
      · have q32 : (((s[j].toNat : Nat) : Int) == 32) = false := b32.trans (by simpa using h32)
        by_cases hmk : s[j] = 40 ∨ s[j] = 41 ∨ s[j] = 42
        · have hco : cutN (n + 1) (s.data.toList.drop j) = (cutN n (s.data.toList.drop (j + 1))).map (s.extract j (j + 1) :: ·) := by
            rw [hld, h1]
            refine cut_mark n _ ?_ h32 ?_
            · rcases hmk with h | h | h <;> rw [h] <;> decide
            · rcases hmk with h | h | h <;> rw [h] <;> decide
          have HCO := Lib.hid hco
          have hfin : ∀ (v4 : Value) (w4 : World), w4.ownsRow w.heap.size 9 1 v4 (us.length + 1) (us.map Value.string ++ [.string (s.extract j (j + 1))]) → Gr w w4 →
              ∃ (us' : List ByteArray) (n' : Nat), s.size ≤ j + 1 + n' ∧ us'.length ≤ j + 1 ∧ Gr w w4 ∧ OwnS w4 w.heap.size v4 us' ∧ (cutN n' (s.data.toList.drop (j + 1))).map (us' ++ ·) = R := fun v4 w4 hown4 hg4 => by
            refine ⟨us ++ [s.extract j (j + 1)], n, by omega, by simp; omega, hg4, ?_, ?_⟩
            · unfold OwnS
              rw [List.length_append, List.map_append]
              exact hown4
            · rw [← HC.out, HCO.out]
              cases cutN n (s.data.toList.drop (j + 1)) <;> simp
          have HF := Lib.hid hfin
          have hgX := hg
          have hown2 := ownsRow_gr hown (Gr.refl _)
          clear hco hld h1 hfin
          rcases hmk with h | h | h
          · have q40 : (((s[j].toNat : Nat) : Int) == 40) = true := by rw [h]; rfl
            clear h h32 b32 b40 b41 b42 b34
            go_wp2_with (at_builtin; refine append_one (a0 := w) rfl _ _ 24 rfl 9 i0 (.string ⟨#[]⟩) 1 16 Tryd.underlying24 hi hz0 hz1 hz2 rfl (by decide) _ us.length (us.map Value.string) rfl hown2 [_] rfl (by simp; rfl) rfl hgX (by omega) (by omega) ?_; intro v4 w4 hown4 hg4)
            obtain ⟨us', n', f1, f2, f3, f4, f5⟩ := HF.out _ _ hown4 hg4
            exact ⟨⟨j + 1, us', n', by go_num, by omega, f1, f2, f3, f4, f5⟩, by simp [intOf]; omega⟩
          · have q40 : (((s[j].toNat : Nat) : Int) == 40) = false := by rw [h]; rfl
            have q41 : (((s[j].toNat : Nat) : Int) == 41) = true := by rw [h]; rfl
            clear h h32 b32 b40 b41 b42 b34
            go_wp2_with (at_builtin; refine append_one (a0 := w) rfl _ _ 24 rfl 9 i0 (.string ⟨#[]⟩) 1 16 Tryd.underlying24 hi hz0 hz1 hz2 rfl (by decide) _ us.length (us.map Value.string) rfl hown2 [_] rfl (by simp; rfl) rfl hgX (by omega) (by omega) ?_; intro v4 w4 hown4 hg4)
            obtain ⟨us', n', f1, f2, f3, f4, f5⟩ := HF.out _ _ hown4 hg4
            exact ⟨⟨j + 1, us', n', by go_num, by omega, f1, f2, f3, f4, f5⟩, by simp [intOf]; omega⟩
          · have q40 : (((s[j].toNat : Nat) : Int) == 40) = false := by rw [h]; rfl
            have q41 : (((s[j].toNat : Nat) : Int) == 41) = false := by rw [h]; rfl
            have q42 : (((s[j].toNat : Nat) : Int) == 42) = true := by rw [h]; rfl
            clear h h32 b32 b40 b41 b42 b34
            go_wp2_with (at_builtin; refine append_one (a0 := w) rfl _ _ 24 rfl 9 i0 (.string ⟨#[]⟩) 1 16 Tryd.underlying24 hi hz0 hz1 hz2 rfl (by decide) _ us.length (us.map Value.string) rfl hown2 [_] rfl (by simp; rfl) rfl hgX (by omega) (by omega) ?_; intro v4 w4 hown4 hg4)
            obtain ⟨us', n', f1, f2, f3, f4, f5⟩ := HF.out _ _ hown4 hg4
            exact ⟨⟨j + 1, us', n', by go_num, by omega, f1, f2, f3, f4, f5⟩, by simp [intOf]; omega⟩
        · have q40 : (((s[j].toNat : Nat) : Int) == 40) = false := b40.trans (by simpa using fun e => hmk (.inl e))
          have q41 : (((s[j].toNat : Nat) : Int) == 41) = false := b41.trans (by simpa using fun e => hmk (.inr (.inl e)))
          have q42 : (((s[j].toNat : Nat) : Int) == 42) = false := b42.trans (by simpa using fun e => hmk (.inr (.inr e)))
          by_cases h34 : s[j] = 34
          · have q34 : (((s[j].toNat : Nat) : Int) == 34) = true := by rw [h34]; rfl
            rw [h34] at hld
            have HLD := Lib.hid hld
            clear h34 hmk h32 b32 b40 b41 b42 b34 hld h1
            go_wp2_with fail
            go_loop [7] (fun k => ∃ m : Nat, j + 1 ≤ m ∧ m ≤ s.size ∧ k = .int .i64 m ∧ ((s.data.toList.drop (j + 1)).take (m - (j + 1))).all (· != 34) = true) (fun k => s.size - (intOf k).toNat)
            case atStart => exact ⟨j + 1, Nat.le_refl _, by omega, by go_num, by simp⟩
            case round =>
              obtain ⟨m, hjm, hm, rfl, hall⟩ := hrel
              have HA := Lib.hid hall
              clear hall
              by_cases hmt : m < s.size
              · have hlm : m < s.data.toList.length := by rw [← size_data]; exact hmt
                have b := byteEq s[m] 34
                by_cases hc4 : s[m] = 34
                · have qm : (((s[m].toNat : Nat) : Int) != 34) = false := by rw [hc4]; rfl
                  have hts := tw_stop (· != 34) (s.data.toList.drop (j + 1)) (m - (j + 1)) (by rw [List.length_drop]; omega) HA.out (fun h => by
                    rw [List.getElem_drop]
                    simp only [show j + 1 + (m - (j + 1)) = m by omega]
                    rw [← get_data s m hmt, hc4]
                    rfl)
                  have hlen : ((s.data.toList.drop (j + 1)).takeWhile (· != 34)).length = m - (j + 1) := by rw [hts, List.length_take, List.length_drop]; omega
                  have hnall : (s.data.toList.drop (j + 1)).all (· != 34) = false := by
                    rw [Bool.eq_false_iff]
                    intro h
                    have h2 := (all_iff_tw _ _).1 h
                    rw [h2, List.length_drop] at hlen
                    omega
                  have hco := cut_quote n _ hnall
                  rw [hlen, hts, List.drop_drop, show j + 1 + (m - (j + 1) + 1) = m + 1 by omega, show bsL (34 :: (s.data.toList.drop (j + 1)).take (m - (j + 1))) = s.extract j m by
                    rw [ext_mid s j m (by omega), HLD.out, show m - j = (m - (j + 1)) + 1 by omega, List.take_succ_cons]] at hco
                  have HCO := Lib.hid hco
                  have hgX := hg
                  have hown2 := ownsRow_gr hown (Gr.refl _)
                  have hne : ((m : Int) == (s.size : Int)) = false := by rw [Bool.eq_false_iff]; intro h; have := beq_iff_eq.1 h; omega
                  clear hc4 b hts hlen hnall hco
                  go_wp2_with (at_builtin; refine append_one (a0 := w) rfl _ _ 24 rfl 9 i0 (.string ⟨#[]⟩) 1 16 Tryd.underlying24 hi hz0 hz1 hz2 rfl (by decide) _ us.length (us.map Value.string) rfl hown2 [_] rfl (by simp; rfl) rfl hgX (by omega) (by omega) ?_; intro v4 w4 hown4 hg4)
                  refine ⟨⟨m + 1, us ++ [s.extract j m], n, by go_num, by omega, by omega, by simp; omega, hg4, ?_, ?_⟩, by simp [intOf]; omega⟩
                  · unfold OwnS
                    rw [List.length_append, List.map_append]
                    exact hown4
                  · rw [← HC.out, HLD.out, HCO.out]
                    cases cutN n (s.data.toList.drop (m + 1)) <;> simp
                · have qm : (((s[m].toNat : Nat) : Int) != 34) = true := by
                    have : (s[m] == 34) = false := by simpa using hc4
                    rw [this] at b
                    exact congrArg (! ·) b
                  have hsu := take_all_succ (· != 34) (s.data.toList.drop (j + 1)) (m - (j + 1)) (by rw [List.length_drop]; omega) HA.out (by
                    rw [List.getElem_drop]
                    simp only [show j + 1 + (m - (j + 1)) = m by omega]
                    rw [← get_data s m hmt]
                    simpa using hc4)
                  rw [show m - (j + 1) + 1 = m + 1 - (j + 1) by omega] at hsu
                  have HSU := Lib.hid hsu
                  clear hc4 b hsu
                  go_wp2_with fail
                  exact ⟨⟨m + 1, by omega, by omega, by go_num, HSU.out⟩, by simp [intOf]; omega⟩
              · obtain rfl : m = s.size := by omega
                have hal : (s.data.toList.drop (j + 1)).all (· != 34) = true := by
                  have := HA.out
                  rwa [List.take_of_length_le (by rw [List.length_drop, ← size_data]; omega)] at this
                have hco := cut_open n _ hal
                have HCO := Lib.hid hco
                clear hal hco
                go_wp2_with fail
                go_ret2
                have he : R = none := by rw [← HC.out, HLD.out, HCO.out]; rfl
                rw [he]
                exact ⟨rfl, hg⟩
          · have q34 : (((s[j].toNat : Nat) : Int) == 34) = false := b34.trans (by simpa using h34)
            have hsg : signB s[j] = false := by
              unfold signB
              simp only [Bool.or_eq_false_iff, beq_eq_false_iff_ne, ne_eq]
              exact ⟨⟨⟨⟨h32, fun e => hmk (.inl e)⟩, fun e => hmk (.inr (.inl e))⟩, h34⟩, fun e => hmk (.inr (.inr e))⟩
            have HLD := Lib.hid hld
            have HSG := Lib.hid hsg
            clear h34 hmk h32 b32 b40 b41 b42 b34 hld h1 hsg
            go_wp2_with fail
            go_loop [8] (fun k => ∃ m : Nat, j ≤ m ∧ m ≤ s.size ∧ k = .int .i64 m ∧ ((s.data.toList.drop j).take (m - j)).all (fun x => !signB x) = true) (fun k => s.size - (intOf k).toNat)
            case atStart => exact ⟨j, Nat.le_refl _, by omega, by go_num, by simp⟩
            case round =>
              obtain ⟨m, hjm, hm, rfl, hall⟩ := hrel
              have HA := Lib.hid hall
              clear hall
              have hgo : (∃ h : m < s.size, signB s[m] = false) ∨ (∀ h : m < s.size, signB s[m] = true) := by
                by_cases h : m < s.size
                · cases hb : signB s[m]
                  · exact .inl ⟨h, hb⟩
                  · exact .inr fun _ => hb
                · exact .inr fun h' => absurd h' h
              rcases hgo with ⟨hmt, hsm⟩ | hstop
              · have hlm : m < s.data.toList.length := by rw [← size_data]; exact hmt
                have hsa := sign_at s[m]
                rw [hsm] at hsa
                have hsu := take_all_succ (fun x => !signB x) (s.data.toList.drop j) (m - j) (by rw [List.length_drop]; omega) HA.out (by
                  rw [List.getElem_drop]
                  simp only [show j + (m - j) = m by omega]
                  rw [← get_data s m hmt, hsm]
                  rfl)
                rw [show m - j + 1 = m + 1 - j by omega] at hsu
                have HSU := Lib.hid hsu
                have hib : ∀ W, Calls Tryd.prog 91 #[.string ⟨#[32, 40, 41, 42, 34]⟩, .int .u8 (s[m].toNat : Int)] W fun e w' => e = .returned (.int .i64 (Lib.indexByte [32, 40, 41, 42, 34] s[m])) ∧ w' = W := fun W => by
                  have h := Tryd.strings_IndexByte ⟨#[32, 40, 41, 42, 34]⟩ (s[m].toNat : Int) W
                  rw [show (((s[m].toNat : Nat) : Int)).toNat.toUInt8 = s[m] from by simp] at h
                  exact h
                generalize Lib.indexByte [32, 40, 41, 42, 34] s[m] = q at *
                clear hsm hsu
                go_wp2_with (go_at_call 91; refine (hib _).mono ?_; rintro e w1 ⟨rfl, rfl⟩)
                exact ⟨⟨m + 1, by omega, by omega, by go_num, HSU.out⟩, by simp [intOf]; omega⟩
              · have hts := tw_stop (fun x => !signB x) (s.data.toList.drop j) (m - j) (by rw [List.length_drop, ← size_data]; omega) HA.out (fun h => by
                  have hmt : m < s.size := by rw [List.length_drop, ← size_data] at h; omega
                  rw [List.getElem_drop]
                  simp only [show j + (m - j) = m by omega]
                  rw [← get_data s m hmt, hstop hmt]
                  rfl)
                have hjm2 : j < m := by
                  rcases Nat.lt_or_ge j m with h | h
                  · exact h
                  · obtain rfl : m = j := by omega
                    have := hstop hlt
                    rw [HSG.out] at this
                    cases this
                have hco := cut_word (r := s.data.toList.drop (j + 1)) n HSG.out
                rw [← HLD.out, ← drop_tw, hts, List.length_take, List.length_drop, ← size_data, show min (m - j) (s.size - j) = m - j by omega, List.drop_drop, show j + (m - j) = m by omega, ← ext_mid s j m hjm] at hco
                have HCO := Lib.hid hco
                have hgX := hg
                have hown2 := ownsRow_gr hown (Gr.refl _)
                have hfin : ∀ (v4 : Value) (w4 : World), w4.ownsRow w.heap.size 9 1 v4 (us.length + 1) (us.map Value.string ++ [.string (s.extract j m)]) → Gr w w4 →
                    ∃ (us' : List ByteArray) (n' : Nat), s.size ≤ m + n' ∧ us'.length ≤ m ∧ Gr w w4 ∧ OwnS w4 w.heap.size v4 us' ∧ (cutN n' (s.data.toList.drop m)).map (us' ++ ·) = R := fun v4 w4 hown4 hg4 => by
                  refine ⟨us ++ [s.extract j m], n, by omega, by simp; omega, hg4, ?_, ?_⟩
                  · unfold OwnS
                    rw [List.length_append, List.map_append]
                    exact hown4
                  · rw [← HC.out, HCO.out]
                    cases cutN n (s.data.toList.drop m) <;> simp
                have HF := Lib.hid hfin
                clear hts hco hfin
                by_cases hmt : m < s.size
                · have hsa := sign_at s[m]
                  rw [hstop hmt] at hsa
                  have hib : ∀ W, Calls Tryd.prog 91 #[.string ⟨#[32, 40, 41, 42, 34]⟩, .int .u8 (s[m].toNat : Int)] W fun e w' => e = .returned (.int .i64 (Lib.indexByte [32, 40, 41, 42, 34] s[m])) ∧ w' = W := fun W => by
                    have h := Tryd.strings_IndexByte ⟨#[32, 40, 41, 42, 34]⟩ (s[m].toNat : Int) W
                    rw [show (((s[m].toNat : Nat) : Int)).toNat.toUInt8 = s[m] from by simp] at h
                    exact h
                  generalize Lib.indexByte [32, 40, 41, 42, 34] s[m] = q at *
                  clear hstop
                  go_wp2_with (first | (go_at_call 91; refine (hib _).mono ?_; rintro e w1 ⟨rfl, rfl⟩) | (at_builtin; refine append_one (a0 := w) rfl _ _ 24 rfl 9 i0 (.string ⟨#[]⟩) 1 16 Tryd.underlying24 hi hz0 hz1 hz2 rfl (by decide) _ us.length (us.map Value.string) rfl hown2 [_] rfl (by simp; rfl) rfl hgX (by omega) (by omega) ?_; intro v4 w4 hown4 hg4))
                  obtain ⟨us', n', f1, f2, f3, f4, f5⟩ := HF.out _ _ hown4 hg4
                  exact ⟨⟨m, us', n', by go_num, by omega, f1, f2, f3, f4, f5⟩, by simp [intOf]; omega⟩
                · clear hstop
                  go_wp2_with (at_builtin; refine append_one (a0 := w) rfl _ _ 24 rfl 9 i0 (.string ⟨#[]⟩) 1 16 Tryd.underlying24 hi hz0 hz1 hz2 rfl (by decide) _ us.length (us.map Value.string) rfl hown2 [_] rfl (by simp; rfl) rfl hgX (by omega) (by omega) ?_; intro v4 w4 hown4 hg4)
                  obtain ⟨us', n', f1, f2, f3, f4, f5⟩ := HF.out _ _ hown4 hg4
                  exact ⟨⟨m, us', n', by go_num, by omega, f1, f2, f3, f4, f5⟩, by simp [intOf]; omega⟩
    · go_wp2_with fail
      go_ret2
      have hc := HC.out
      rw [List.drop_eq_nil_of_le (by rw [← size_data]; omega)] at hc
      have he : R = some us := by rw [← hc]; cases n <;> simp [cutN]
      rw [he]
      exact ⟨_, rfl, HO.out, hg⟩
end Go.Proofs.YthenhglpljdhfaaDoor
