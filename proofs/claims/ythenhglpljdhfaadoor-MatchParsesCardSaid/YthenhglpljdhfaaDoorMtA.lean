/-
  strings.IndexRune, strings.IndexAny and strings.ContainsAny where what is looked for are ASCII signs, at whatever text.
-/
import Derived.Test.YthenhglpljdhfaaDoorMtS
import Derived.Laws.RangeAny
import Derived.Laws.Runes
import Derived.Lib.OthersKept
import Derived.WalkMore
import Derived.Deep.RegionHeld3
import Derived.Deep.RegionWith
import Derived.BigQuiet
import Derived.Lib.QuietBelow
import Derived.BigGuardPart
namespace Go.Proofs.YthenhglpljdhfaaDoor
open Go Go.RowKit

theorem noByte (l : List UInt8) (c : UInt8) (h : ∀ b ∈ l, b ≠ c) : Lib.indexByte l c = -1 := by
  induction l with
  | nil => rfl
  | cons a t ih =>
    have h1 := ih (fun b hb => h b (List.mem_cons_of_mem _ hb))
    have h2 : (a == c) = false := by simpa using h a (List.mem_cons_self)
    simp [Lib.indexByte, h1, h2]

set_option maxRecDepth 100000 in
set_option maxHeartbeats 1600000 in
/-- No ASCII text has a rune beyond ASCII. -/
theorem index_rune_high (s : ByteArray) (h4 : 4 ≤ s.size ∧ s.size ≤ 8) (ha : ∀ b ∈ s.data.toList, b.toNat < 128) (r : Int) (hr : 128 ≤ r ∧ r ≤ 2147483647) (w : World) :
    Calls Tryd.prog 114 #[.string s, .int .i32 r] w (Ret w (.int .i64 (-1))) := by
  have HA := Lib.hid ha
  clear ha
  have g1 : decide (r < 128) = false := by simp; omega
  have g0 : decide ((0 : Int) ≤ r) = true := by simp; omega
  by_cases he : r = 65533
  · subst he
    go_enter Tryd.func114, Tryd.ntmps114
    go_wp2_with fail
    go_loopg [5, 6] s.size (fun g _ _ wx => ∃ i : Nat, i + g = s.size ∧ wx = w.iter s i)
    case atStart => exact ⟨0, by omega, rfl⟩
    case round =>
      obtain ⟨i, hig, rfl⟩ := hrel
      cases gk with
      | zero =>
        obtain rfl : i = s.size := by omega
        have hnx := run_next_end (P := Tryd.prog) w s s.size
        go_wp2_with fail
        go_ret
        exact Ret.mk rfl ((Gr.refl w).alloc _)
      | succ g =>
        have hi : i < s.size := by omega
        have hm := HA.out s[i] (by rw [get_data s i hi]; exact List.getElem_mem _)
        have hnx := fun ty => run_next_ascii (P := Tryd.prog) w s i ty hi hm
        have hne : (((s[i].toNat : Nat) : Int) == 65533) = false := by rw [Bool.eq_false_iff]; intro h; have := beq_iff_eq.1 h; omega
        generalize s[i].toNat = x at *
        go_wp2_with fail
        go_roundg g
        case measure => omega
        case rel => exact ⟨i + 1, by omega, rfl⟩
  · have hne : (r == 65533) = false := by simp; exact he
    have hvr : Utf8.valid r = Lib.validRune r := validRune_eq r
    cases hv : Lib.validRune r
    · go_enter Tryd.func114, Tryd.ntmps114
      go_wp2_with (go_at_call 124; refine (Tryd.utf8_ValidRune r _).mono ?_; rintro e w1 ⟨rfl, hw⟩; rw [hw, hv])
      go_ret
      exact Ret.mk rfl (Gr.refl _)
    · obtain ⟨e1, e2, e3⟩ := encode_facts r (by rw [hvr]; exact hv) hr.1
      generalize hrs : Utf8.encode r = rs at *
      obtain ⟨m, hm⟩ : ∃ m, rs.size = m + 1 := ⟨rs.size - 1, by omega⟩
      have hms : m < s.size := by omega
      have hmr : m < rs.size := by omega
      have e4 : 128 ≤ rs[m].toNat := by
        have := e3 (by omega)
        simpa [hm] using this
      have e5 : s[m].toNat < 128 := HA.out s[m] (by rw [get_data s m hms]; exact List.getElem_mem _)
      have hneq : (((s[m].toNat : Nat) : Int) == ((rs[m].toNat : Nat) : Int)) = false := by rw [Bool.eq_false_iff]; intro h; have := beq_iff_eq.1 h; omega
      have hib : Lib.indexByte (s.extract (m + 1) s.size).data.toList rs[m] = -1 := noByte _ _ fun b hb hc => by
        have h1 := HA.out b (mem_extract hb)
        rw [hc] at h1
        omega
      have HE := Lib.hid e3
      have hi0 : ∀ W, (Instr.index 9 (.string rs) (.int .i64 m)).run Tryd.prog W = .ok (.int .u8 (rs[m].toNat : Int)) W := fun W => by simp [go_sem, hmr]
      have hj1 : (m : Int) + 1 ≤ (s.size : Int) := by omega
      have hj2 : ¬ (s.size : Int) < (m : Int) + 1 := by omega
      clear e3 e4 e5
      have hrs' : ∀ W, (convert 21 9 (.int .i32 r)).run Tryd.prog W = .ok (.string rs) W := fun W => by
        rw [← hrs]
        exact run_convert_int_string W _ _ .i32 r (by kernel_rfl) (by kernel_rfl)
      go_enter Tryd.func114, Tryd.ntmps114
      go_wp2_with (go_at_call 124; refine (Tryd.utf8_ValidRune r _).mono ?_; rintro e w1 ⟨rfl, hw⟩; rw [hw, hv])
      go_step3
      go_wp2_with fail
      refine wp_loop_rounds 1 ?_
      rw [rounds_succ]
      go_wp2_with fail
      go_step3
      go_wp2_with fail
      go_region
      go_wp2_with fail
      have hcb : ∀ W, Calls Tryd.prog 91 #[.string (s.extract (m + 1) s.size), .int .u8 (rs[m].toNat : Int)] W fun e w' => e = .returned (.int .i64 (-1)) ∧ w' = W := fun W => by
        have := Tryd.strings_IndexByte (s.extract (m + 1) s.size) (rs[m].toNat : Int) W
        rw [show (((rs[m].toNat : Nat) : Int)).toNat.toUInt8 = rs[m] from by simp, hib] at this
        exact this
      have hcr : ∀ W, Calls Tryd.prog 91 #[.string (s.extract (m + 1) s.size), .int .u8 (rs[m].toNat : Int)] W (Ret W (.int .i64 (-1))) := fun W => Ret.of_same (hcb W)
      refine wp_region_quiet_below (by kernel_rfl) (by kernel_rfl) ?_
      repeat (go_big_quiet_step (first | (go_at_call 91; exact Ret.regrown (hcr _))))
      refine wpQuiet_nil ?_
      intro w2 hw2
      have hg2 := gr_regrown hw2
      clear hw2
      go_wp2_with fail
      simp only [Exit.noGoto, Exit.inBlock, Exit.then]
      go_ret
      first | exact Ret.mk rfl hg2 | exact Ret.mk rfl (((Gr.refl _).drew).trans hg2)
/-- The bytes of a rune beyond ASCII are all beyond ASCII. -/
theorem decode_span (s : ByteArray) (pos : Nat) (h : pos < s.size) (ha : 128 ≤ (s[pos]'h).toNat) :
    pos + (Utf8.decode s pos).2 ≤ s.size ∧ ∀ j b, pos ≤ j → j < pos + (Utf8.decode s pos).2 → s.data.toList[j]? = some b → 128 ≤ b.toNat := by
  have hn : ¬ (s[pos]'h).toNat < 128 := by omega
  have hb : ∀ k b, s.data.toList[pos + k]? = some b → s.get! (pos + k) = b := by
    intro k b hk
    have hlt : pos + k < s.size := by rw [size_data]; exact (List.getElem?_eq_some_iff.1 hk).1
    have h1 := get_at s (pos + k) hlt
    rw [Nat.add_zero] at h1
    rw [h1, get_data s _ hlt]
    exact (List.getElem?_eq_some_iff.1 hk).2
  have key : ∀ m : Nat, 1 ≤ m → pos + m ≤ s.size → (∀ k, 1 ≤ k → k < m → (s.get! (pos + k)).toNat / 64 = 2) → pos + m ≤ s.size ∧ ∀ j b, pos ≤ j → j < pos + m → s.data.toList[j]? = some b → 128 ≤ b.toNat := by
    intro m h1 hm hc
    refine ⟨hm, fun j b h2 h3 h4 => ?_⟩
    obtain ⟨k, rfl⟩ : ∃ k, j = pos + k := ⟨j - pos, by omega⟩
    have h5 := hb k b h4
    rcases Nat.eq_zero_or_pos k with rfl | hk
    · have h6 := get_at s pos h
      rw [h5] at h6
      rw [h6]
      exact ha
    · have h6 := hc k hk (by omega)
      rw [h5] at h6
      omega
  simp only [Utf8.decode, get_at s pos h, hn, if_false]
  repeat' split
  all_goals simp only [Bool.and_eq_true, decide_eq_true_eq, beq_iff_eq] at *
  · exact key 2 (by omega) (by omega) (fun k h1 h2 => by obtain rfl : k = 1 := (by omega); grind)
  · exact key 1 (by omega) (by omega) (fun k h1 h2 => by omega)
  · exact key 3 (by omega) (by omega) (fun k h1 h2 => by rcases (show k = 1 ∨ k = 2 by omega) with rfl | rfl <;> grind)
  · exact key 1 (by omega) (by omega) (fun k h1 h2 => by omega)
  · exact key 4 (by omega) (by omega) (fun k h1 h2 => by rcases (show k = 1 ∨ k = 2 ∨ k = 3 by omega) with rfl | rfl | rfl <;> grind)
  · exact key 1 (by omega) (by omega) (fun k h1 h2 => by omega)
  · exact key 1 (by omega) (by omega) (fun k h1 h2 => by omega)

set_option maxRecDepth 100000 in
set_option maxHeartbeats 1600000 in
theorem index_any' (t cs : ByteArray) (ht : t.size ≤ 1000) (h4 : 4 ≤ cs.size ∧ cs.size ≤ 8) (ha : ∀ b ∈ cs.data.toList, b.toNat < 128) (w : World) :
    Calls Tryd.prog 96 #[.string t, .string cs] w (Ret w (.int .i64 (Lib.indexAny t.data.toList cs.data.toList))) := by
  have hasc : ∀ (j : Nat) b, cs.data.toList[j]? = some b → b.toNat < 128 := fun j b h => ha b (List.mem_of_getElem? h)
  by_cases h8 : 8 < t.size
  · refine (Tryd.strings_IndexAny_long (zero_of_info (by kernel_rfl : (Tryd.prog.info? 187).map (fun i => (i.zero, i.size)) = some (some (.agg (Array.replicate 256 (.bool false))), 256))).1 t cs w (by omega) h8 (by omega) (by omega) hasc).mono ?_
    rintro e w' ⟨rfl, rfl⟩
    exact Ret.mk rfl (((Gr.refl _).alloc _).alloc _)
  · have HA := Lib.hid ha
    have hemp : cs.toList.isEmpty = false := by
      rw [ByteArray.toList_eq]
      cases h : cs.data.toList with
      | nil => rw [size_data, h] at h4; simp at h4
      | cons _ _ => rfl
    have hn1 : ((cs.size : Int) == 1) = false := beq_eq_false_iff_ne.2 (by omega)
    have h8z : decide ((8 : Int) < (t.size : Int)) = false := decide_eq_false (by omega)
    clear ha hasc
    go_enter Tryd.func96, Tryd.ntmps96
    go_wp2_with (go_at_call 115; refine (Tryd.strings_shouldUseASCIISet _ _).mono ?_; rintro e w' ⟨rfl, hw⟩; rw [hw, h8z])
    go_loopg [9, 10] t.size (fun g _ _ wx => ∃ i : Nat, t.size ≤ i + g ∧ i ≤ t.size ∧ wx.heap[w.heap.size]? = some (.stringIter t i) ∧ Gr w wx ∧ Lib.NoAny t.data.toList cs.data.toList i)
    case atStart => exact ⟨0, by omega, by omega, World.iter_heap w t 0, (Gr.refl w).alloc _, Lib.NoAny.zero _ _⟩
    case round =>
      obtain ⟨i, hig, hit, hk, hgw, hno⟩ := hrel
      have HN := Lib.hid hno
      clear hno
      by_cases hi : i < t.size
      · obtain ⟨g, rfl⟩ : ∃ g, gk = g + 1 := ⟨gk - 1, by omega⟩
        have hnx := fun ty => Lib.run_next_any_at (P := Tryd.prog) wr w.heap.size t i ty hk hi
        have hHe := fun p => Lib.iterAt_heap wr w.heap.size t i p hk
        have hGe := fun p => (Lib.below_iterAt hgw (Nat.le_refl _) t p : Gr w (wr.iterAt w.heap.size t p))
        by_cases h128 : t[i].toNat < 128
        · rw [decode_ascii t i hi h128] at hnx
          have hxl : t.data.toList[i]? = some t[i] := Lib.data_getElem? t i hi
          generalize t[i] = x at *
          have hcon := Lib.contains_iff_indexByte cs.data.toList x
          have hback : ((x.toNat : Int)).toNat.toUInt8 = x := by simp
          have hir := fun W => Tryd.strings_IndexRune_ascii cs (x.toNat : Int) W (by omega) (by omega)
          rw [hback] at hir
          have HX := Lib.hid hxl
          cases hin : cs.data.toList.contains x
          · rw [hin] at hcon
            have hlt : ¬ ((0 : Int) ≤ Lib.indexByte cs.data.toList x) := of_decide_eq_false hcon.symm
            clear hcon hxl
            go_wp2_with (go_at_call 114; refine (hir _).mono ?_; rintro e w' ⟨rfl, hw⟩; rw [hw])
            go_roundg g
            case measure => omega
            case rel => exact ⟨i + 1, by omega, by omega, hHe _, hGe _, HN.out.succ HX.out hin⟩
          · rw [hin] at hcon
            have hge : (0 : Int) ≤ Lib.indexByte cs.data.toList x := of_decide_eq_true hcon.symm
            clear hcon hxl
            go_wp2_with (go_at_call 114; refine (hir _).mono ?_; rintro e w' ⟨rfl, hw⟩; rw [hw])
            go_ret
            exact ⟨by rw [Lib.indexAny_hit HN.out HX.out hin]; rfl, hGe _⟩
        · obtain ⟨d1, d2⟩ := decode_high t i hi (by omega)
          have d3 := decode_le t i
          obtain ⟨d4, d5⟩ := decode_span t i hi (by omega)
          have D5 := Lib.hid d5
          clear d5 h128
          generalize Utf8.decode t i = rk at *
          obtain ⟨rr, k⟩ := rk
          simp only at d1 d2 d3 d4 hnx
          have hir := fun W => index_rune_high cs h4 HA.out (rr : Int) (by omega) W
          go_wp2_with (go_at_call 114; refine (hir _).mono ?_; rintro e w' ⟨rfl, hgr⟩)
          go_roundg g
          case measure => omega
          case rel =>
            refine ⟨i + k, by omega, by omega, ?_, Gr.trans (hGe (i + k)) hgr, ?_⟩
            · have h1 := hHe (i + k)
              rw [hgr.block _ (by rw [Lib.iterAt_size]; exact (Array.getElem?_eq_some_iff.1 hk).1)]
              exact h1
            · intro j b hj hb
              by_cases hji : j < i
              · exact HN.out j b hji hb
              · have h1 := D5.out j b (by omega) hj hb
                rw [Bool.eq_false_iff]
                intro h2
                have h3 := HA.out b (List.contains_iff_mem.1 h2)
                omega
      · obtain rfl : i = t.size := by omega
        have hnx := fun ty => Lib.run_next_end_at (P := Tryd.prog) wr w.heap.size t t.size ty hk (by omega)
        go_wp2_with fail
        go_ret
        exact ⟨by rw [Lib.indexAny_none (by rw [← size_data]; exact HN.out)]; rfl, hgw⟩
theorem index_any (t : ByteArray) (ht : t.size ≤ 1000) (w : World) : Calls Tryd.prog 96 #[.string t, .string ⟨#[32, 40, 41, 34, 42]⟩] w (Ret w (.int .i64 (idxSign t.data.toList))) := by
  have h := index_any' t ⟨#[32, 40, 41, 34, 42]⟩ ht (by decide) (by decide) w
  have e : Lib.indexAny t.data.toList (⟨#[32, 40, 41, 34, 42]⟩ : ByteArray).data.toList = idxSign t.data.toList := idxSign_eq t.data.toList
  rw [e] at h
  exact h
set_option maxRecDepth 100000 in
theorem contains_any' (t cs : ByteArray) (ht : t.size ≤ 1000) (h4 : 4 ≤ cs.size ∧ cs.size ≤ 8) (ha : ∀ b ∈ cs.data.toList, b.toNat < 128) (w : World) :
    Calls Tryd.prog 128 #[.string t, .string cs] w (Ret w (.bool (Lib.containsAny t.data.toList cs.data.toList))) := by
  have hix := fun W => index_any' t cs ht h4 ha W
  unfold Lib.containsAny
  clear ha
  generalize Lib.indexAny t.data.toList cs.data.toList = k at *
  go_enter Tryd.func128, Tryd.ntmps128
  go_wp2_with (go_at_call 96; refine (hix _).mono ?_; rintro e w' ⟨rfl, hg⟩)
  go_ret
  exact Ret.mk rfl hg
end Go.Proofs.YthenhglpljdhfaaDoor
