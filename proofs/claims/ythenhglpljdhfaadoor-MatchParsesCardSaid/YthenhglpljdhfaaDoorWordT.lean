/-
  Contracts of word.Stem and of the reference's Stem.
-/
import Derived.Test.YthenhglpljdhfaaDoorWordS
import Derived.Laws.Rows
namespace Go.Proofs.YthenhglpljdhfaaDoor
open Go Go.RowKit

/-- The ends, and what stands in their place. -/
def endsT : List (List UInt8 × List UInt8) := [([115, 115, 101, 115], [115, 115]), ([105, 101, 115], [121]), ([115, 115], [115, 115]), ([105, 110, 103], []), ([101, 100], []), ([101, 115], [101]), ([115], [])]
def endsCells : Array Value := #[.string ⟨#[115, 115, 101, 115]⟩, .string ⟨#[115, 115]⟩, .string ⟨#[105, 101, 115]⟩, .string ⟨#[121]⟩, .string ⟨#[115, 115]⟩, .string ⟨#[115, 115]⟩, .string ⟨#[105, 110, 103]⟩, .string ⟨#[]⟩, .string ⟨#[101, 100]⟩, .string ⟨#[]⟩, .string ⟨#[101, 115]⟩, .string ⟨#[101]⟩, .string ⟨#[115]⟩, .string ⟨#[]⟩]
def endE (j : Nat) : ByteArray := ⟨(endsT.getD j ([], [])).1.toArray⟩
def endR (j : Nat) : ByteArray := ⟨(endsT.getD j ([], [])).2.toArray⟩
def EndsAt (w : World) : Prop := ∃ t fr, w.heap[(0 : Nat)]? = some (.cells endsCells t fr)
theorem EndsAt.lt {w : World} (h : EndsAt w) : 0 < w.heap.size := by
  obtain ⟨t, fr, h⟩ := h
  exact (Array.getElem?_eq_some_iff.1 h).1
theorem EndsAt.gr {w w' : World} (h : EndsAt w) (g : Gr w w') : EndsAt w' := by
  have hl := h.lt
  obtain ⟨t, fr, h⟩ := h
  exact ⟨t, fr, by rw [g.block _ hl]; exact h⟩

theorem run_ends0 (w : World) : (Instr.index 94 (.agg endsCells) (.int .i64 0)).run Tryd.prog w = .ok (.agg #[.string (endE 0), .string (endR 0)]) w := by kernel_rfl
theorem run_ends1 (w : World) : (Instr.index 94 (.agg endsCells) (.int .i64 1)).run Tryd.prog w = .ok (.agg #[.string (endE 1), .string (endR 1)]) w := by kernel_rfl
theorem run_ends2 (w : World) : (Instr.index 94 (.agg endsCells) (.int .i64 2)).run Tryd.prog w = .ok (.agg #[.string (endE 2), .string (endR 2)]) w := by kernel_rfl
theorem run_ends3 (w : World) : (Instr.index 94 (.agg endsCells) (.int .i64 3)).run Tryd.prog w = .ok (.agg #[.string (endE 3), .string (endR 3)]) w := by kernel_rfl
theorem run_ends4 (w : World) : (Instr.index 94 (.agg endsCells) (.int .i64 4)).run Tryd.prog w = .ok (.agg #[.string (endE 4), .string (endR 4)]) w := by kernel_rfl
theorem run_ends5 (w : World) : (Instr.index 94 (.agg endsCells) (.int .i64 5)).run Tryd.prog w = .ok (.agg #[.string (endE 5), .string (endR 5)]) w := by kernel_rfl
theorem run_ends6 (w : World) : (Instr.index 94 (.agg endsCells) (.int .i64 6)).run Tryd.prog w = .ok (.agg #[.string (endE 6), .string (endR 6)]) w := by kernel_rfl
theorem run_ends (j : Nat) (hj : j < 7) (w : World) : (Instr.index 94 (.agg endsCells) (.int .i64 (j : Int))).run Tryd.prog w = .ok (.agg #[.string (endE j), .string (endR j)]) w :=
  match j, hj with
  | 0, _ => run_ends0 w
  | 1, _ => run_ends1 w
  | 2, _ => run_ends2 w
  | 3, _ => run_ends3 w
  | 4, _ => run_ends4 w
  | 5, _ => run_ends5 w
  | 6, _ => run_ends6 w

def stemL : List (List UInt8 × List UInt8) → List UInt8 → List UInt8
  | [], s => s
  | (e, r) :: rest, s => if e.isSuffixOf s then (if s.length - e.length < 3 then s else s.take (s.length - e.length) ++ r) else stemL rest s
def stemS (s : ByteArray) : ByteArray := ⟨(stemL endsT s.data.toList).toArray⟩
def cutS (s p : ByteArray) : ByteArray := ⟨(Lib.trimSuffix s.data.toList p.data.toList).toArray⟩

theorem stem_step (l : List UInt8) (j : Nat) (hj : j < 7) : stemL (endsT.drop j) l = if (endE j).data.toList.isSuffixOf l then (if l.length - (endE j).data.toList.length < 3 then l else l.take (l.length - (endE j).data.toList.length) ++ (endR j).data.toList) else stemL (endsT.drop (j + 1)) l := by
  match j, hj with
  | 0, _ => rfl
  | 1, _ => rfl
  | 2, _ => rfl
  | 3, _ => rfl
  | 4, _ => rfl
  | 5, _ => rfl
  | 6, _ => rfl

theorem cut_yes (s p : ByteArray) (hs : s.size ≤ 9223372036854775807) (h : p.data.toList.isSuffixOf s.data.toList = true) (w : World) :
    Calls Tryd.prog 53 #[.string s, .string p] w fun e w' => e = .returned (.tuple #[.string (cutS s p), .bool true]) ∧ w = w' :=
  (Tryd.strings_CutSuffix s p w hs).mono fun _ _ ⟨he, hw⟩ => ⟨by rw [he]; unfold Lib.hasSuffix; rw [h]; rfl, hw.symm⟩
theorem cut_no (s p : ByteArray) (hs : s.size ≤ 9223372036854775807) (h : p.data.toList.isSuffixOf s.data.toList = false) (w : World) :
    Calls Tryd.prog 53 #[.string s, .string p] w fun e w' => e = .returned (.tuple #[.string (cutS s p), .bool false]) ∧ w = w' :=
  (Tryd.strings_CutSuffix s p w hs).mono fun _ _ ⟨he, hw⟩ => ⟨by rw [he]; unfold Lib.hasSuffix; rw [h]; rfl, hw.symm⟩

theorem cutS_data (s p : ByteArray) (h : p.data.toList.isSuffixOf s.data.toList = true) : (cutS s p).data.toList = s.data.toList.take (s.data.toList.length - p.data.toList.length) := by
  unfold cutS Lib.trimSuffix Lib.hasSuffix
  rw [h]
  simp
theorem cutS_size (s p : ByteArray) (h : p.data.toList.isSuffixOf s.data.toList = true) : (cutS s p).size = s.size - p.size := by
  rw [size_data, cutS_data s p h, List.length_take, ← size_data, ← size_data]
  omega
theorem endR_small (j : Nat) (hj : j < 7) : (endR j).size ≤ 2 := by
  match j, hj with
  | 0, _ => decide
  | 1, _ => decide
  | 2, _ => decide
  | 3, _ => decide
  | 4, _ => decide
  | 5, _ => decide
  | 6, _ => decide

theorem endE_small (j : Nat) (hj : j < 7) : (endE j).size ≤ 4 := by
  match j, hj with
  | 0, _ => decide
  | 1, _ => decide
  | 2, _ => decide
  | 3, _ => decide
  | 4, _ => decide
  | 5, _ => decide
  | 6, _ => decide

theorem bytes_ext {a b : ByteArray} (h : a.data.toList = b.data.toList) : a = b := by
  cases a; cases b; simp only [ByteArray.mk.injEq]; exact Array.ext' h
theorem data_app (a b : ByteArray) : (a ++ b).data.toList = a.data.toList ++ b.data.toList := by
  rw [ByteArray.data_append, Array.toList_append]

set_option maxHeartbeats 400000 in
theorem stem_t (s : ByteArray) (hs : s.size ≤ 4611686018427387904) (w : World) (he : EndsAt w) : Calls Tryd.prog 12 #[.string s] w (Ret w (.string (stemS s))) := by
  obtain ⟨tt, fr, he⟩ := he
  go_enter Tryd.func12, Tryd.ntmps12
  go_wp2_with (refine wpList_load_row rfl 94 _ rfl 0 rfl tt endsCells fr _ he Tryd.underlying94 rfl (by kernel_rfl) ?_)
  clear he
  go_loopw [8] (fun i w' => ∃ j : Nat, j ≤ 7 ∧ i = .int .i64 j ∧ Gr w w' ∧ stemL (endsT.drop j) s.data.toList = stemL endsT s.data.toList) (fun i _ => 7 - (intOf i).toNat)
  case atStart => exact ⟨0, Nat.zero_le _, rfl, Gr.refl _, rfl⟩
  case round =>
    obtain ⟨j, hj, rfl, hg, hst⟩ := hrel
    have HS := Lib.hid hst
    clear hst
    by_cases hlt : j < 7
    · have hidx := fun w => run_ends j hlt w
      have HT := Lib.hid (stem_step s.data.toList j hlt)
      have hr2 := endR_small j hlt
      cases hsx : (endE j).data.toList.isSuffixOf s.data.toList
      · have HX := Lib.hid hsx
        clear hsx
        go_wp2_with (go_at_call 53; refine (cut_no _ _ (by omega) HX.out _).mono ?_; rintro e w1 ⟨rfl, rfl⟩)
        exact ⟨⟨j + 1, by omega, by go_num, hg.alloc _, by rw [← HS.out, HT.out, HX.out]; rfl⟩, by simp [intOf]; omega⟩
      · have HX := Lib.hid hsx
        clear hsx
        have hcs := cutS_size s (endE j) HX.out
        have HC := Lib.hid hcs
        have hcs2 : (cutS s (endE j)).size ≤ s.size := by omega
        clear hcs
        go_wp2_with (go_at_call 53; refine (cut_yes _ _ (by omega) HX.out _).mono ?_; rintro e w1 ⟨rfl, rfl⟩)
        all_goals
          go_ret
          refine Ret.mk ?_ (hg.alloc _)
          have hlen : s.data.toList.length - (endE j).data.toList.length = (cutS s (endE j)).size := by rw [HC.out, size_data, size_data]
          rw [show stemS s = ⟨(stemL endsT s.data.toList).toArray⟩ from rfl, ← HS.out, HT.out, HX.out, hlen]
          simp only [↓reduceIte]
        · rw [if_pos (by omega)]; rfl
        · rw [if_neg (by omega)]
          refine congrArg Value.string (bytes_ext ?_)
          rw [data_app, cutS_data s _ HX.out, ← hlen]
    · go_wp2_with fail
      go_ret
      obtain rfl : j = 7 := by omega
      exact Ret.mk (by rw [show stemS s = ⟨(stemL endsT s.data.toList).toArray⟩ from rfl, ← HS.out]; rfl) hg

theorem suffix_iff (s p : ByteArray) : ((s.extract (s.size - p.size) s.size).toList == p.toList) = p.data.toList.isSuffixOf s.data.toList := by
  rw [Lib.extract_toList, ByteArray.toList_eq, size_data, size_data, Bool.eq_iff_iff, beq_iff_eq, List.isSuffixOf_iff_suffix, List.suffix_iff_eq_drop]
  rw [List.take_of_length_le (by simp)]
  exact ⟨fun e => e.symm, fun e => e.symm⟩
theorem suffix_short (s p : ByteArray) (h : s.size < p.size) : p.data.toList.isSuffixOf s.data.toList = false := by
  rw [Bool.eq_false_iff]
  intro e
  have := (List.isSuffixOf_iff_suffix.1 e).length_le
  rw [size_data, size_data] at h
  omega

set_option maxHeartbeats 800000 in
theorem stem_ref (s : ByteArray) (hs : s.size ≤ 4611686018427387904) (w : World) : Calls Tryd.prog 13 #[.string s] w (Ret w (.string (stemS s))) := by
  go_enter Tryd.func13, Tryd.ntmps13
  go_wp2_with fail
  go_loopw [14] (fun i w' => ∃ j : Nat, j ≤ 7 ∧ i = .int .i64 j ∧ Gr w w' ∧ stemL (endsT.drop j) s.data.toList = stemL endsT s.data.toList) (fun i _ => 7 - (intOf i).toNat)
  case atStart => exact ⟨0, Nat.zero_le _, rfl, Gr.refl _, rfl⟩
  case round =>
    obtain ⟨j, hj, rfl, hg, hst⟩ := hrel
    have HS := Lib.hid hst
    clear hst
    by_cases hlt : j < 7
    · have hidx : ∀ w, (Instr.index 94 (.agg #[.string ⟨#[115, 115, 101, 115]⟩, .string ⟨#[115, 115]⟩, .string ⟨#[105, 101, 115]⟩, .string ⟨#[121]⟩, .string ⟨#[115, 115]⟩, .string ⟨#[115, 115]⟩, .string ⟨#[105, 110, 103]⟩, .string ⟨#[]⟩, .string ⟨#[101, 100]⟩, .string ⟨#[]⟩, .string ⟨#[101, 115]⟩, .string ⟨#[101]⟩, .string ⟨#[115]⟩, .string ⟨#[]⟩]) (.int .i64 (j : Int))).run Tryd.prog w = .ok (.agg #[.string (endE j), .string (endR j)]) w := fun w => run_ends j hlt w
      have HT := Lib.hid (stem_step s.data.toList j hlt)
      have hr2 := endR_small j hlt
      have hr4 := endE_small j hlt
      by_cases hsz : s.size < (endE j).size
      · have hd : decide (((s.size : Int) - ((endE j).size : Int)) < 0) = true := by simp; omega
        go_wp2_with fail
        go_quiet (fail)
        go_wp2_with fail
        exact ⟨⟨j + 1, by omega, by go_num, (hg.alloc _).drewN _, by rw [← HS.out, HT.out, suffix_short _ _ hsz]; rfl⟩, by simp [intOf]; omega⟩
      · have hd : decide (((s.size : Int) - ((endE j).size : Int)) < 0) = false := by simp; omega
        have HF := Lib.hid (suffix_iff s (endE j))
        go_wp2_with fail
        go_quiet (fail)
        go_wp2_with fail
        · have hb : (!(s.extract (s.size - (endE j).size) s.size).toList == (endE j).toList) = true := by assumption
          rw [HF.out] at hb
          have hb' : (endE j).data.toList.isSuffixOf s.data.toList = false := by simpa using hb
          exact ⟨⟨j + 1, by omega, by go_num, (hg.alloc _).drewN _, by rw [← HS.out, HT.out, hb']; rfl⟩, by simp [intOf]; omega⟩
        · have hb : (!(s.extract (s.size - (endE j).size) s.size).toList == (endE j).toList) = false := by assumption
          rw [HF.out] at hb
          have hb' : (endE j).data.toList.isSuffixOf s.data.toList = true := by simpa using hb
          have hn : s.data.toList.length - (endE j).data.toList.length = s.size - (endE j).size := by rw [size_data, size_data]
          clear hb
          have HB := Lib.hid hb'
          have HN := Lib.hid hn
          clear hb' hn
          have hex : (s.extract 0 (s.size - (endE j).size)).size ≤ s.size := by rw [ByteArray.size_extract]; omega
          go_quiet (fail)
          go_wp2_with fail
          go_ret
          refine Ret.mk ?_ (((hg.alloc _).drewN _).drewN _)
          rw [show stemS s = ⟨(stemL endsT s.data.toList).toArray⟩ from rfl, ← HS.out, HT.out, if_pos HB.out, HN.out, if_neg (by omega)]
          refine congrArg Value.string (bytes_ext ?_)
          rw [data_app, Lib.extract_data]
          simp
        · have hb : (!(s.extract (s.size - (endE j).size) s.size).toList == (endE j).toList) = false := by assumption
          rw [HF.out] at hb
          have hb' : (endE j).data.toList.isSuffixOf s.data.toList = true := by simpa using hb
          have hn : s.data.toList.length - (endE j).data.toList.length = s.size - (endE j).size := by rw [size_data, size_data]
          go_ret
          refine Ret.mk ?_ ((hg.alloc _).drewN _)
          rw [show stemS s = ⟨(stemL endsT s.data.toList).toArray⟩ from rfl, ← HS.out, HT.out, if_pos hb', hn, if_pos (by omega)]
          rfl
    · go_wp2_with fail
      go_ret
      obtain rfl : j = 7 := by omega
      exact Ret.mk (by rw [show stemS s = ⟨(stemL endsT s.data.toList).toArray⟩ from rfl, ← HS.out]; rfl) hg
end Go.Proofs.YthenhglpljdhfaaDoor
