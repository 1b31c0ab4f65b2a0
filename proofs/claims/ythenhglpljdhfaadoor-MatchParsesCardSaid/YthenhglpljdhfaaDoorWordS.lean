/-
  Bytes in memory; contracts of word.Small and of the reference's Small.
-/
import Derived.Test.YthenhglpljdhfaaDoorLib
import Derived.Test.YthenhglpljdhfaaDoorPlain
import Derived.Test.YthenhglpljdhfaaDoorShelf
import Derived.Laws.IdiomStrings
import Derived.Deep.OwnRows
namespace Go.Proofs.YthenhglpljdhfaaDoor
open Go Go.RowKit

theorem size_data (s : ByteArray) : s.size = s.data.toList.length := by rw [Array.length_toList]; rfl
theorem get_data (s : ByteArray) (j : Nat) (hj : j < s.size) : s[j] = s.data.toList[j]'(by rw [← size_data]; exact hj) := by
  rw [Array.getElem_toList]; rfl

/-- Bytes that lie in memory of the call's own, not frozen. -/
def BytesIn (w : World) (b : Nat) (l : List UInt8) : Prop := ∀ i (h : i < l.length), w.cell? ⟨b, i, none⟩ = some (.int .u8 (l[i].toNat : Int)) ∧ w.frozen? ⟨b, i, none⟩ = false

theorem BytesIn.set {w : World} {b : Nat} {l : List UInt8} (h : BytesIn w b l) (k : Nat) (hk : k < l.length) (c : UInt8) : BytesIn (w.setCell ⟨b, k, none⟩ (.int .u8 (c.toNat : Int))) b (l.set k c) := by
  intro i hi
  have hi' : i < l.length := by simpa using hi
  refine ⟨?_, by simpa using (h i hi').2⟩
  by_cases e : k = i
  · subst e
    rw [World.cell?_setCell_same (w := w) (a := ⟨b, k, none⟩) (v := .int .u8 (c.toNat : Int)) (h := (h k hk).1)]
    simp
  · rw [World.cell?_setCell_other (w := w) (a := ⟨b, k, none⟩) (b := ⟨b, i, none⟩) (v := .int .u8 (c.toNat : Int)) (h := by intro h; injection h with _ h2 _; exact e h2), (h i hi').1]
    simp [e]

theorem bytesIn_new (w : World) (s : ByteArray) (cap : Nat) (t : TypeId) : BytesIn (w.alloc (.cells (bytesRow s cap) t ((bytesRow s cap).size, (bytesRow s cap).size + 1))) w.heap.size s.data.toList := by
  intro i hi
  have hi' : i < s.data.size := by simpa using hi
  have hsz : i < (bytesRow s cap).size := by
    unfold bytesRow
    rw [Array.size_append, Array.size_map]
    omega
  refine ⟨?_, ?_⟩
  · rw [World.cell?_alloc_mark]
    unfold bytesRow
    rw [Array.getElem?_append_left (by simpa using hi'), Array.getElem?_map, Array.getElem?_eq_getElem hi']
    simp
  · rw [World.frozen?_alloc_mark]
    simp
    omega

def smallC (c : UInt8) : UInt8 := if 65 ≤ c ∧ c ≤ 90 then c + 32 else c
def smallS (s : ByteArray) : ByteArray := ⟨(s.data.toList.map smallC).toArray⟩

/-- The first j letters small, the others as they were. -/
def upTo (l : List UInt8) (j : Nat) : List UInt8 := (l.take j).map smallC ++ l.drop j
theorem upTo_length (l : List UInt8) (j : Nat) : (upTo l j).length = l.length := by simp [upTo]; omega
theorem upTo_at (l : List UInt8) (j i : Nat) (hj : j ≤ l.length) : (upTo l j)[i]? = if i < j then l[i]?.map smallC else l[i]? := by
  unfold upTo
  split
  · rename_i h
    rw [List.getElem?_append_left (by simp; omega), List.getElem?_map, List.getElem?_take, if_pos h]
  · rename_i h
    rw [List.getElem?_append_right (by simp; omega), List.getElem?_drop]
    congr 1
    simp
    omega
theorem upTo_get (l : List UInt8) (j : Nat) (h : j < l.length) (h' : j < (upTo l j).length) : (upTo l j)[j] = l[j] := by
  have := upTo_at l j j (Nat.le_of_lt h)
  rw [if_neg (Nat.lt_irrefl j), List.getElem?_eq_getElem h, List.getElem?_eq_getElem h'] at this
  exact Option.some.inj this
theorem upTo_succ (l : List UInt8) (j : Nat) (h : j < l.length) : upTo l (j + 1) = (upTo l j).set j (smallC l[j]) := by
  apply List.ext_getElem?
  intro i
  rw [upTo_at l (j + 1) i h, List.getElem?_set, upTo_at l j i (Nat.le_of_lt h)]
  by_cases e : j = i
  · subst e
    rw [if_pos (by omega), if_pos rfl, if_pos (by rw [upTo_length]; exact h), List.getElem?_eq_getElem h]
    rfl
  · rw [if_neg e]
    by_cases e2 : i < j
    · rw [if_pos (by omega), if_pos e2]
    · rw [if_neg (by omega), if_neg e2]
theorem upTo_all (l : List UInt8) (j : Nat) (h : l.length ≤ j) : upTo l j = l.map smallC := by
  unfold upTo
  rw [List.take_of_length_le h, List.drop_eq_nil_of_le h, List.append_nil]

theorem smallC_yes (c : UInt8) (h1 : (65 : Int) ≤ (c.toNat : Int)) (h2 : (c.toNat : Int) ≤ 90) : ((smallC c).toNat : Int) = (c.toNat : Int) + 32 := by
  have e1 : (65 : UInt8) ≤ c := by rw [UInt8.le_iff_toNat_le]; simpa using (by omega : 65 ≤ c.toNat)
  have e2 : c ≤ (90 : UInt8) := by rw [UInt8.le_iff_toNat_le]; simpa using (by omega : c.toNat ≤ 90)
  unfold smallC
  rw [if_pos ⟨e1, e2⟩, UInt8.toNat_add]
  simp
  omega
theorem smallC_no (c : UInt8) (h : ¬ ((65 : Int) ≤ (c.toNat : Int) ∧ (c.toNat : Int) ≤ 90)) : smallC c = c := by
  unfold smallC
  rw [if_neg]
  rintro ⟨e1, e2⟩
  rw [UInt8.le_iff_toNat_le] at e1 e2
  simp at e1 e2
  omega

set_option maxHeartbeats 400000 in
theorem small_t (s : ByteArray) (hs : s.size ≤ 9223372036854775807) (w : World) : Calls Tryd.prog 10 #[.string s] w (Ret w (.string (smallS s))) := by
  have hcv := fun w => run_bytes_of_string (P := Tryd.prog) w 9 92 5 s Tryd.underlying9 Tryd.underlying92 Tryd.underlying5
  go_enter Tryd.func10, Tryd.ntmps10
  go_wp2_with fail
  clear hcv
  have hb0 : BytesIn (w.alloc (Obj.cells (bytesRow s (grownCap w s.size 0 5)) 5 ((bytesRow s (grownCap w s.size 0 5)).size, (bytesRow s (grownCap w s.size 0 5)).size + 1))).drew w.heap.size (upTo s.data.toList 0) :=
    bytesIn_new w s (grownCap w s.size 0 5) 5
  generalize grownCap w s.size 0 5 = cap at *
  have hg0 : Gr w (w.alloc (Obj.cells (bytesRow s cap) 5 ((bytesRow s cap).size, (bytesRow s cap).size + 1))).drew := (Gr.alloc (Gr.refl w) _).drew
  generalize (w.alloc (Obj.cells (bytesRow s cap) 5 ((bytesRow s cap).size, (bytesRow s cap).size + 1))).drew = w0 at *
  have HB0 := Lib.hid hb0
  clear hb0
  go_loopw [10] (fun i w' => ∃ j : Nat, j ≤ s.size ∧ i = .int .i64 j ∧ Gr w w' ∧ BytesIn w' w.heap.size (upTo s.data.toList j)) (fun i _ => s.size - (intOf i).toNat)
  case atStart => exact ⟨0, Nat.zero_le _, rfl, hg0, HB0.out⟩
  case round =>
    obtain ⟨j, hj, rfl, hg, hb⟩ := hrel
    have HB := Lib.hid hb
    clear hb hg0
    by_cases hlt : j < s.size
    · have hl : j < s.data.toList.length := by rw [← size_data]; exact hlt
      have hl' : j < (upTo s.data.toList j).length := by rw [upTo_length]; exact hl
      have hc := (HB.out j hl').1
      have hf := (HB.out j hl').2
      rw [upTo_get _ _ hl] at hc
      generalize hcc : s.data.toList[j] = c at *
      have HC := Lib.hid hcc
      clear hcc
      have hr := UInt8.toNat_lt c
      go_wp2_with fail
      · have h1 : (65 : Int) ≤ (c.toNat : Int) := by assumption
        have h2 : (c.toNat : Int) ≤ 90 := by assumption
        have e : (c.toNat : Int) + 97 - 65 = ((smallC c).toNat : Int) := by rw [smallC_yes c h1 h2]; omega
        refine ⟨⟨j + 1, by omega, by go_num, hg.setCell (Nat.le_refl _) _, ?_⟩, by simp [intOf]; omega⟩
        rw [e, upTo_succ _ _ hl, HC.out]
        exact HB.out.set j hl' _
      all_goals
        have e : smallC c = c := smallC_no c (by omega)
        refine ⟨⟨j + 1, by omega, by go_num, hg, ?_⟩, by simp [intOf]; omega⟩
        rw [upTo_succ _ _ hl, HC.out, e, ← HC.out, ← upTo_get _ _ hl hl', List.set_getElem_self]
        exact HB.out
    · have hx := HB.out
      rw [upTo_all _ _ (by rw [← size_data]; omega)] at hx
      have hk : (convert 92 9 (.slice (some ⟨w.heap.size, 0, none⟩) s.size cap)).run Tryd.prog wr = .ok (.string (smallS s)) wr := by
        have := run_convert_bytes_back (P := Tryd.prog) wr 92 9 5 ⟨w.heap.size, 0, none⟩ cap (s.data.toList.map smallC) Tryd.underlying92 Tryd.underlying5 Tryd.underlying9
          (fun j hj => by
            have := (hx j hj).1
            unfold Addr.add
            split
            · rename_i h0; subst h0; exact this
            · simpa using this)
        rw [List.length_map, ← size_data] at this
        exact this
      clear hx
      go_wp2_with fail
      go_ret
      exact Ret.mk rfl hg

theorem take_set_succ {α : Type} (L M : List α) (j : Nat) (h : j < L.length) (hm : j < M.length) (ht : L.take j = M.take j) : (L.set j M[j]).take (j + 1) = M.take (j + 1) := by
  rw [List.take_succ_eq_append_getElem (by simpa using h), List.take_succ_eq_append_getElem hm, List.take_set_of_le (Nat.le_refl j), ht]
  simp

set_option maxHeartbeats 400000 in
theorem small_ref (s : ByteArray) (hs : s.size ≤ 140737488355328) (w : World) : Calls Tryd.prog 11 #[.string s] w (Ret w (.string (smallS s))) := by
  have hmk := fun W => run_make_row' (P := Tryd.prog) 92 5 (.int .u8 0) 1 Tryd.underlying92 (by kernel_rfl) rfl .i64 .i64 s.size (by omega) (by omega) W
  go_enter Tryd.func11, Tryd.ntmps11
  go_wp2_with fail
  clear hmk
  have hb0 : ∃ L : List UInt8, L.length = s.size ∧ BytesIn (w.alloc (Obj.cells (madeCells #[Value.int .u8 0] s.size) 5)) w.heap.size L ∧ L.take 0 = (s.data.toList.map smallC).take 0 := by
    refine ⟨List.replicate s.size 0, by simp, fun i hi => ?_, rfl⟩
    have hi' : i < s.size := by simpa using hi
    refine ⟨?_, by simp⟩
    rw [World.cell?_alloc_new, ← Array.getElem?_toList, toList_madeCells_one]
    simp [hi']
  have HB0 := Lib.hid hb0
  clear hb0
  have hg0 : Gr w (w.alloc (Obj.cells (madeCells #[Value.int .u8 0] s.size) 5)) := (Gr.refl w).alloc _
  generalize w.alloc (Obj.cells (madeCells #[Value.int .u8 0] s.size) 5) = w0 at *
  go_loopw [11] (fun i w' => ∃ j : Nat, j ≤ s.size ∧ i = .int .i64 j ∧ Gr w w' ∧ ∃ L : List UInt8, L.length = s.size ∧ BytesIn w' w.heap.size L ∧ L.take j = (s.data.toList.map smallC).take j) (fun i _ => s.size - (intOf i).toNat)
  case atStart => exact ⟨0, Nat.zero_le _, rfl, hg0, HB0.out⟩
  case round =>
    obtain ⟨j, hj, rfl, hg, L, hL, hb, ht⟩ := hrel
    have HB := Lib.hid hb
    have HT := Lib.hid ht
    have HL := Lib.hid hL
    clear hb hg0 ht hL
    by_cases hlt : j < s.size
    · have hl : j < s.data.toList.length := by rw [← size_data]; exact hlt
      have hl' : j < L.length := by rw [HL.out]; exact hlt
      have hl2 : j < (s.data.toList.map smallC).length := by simpa using hl
      have hc := (HB.out j hl').1
      have hf := (HB.out j hl').2
      generalize L[j].toNat = cc at *
      have hr := UInt8.toNat_lt s[j]
      have em : (s.data.toList.map smallC)[j] = smallC s[j] := by rw [List.getElem_map, get_data s j hlt]
      go_wp2_with fail
      · have h1 : (65 : Int) ≤ (s[j].toNat : Int) := by assumption
        have h2 : (s[j].toNat : Int) ≤ 90 := by assumption
        have e : (s[j].toNat : Int) + 32 = ((smallC s[j]).toNat : Int) := (smallC_yes _ h1 h2).symm
        refine ⟨⟨j + 1, by omega, by go_num, hg.setCell (Nat.le_refl _) _, L.set j (smallC s[j]), by rw [List.length_set]; exact HL.out, ?_, ?_⟩, by simp [intOf]; omega⟩
        · rw [e]; exact HB.out.set j hl' _
        · rw [← em]; exact take_set_succ L _ j hl' hl2 HT.out
      all_goals
        have e : smallC s[j] = s[j] := smallC_no _ (by omega)
        refine ⟨⟨j + 1, by omega, by go_num, hg.setCell (Nat.le_refl _) _, L.set j s[j], by rw [List.length_set]; exact HL.out, HB.out.set j hl' _, ?_⟩, by simp [intOf]; omega⟩
        rw [← e, ← em]; exact take_set_succ L _ j hl' hl2 HT.out
    · have hx := HB.out
      have hk : (convert 92 9 (.slice (some ⟨w.heap.size, 0, none⟩) s.size s.size)).run Tryd.prog wr = .ok (.string (smallS s)) wr := by
        have hLe : L = s.data.toList.map smallC := by
          have h1 := HT.out
          rw [List.take_of_length_le (by rw [HL.out]; omega), List.take_of_length_le (by rw [List.length_map, ← size_data]; omega)] at h1
          exact h1
        have := run_convert_bytes_back (P := Tryd.prog) wr 92 9 5 ⟨w.heap.size, 0, none⟩ s.size L Tryd.underlying92 Tryd.underlying5 Tryd.underlying9
          (fun j hj => by
            have := (hx j hj).1
            unfold Addr.add
            split
            · rename_i h0; subst h0; exact this
            · simpa using this)
        rw [HL.out, hLe] at this
        exact this
      clear hx
      go_wp2_with fail
      go_ret
      exact Ret.mk rfl hg
end Go.Proofs.YthenhglpljdhfaaDoor
