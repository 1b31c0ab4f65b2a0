/-
  Small lemmas on bytes and on slices of bytes that the call itself has made.
-/
import Derived.Test.YtkdplnbdhkckhaaLib
import Derived.Test.YtkdplnbdhkckhaaPlain
import Derived.Test.YtkdplnbdhkckhaaShelf
import Derived.KernelRfl
import Derived.BigGuardPart
import Derived.Laws.Concat
import Derived.Laws.IdiomStrings
import Derived.Laws.BytesArg
import Derived.BigRegion
import Derived.ChangeAlike
import Derived.RegionTactic
namespace Go.Proofs.Ytkdplnbdhkckhaa
open Go Go.RowKit

theorem size_data (s : ByteArray) : s.size = s.data.toList.length := by rw [Array.length_toList]; rfl
theorem u8_zero : ((0 : Int).toNat.toUInt8) = (0 : UInt8) := rfl
def byteV (b : UInt8) : Value := .int .u8 (b.toNat : Int)
/-- Bytes of the call's own. -/
def OwnB (a0 w : World) (v : Value) (l : List UInt8) : Prop := w.ownsRow a0.heap.size 5 1 v l.length (l.map byteV)
theorem OwnB.row {a0 w : World} {v : Value} {l : List UInt8} (h : OwnB a0 w v l) : w.ownsRow a0.heap.size 5 1 v l.length (l.map byteV) := h
theorem info_u8 : (Try.prog.info? 5).map (fun i => (i.zero, i.size, i.bytes)) = some (some (.int .u8 0), 1, 1) := by kernel_rfl
theorem u8_div (m d : Nat) : (m : Int) / (d : Int) % 256 = ((m / d).toUInt8.toNat : Int) := by
  simp
theorem own_snoc {a0 w : World} {v : Value} {l : List UInt8} {c : UInt8} (h : w.ownsRow a0.heap.size 5 1 v (l.length + 1) (l.map byteV ++ [byteV c])) : OwnB a0 w v (l ++ [c]) := by
  unfold OwnB
  rw [List.length_append, List.map_append]
  exact h
/-- Bytes of the call's own, made a text. -/
theorem own_string {a0 w : World} {v : Value} {l : List UInt8} (h : OwnB a0 w v l) : (convert 44 9 v).run Try.prog w = .ok (.string ⟨l.toArray⟩) w := by
  obtain ⟨h1, h2⟩ := h
  rcases h2 with ⟨rfl, h0⟩ | ⟨g, cap, cur, rfl, _, hh, hn, _, hcur, ht⟩
  · have hl : l = [] := List.eq_nil_of_length_eq_zero h0
    subst hl
    exact run_convert_bytes_nil (P := Try.prog) w 44 5 Try.underlying44 Try.underlying5 0 0 9 Try.underlying9
  · refine run_convert_bytes_back (P := Try.prog) w 44 9 5 ⟨g, 0, none⟩ cap l Try.underlying44 Try.underlying5 Try.underlying9 (fun j hj => ?_)
    have he : (⟨g, 0, none⟩ : Addr).add j = ⟨g, j, none⟩ := by
      unfold Addr.add
      split
      · rename_i h0; rw [h0]
      · simp
    have hc : cur.toList[j]? = some (byteV l[j]) := by
      have e := congrArg (fun l : List Value => l[j]?) ht
      simp only [Nat.mul_one] at e
      rw [List.getElem?_take, if_pos hj, List.getElem?_map, List.getElem?_eq_getElem hj] at e
      exact e
    rw [he]
    unfold World.cell?
    simp only [hh]
    rw [← Array.getElem?_toList]
    exact hc
theorem get_data (s : ByteArray) (j : Nat) (hj : j < s.size) : s[j] = s.data.toList[j]'(by rw [← size_data]; exact hj) := by
  rw [Array.getElem_toList]; rfl
theorem not_byte {k c : UInt8} (h : k ≠ c) : ¬ (k.toNat : Int) = (c.toNat : Int) := fun e => h (UInt8.toNat_inj.1 (by omega))
theorem bytes_ext {a b : ByteArray} (h : a.data.toList = b.data.toList) : a = b := by
  cases a; cases b; simp only [ByteArray.mk.injEq]; exact Array.ext' h
theorem ext_tail (t : ByteArray) (k : UInt8) (r : List UInt8) (h : t.data.toList = k :: r) : t.extract 1 t.size = ⟨r.toArray⟩ := by
  apply bytes_ext
  rw [Lib.extract_data, h, List.drop_one, List.tail_cons, List.take_of_length_le (by rw [size_data, h]; simp)]
theorem head_is (t : ByteArray) (k : UInt8) (r : List UInt8) (h : t.data.toList = k :: r) (h0 : 0 < t.size) : t[0] = k := by
  rw [get_data t 0 h0]
  simp [h]
theorem ownsRow_setCell_at {w : World} {B : Nat} {e : TypeId} {size n : Nat} {v : Value} {xs : List Value} (h : w.ownsRow B e size v n xs) {a : Addr} {u : Value} (hne : ¬ v.ownBlock = some a.block) : (w.setCell a u).ownsRow B e size v n xs := by
  obtain ⟨h1, h2⟩ := h
  refine ⟨h1, ?_⟩
  rcases h2 with h2 | ⟨g, cap, cur, rfl, hg, hh, r⟩
  · exact .inl h2
  · exact .inr ⟨g, cap, cur, rfl, hg, by rw [Below.heap_setCell _ _ _ _ (fun e => hne (by rw [← e]; rfl))]; exact hh, r⟩
def lenOf : Value → Nat | .string t => t.size | _ => 0
/-- string([]byte{c}). -/
theorem one_string (c : UInt8) (q : Int) (hq : q = (c.toNat : Int)) (w : World) : (convert 44 9 (.slice (some ⟨w.heap.size, 0, none⟩) 1 1)).run Try.prog (w.alloc (.cells #[.int .u8 q] 5)) = .ok (.string ⟨#[c]⟩) (w.alloc (.cells #[.int .u8 q] 5)) := by
  subst hq
  exact own_string (a0 := w) (l := [c]) (World.ownsRow_lit w #[.int .u8 (c.toNat : Int)] 1 (Nat.le_refl _) (by decide) rfl)
theorem two_set {w : World} {k : Nat} {x y u v : Value} (h0 : w.cell? ⟨k, 0, none⟩ = some x) (h1 : w.cell? ⟨k, 1, none⟩ = some y) :
    ((w.setCell ⟨k, 0, none⟩ u).setCell ⟨k, 1, none⟩ v).cell? ⟨k, 0, none⟩ = some u ∧ ((w.setCell ⟨k, 0, none⟩ u).setCell ⟨k, 1, none⟩ v).cell? ⟨k, 1, none⟩ = some v := by
  have e : (⟨k, 1, none⟩ : Addr) ≠ ⟨k, 0, none⟩ := by simp
  have e' : (⟨k, 0, none⟩ : Addr) ≠ ⟨k, 1, none⟩ := by simp
  refine ⟨?_, World.cell?_setCell_same _ _ _ ((World.cell?_setCell_other _ _ _ _ e').trans h1)⟩
  rw [World.cell?_setCell_other _ _ _ _ e]
  exact World.cell?_setCell_same _ _ _ h0
theorem ba_len (l : List UInt8) : (⟨l.toArray⟩ : ByteArray).size = l.length := by show l.toArray.size = _; simp
end Go.Proofs.Ytkdplnbdhkckhaa
