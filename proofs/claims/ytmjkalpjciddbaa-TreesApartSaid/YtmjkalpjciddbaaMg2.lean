/-
  Small lemmas on bytes and on slices of bytes that the call itself has made.
-/
import Derived.Test.YtmjkalpjciddbaaMg1
import Derived.Test.YtmjkalpjciddbaaShelf
import Derived.KernelRfl
import Derived.BigGuardPart
import Derived.Laws.Concat
import Derived.Laws.IdiomStrings
import Derived.Laws.BytesArg
import Derived.BigRegion
import Derived.ChangeAlike
import Derived.RegionTactic
import Derived.Lib.SliceRun
import Derived.Lib.AppendZeros
import Derived.Maps.Own
import Derived.Maps.OwnSet
import Derived.Maps.StringElems
namespace Go.Proofs.Ytmjkalpjciddbaa
open Go Go.RowKit

theorem size_data (s : ByteArray) : s.size = s.data.toList.length := by rw [Array.length_toList]; rfl
theorem u8_zero : ((0 : Int).toNat.toUInt8) = (0 : UInt8) := rfl
def byteV (b : UInt8) : Value := .int .u8 (b.toNat : Int)
/-- Bytes of the call's own. -/
def OwnB (a0 w : World) (v : Value) (l : List UInt8) : Prop := w.ownsRow a0.heap.size 5 1 v l.length (l.map byteV)
theorem OwnB.row {a0 w : World} {v : Value} {l : List UInt8} (h : OwnB a0 w v l) : w.ownsRow a0.heap.size 5 1 v l.length (l.map byteV) := h
theorem info_u8 : (Try.prog.info? 5).map (fun i => (i.zero, i.size, i.bytes)) = some (some (.int .u8 0), 1, 1) := by kernel_rfl
theorem u8_div (m d : Nat) : (m : Int) / (d : Int) % 256 = ((m / d).toUInt8.toNat : Int) := by
  simp
theorem own_snoc {a0 w : World} {v : Value} {l : List UInt8} {c : UInt8} (h : w.ownsRow a0.heap.size 5 1 v (l.length + 1) (l.map byteV ++ [byteV c])) : OwnB a0 w v (l ++ [c]) := by
  unfold OwnB
  rw [List.length_append, List.map_append]
  exact h
/-- Bytes of the call's own, made a text. -/
theorem own_string {a0 w : World} {v : Value} {l : List UInt8} (h : OwnB a0 w v l) : (convert 79 9 v).run Try.prog w = .ok (.string ⟨l.toArray⟩) w := by
  obtain ⟨h1, h2⟩ := h
  rcases h2 with ⟨rfl, h0⟩ | ⟨g, cap, cur, rfl, _, hh, hn, _, hcur, ht⟩
  · have hl : l = [] := List.eq_nil_of_length_eq_zero h0
    subst hl
    exact run_convert_bytes_nil (P := Try.prog) w 79 5 Try.underlying79 Try.underlying5 0 0 9 Try.underlying9
  · refine run_convert_bytes_back (P := Try.prog) w 79 9 5 ⟨g, 0, none⟩ cap l Try.underlying79 Try.underlying5 Try.underlying9 (fun j hj => ?_)
    have he : (⟨g, 0, none⟩ : Addr).add j = ⟨g, j, none⟩ := by
      unfold Addr.add
      split
      · rename_i h0; rw [h0]
      · simp
    have hc : cur.toList[j]? = some (byteV l[j]) := by
      have e := congrArg (fun l : List Value => l[j]?) ht
      simp only [Nat.mul_one] at e
      rw [List.getElem?_take, if_pos hj, List.getElem?_map, List.getElem?_eq_getElem hj] at e
      exact e
    rw [he]
    unfold World.cell?
    simp only [hh]
    rw [← Array.getElem?_toList]
    exact hc
theorem get_data (s : ByteArray) (j : Nat) (hj : j < s.size) : s[j] = s.data.toList[j]'(by rw [← size_data]; exact hj) := by
  rw [Array.getElem_toList]; rfl
theorem not_byte {k c : UInt8} (h : k ≠ c) : ¬ (k.toNat : Int) = (c.toNat : Int) := fun e => h (UInt8.toNat_inj.1 (by omega))
theorem bytes_ext {a b : ByteArray} (h : a.data.toList = b.data.toList) : a = b := by
  cases a; cases b; simp only [ByteArray.mk.injEq]; exact Array.ext' h
theorem ext_tail (t : ByteArray) (k : UInt8) (r : List UInt8) (h : t.data.toList = k :: r) : t.extract 1 t.size = ⟨r.toArray⟩ := by
  apply bytes_ext
  rw [Lib.extract_data, h, List.drop_one, List.tail_cons, List.take_of_length_le (by rw [size_data, h]; simp)]
theorem head_is (t : ByteArray) (k : UInt8) (r : List UInt8) (h : t.data.toList = k :: r) (h0 : 0 < t.size) : t[0] = k := by
  rw [get_data t 0 h0]
  simp [h]
theorem ownsRow_setCell_at {w : World} {B : Nat} {e : TypeId} {size n : Nat} {v : Value} {xs : List Value} (h : w.ownsRow B e size v n xs) {a : Addr} {u : Value} (hne : ¬ v.ownBlock = some a.block) : (w.setCell a u).ownsRow B e size v n xs := by
  obtain ⟨h1, h2⟩ := h
  refine ⟨h1, ?_⟩
  rcases h2 with h2 | ⟨g, cap, cur, rfl, hg, hh, r⟩
  · exact .inl h2
  · exact .inr ⟨g, cap, cur, rfl, hg, by rw [Below.heap_setCell _ _ _ _ (fun e => hne (by rw [← e]; rfl))]; exact hh, r⟩
def lenOf : Value → Nat | .string t => t.size | _ => 0
/-- string([]byte{c}). -/
theorem one_string (c : UInt8) (q : Int) (hq : q = (c.toNat : Int)) (w : World) : (convert 79 9 (.slice (some ⟨w.heap.size, 0, none⟩) 1 1)).run Try.prog (w.alloc (.cells #[.int .u8 q] 5)) = .ok (.string ⟨#[c]⟩) (w.alloc (.cells #[.int .u8 q] 5)) := by
  subst hq
  exact own_string (a0 := w) (l := [c]) (World.ownsRow_lit w #[.int .u8 (c.toNat : Int)] 1 (Nat.le_refl _) (by decide) rfl)
theorem two_set {w : World} {k : Nat} {x y u v : Value} (h0 : w.cell? ⟨k, 0, none⟩ = some x) (h1 : w.cell? ⟨k, 1, none⟩ = some y) :
    ((w.setCell ⟨k, 0, none⟩ u).setCell ⟨k, 1, none⟩ v).cell? ⟨k, 0, none⟩ = some u ∧ ((w.setCell ⟨k, 0, none⟩ u).setCell ⟨k, 1, none⟩ v).cell? ⟨k, 1, none⟩ = some v := by
  have e : (⟨k, 1, none⟩ : Addr) ≠ ⟨k, 0, none⟩ := by simp
  have e' : (⟨k, 0, none⟩ : Addr) ≠ ⟨k, 1, none⟩ := by simp
  refine ⟨?_, World.cell?_setCell_same _ _ _ ((World.cell?_setCell_other _ _ _ _ e').trans h1)⟩
  rw [World.cell?_setCell_other _ _ _ _ e]
  exact World.cell?_setCell_same _ _ _ h0
theorem ba_len (l : List UInt8) : (⟨l.toArray⟩ : ByteArray).size = l.length := by show l.toArray.size = _; simp
end Go.Proofs.Ytmjkalpjciddbaa

/-
  What a call does that writes to some blocks of those that were there, and to no others.
-/
namespace Go.Proofs.Ytmjkalpjciddbaa
open Go Go.RowKit

def GrX (S : Nat → Prop) (w w' : World) : Prop := w'.os = w.os ∧ w'.tape = w.tape ∧ w'.output = w.output ∧ w.heap.size ≤ w'.heap.size ∧ ∀ k, k < w.heap.size → ¬ S k → w'.heap[k]? = w.heap[k]?
theorem GrX.refl (S : Nat → Prop) (w : World) : GrX S w w := ⟨rfl, rfl, rfl, Nat.le_refl _, fun _ _ _ => rfl⟩
theorem GrX.trans {S : Nat → Prop} {a b c : World} (h : GrX S a b) (k : GrX S b c) : GrX S a c :=
  ⟨k.1.trans h.1, k.2.1.trans h.2.1, k.2.2.1.trans h.2.2.1, Nat.le_trans h.2.2.2.1 k.2.2.2.1, fun i hi hs => (k.2.2.2.2 i (Nat.lt_of_lt_of_le hi h.2.2.2.1) hs).trans (h.2.2.2.2 i hi hs)⟩
theorem GrX.of_gr {S : Nat → Prop} {w w' : World} (g : Gr w w') : GrX S w w' := ⟨g.os, g.tape, g.output, g.size, fun k hk _ => g.block k hk⟩
theorem GrX.of_grown {S : Nat → Prop} {w w' : World} {B : Nat} (g : w.grownBy w' (some B)) (hB : S B) : GrX S w w' := ⟨g.os, g.tape, g.output, g.size, fun k hk hs => g.block k hk (fun e => hs (by have := Option.some.inj e; rw [this]; exact hB))⟩
theorem GrX.setCell {S : Nat → Prop} (w : World) {p : Addr} (u : Value) (h : S p.block) : GrX S w (w.setCell p u) := ⟨rfl, rfl, rfl, by simp, fun k _ hs => Below.heap_setCell _ _ _ _ (fun e => hs (by rw [e]; exact h))⟩
theorem GrX.drew {S : Nat → Prop} (w : World) : GrX S w w.drew := GrX.of_gr (Gr.refl w).drew
theorem GrX.gr {S : Nat → Prop} {w w' w0 : World} (g : GrX S w w') (g0 : Gr w0 w) (h : ∀ k, S k → w0.heap.size ≤ k) : Gr w0 w' :=
  Below.trans g0 ⟨g.1, g.2.1, g.2.2.1, g.2.2.2.1, fun k hk => g.2.2.2.2 k (Nat.lt_of_lt_of_le hk g0.size) (fun hs => absurd (h k hs) (by omega))⟩
theorem GrX.block {S : Nat → Prop} {w w' : World} (g : GrX S w w') {k : Nat} (hk : k < w.heap.size) (hs : ¬ S k) : w'.heap[k]? = w.heap[k]? := g.2.2.2.2 k hk hs
theorem GrX.keeps {S : Nat → Prop} {w w' : World} (g : GrX S w w') {b o : Nat} {v : Value} (hs : ¬ S b) (hc : w.cell? ⟨b, o, none⟩ = some v) : w'.cell? ⟨b, o, none⟩ = some v :=
  (World.cell?_of_block (g.block (lt_of_cell hc) hs)).trans hc
theorem GrX.frozen {S : Nat → Prop} {w w' : World} (g : GrX S w w') {b : Nat} (o : Nat) (hb : b < w.heap.size) (hs : ¬ S b) : w'.frozen? ⟨b, o, none⟩ = w.frozen? ⟨b, o, none⟩ := World.frozen?_of_block (g.block hb hs)
end Go.Proofs.Ytmjkalpjciddbaa

/-
  Slices of one-cell elements, read and owned.
-/
namespace Go.Proofs.Ytmjkalpjciddbaa
open Go Go.RowKit

/-- A slice that holds these. -/
def RowV {α : Type} (enc : α → Value) (w : World) (v : Value) (xs : List α) : Prop :=
  (v = .slice none 0 0 ∧ xs = []) ∨ ∃ b off c, v = .slice (some ⟨b, off, none⟩) xs.length c ∧ b < w.heap.size ∧ ∀ i (h : i < xs.length), w.cell? ⟨b, off + i, none⟩ = some (enc xs[i])
theorem RowV.gr {α : Type} {enc : α → Value} {w w' : World} {v : Value} {xs : List α} (h : RowV enc w v xs) (g : Gr w w') : RowV enc w' v xs := by
  rcases h with h | ⟨b, off, c, h1, h2, h3⟩
  · exact .inl h
  · exact .inr ⟨b, off, c, h1, Nat.lt_of_lt_of_le h2 g.size, fun i hi => g.keeps (h3 i hi)⟩
/-- The block in which a slice lies, if any. -/
def RowV.off {α : Type} {enc : α → Value} {w : World} {v : Value} {xs : List α} (_ : RowV enc w v xs) (S : Nat → Prop) : Prop := ∀ k, v.ownBlock = some k → ¬ S k
theorem RowV.keepX {α : Type} {enc : α → Value} {S : Nat → Prop} {w w' : World} {v : Value} {xs : List α} (h : RowV enc w v xs) (g : GrX S w w') (hs : ∀ b off n c, v = .slice (some ⟨b, off, none⟩) n c → ¬ S b) : RowV enc w' v xs := by
  rcases h with h | ⟨b, off, c, h1, h2, h3⟩
  · exact .inl h
  · exact .inr ⟨b, off, c, h1, Nat.lt_of_lt_of_le h2 g.2.2.2.1, fun i hi => g.keeps (hs _ _ _ _ h1) (h3 i hi)⟩
theorem RowV.form {α : Type} {enc : α → Value} {w : World} {v : Value} {xs : List α} (h : RowV enc w v xs) : ∃ ao c, v = .slice ao xs.length c := by
  rcases h with ⟨rfl, rfl⟩ | ⟨b, off, c, rfl, _⟩
  · exact ⟨none, 0, rfl⟩
  · exact ⟨_, c, rfl⟩
theorem RowV.at {α : Type} {enc : α → Value} {w : World} {ao : Option Addr} {n c : Nat} {xs : List α} (h : RowV enc w (.slice ao n c) xs) {i : Nat} (hi : i < xs.length) : ∃ b off, ao = some ⟨b, off, none⟩ ∧ ∀ i (h : i < xs.length), w.cell? ⟨b, off + i, none⟩ = some (enc xs[i]) := by
  rcases h with ⟨_, rfl⟩ | ⟨b, off, c, h1, h2, h3⟩
  · exact absurd hi (by simp)
  · injection h1 with e1 e2 e3
    exact ⟨b, off, e1, h3⟩
/-- A slice of the call's own. -/
def OwnV {α : Type} (enc : α → Value) (e : TypeId) (a0 w : World) (v : Value) (xs : List α) : Prop := w.ownsRow a0.heap.size e 1 v xs.length (xs.map enc)
theorem OwnV.gr {α : Type} {enc : α → Value} {e : TypeId} {a0 w w' : World} {v : Value} {xs : List α} (h : OwnV enc e a0 w v xs) (g : Gr w w') : OwnV enc e a0 w' v xs := ownsRow_gr h g
theorem OwnV.row {α : Type} {enc : α → Value} {e : TypeId} {a0 w : World} {v : Value} {xs : List α} (h : OwnV enc e a0 w v xs) : RowV enc w v xs := by
  have hlt := ownBlock_lt h
  rcases h.2 with ⟨rfl, h0⟩ | ⟨b, cap, cur, rfl, h1, h2, h3, h4, h5, h6⟩
  · exact .inl ⟨rfl, List.length_eq_zero_iff.1 h0⟩
  · refine .inr ⟨b, 0, cap, rfl, hlt b rfl, fun i hi => ?_⟩
    have h7 : w.cell? ⟨b, 0 + i, none⟩ = cur[0 + i]? := by simp [World.cell?, h2]
    rw [h7, Nat.zero_add]
    have h8 : (List.take (xs.length * 1) cur.toList)[i]? = (xs.map enc)[i]? := by rw [h6]
    rw [List.getElem?_take_of_lt (by omega)] at h8
    simpa [hi] using h8
theorem OwnV.snoc {α : Type} {enc : α → Value} {e : TypeId} {a0 w : World} {v : Value} {xs : List α} {x : α} (h : w.ownsRow a0.heap.size e 1 v (xs.length + 1) (xs.map enc ++ [enc x])) : OwnV enc e a0 w v (xs ++ [x]) := by
  show w.ownsRow _ _ 1 v (xs ++ [x]).length ((xs ++ [x]).map enc)
  rw [List.length_append, List.map_append]
  exact h
theorem ownV_nil {α : Type} (enc : α → Value) (e : TypeId) (a0 w : World) : OwnV enc e a0 w (.slice none 0 0) [] := World.ownsRow_nil _ _ _ _
theorem rowV_box {α : Type} (enc : α → Value) (w : World) (x : α) (e : TypeId) : RowV enc (w.alloc (.cells #[enc x] e)) (.slice (some ⟨w.heap.size, 0, none⟩) 1 1) [x] :=
  .inr ⟨w.heap.size, 0, 1, rfl, by simp, fun i hi => by
    have : i = 0 := by simpa using hi
    subst this
    rw [World.cell?_alloc_new]
    rfl⟩
theorem ownV_box {α : Type} (enc : α → Value) (w : World) (x : α) (e : TypeId) : OwnV enc e w (w.alloc (.cells #[enc x] e)) (.slice (some ⟨w.heap.size, 0, none⟩) 1 1) [x] :=
  World.ownsRow_lit w #[enc x] 1 (Nat.le_refl _) (by decide) rfl
theorem OwnV.back {α : Type} {enc : α → Value} {e : TypeId} {a0 a1 w : World} {v : Value} {xs : List α} (h : OwnV enc e a1 w v xs) (g : Gr a0 a1) : OwnV enc e a0 w v xs := by
  obtain ⟨h1, h2⟩ := h
  refine ⟨h1, ?_⟩
  rcases h2 with h2 | ⟨b, cap, cur, hv, hb, r⟩
  · exact .inl h2
  · exact .inr ⟨b, cap, cur, hv, Nat.le_trans g.size hb, r⟩
/-- 'append(s, x...)', s the call's own. -/
theorem append_row {α : Type} {enc : α → Value} {a0 w : World} {ops : Array Oper} {rest : List Oper} {o : Oper} {a : Act} {Q : Exit → Act → World → Prop} (hgd : o.guard = none) (s x : Operand) (t e : TypeId) (z : Value) (nb : Nat)
    (ht : Try.prog.underlying t = some (.slice e)) (hinf : (Try.prog.info? e).map (fun i => (i.zero, i.size, i.bytes)) = some (some z, 1, nb)) (hzs : z.cells.size = 1) (h1 : ∀ x, (enc x).oneCell' = true) (hnb : nb ≤ 16)
    (ho : o.op = .call { callee := .builtin .append, args := #[s, x], argTypes := #[t, t] }) (v : Value) (us : List α) (hs : a.eval s = v) (hown : OwnV enc e a0 w v us)
    (vs : Value) (xs : List α) (hx : a.eval x = vs) (hi : RowV enc w vs xs) (hl : us.length + xs.length ≤ 1000000) (hg : Gr a0 w)
    (h : ∀ v' w', OwnV enc e a0 w' v' (us ++ xs) → Gr a0 w' → KeepsBut v w w' → wpList Try.prog ops Q rest (a.put o.dst v') w') : wpList Try.prog ops Q (o :: rest) a w := by
  obtain ⟨i0, hinf, hz0, hz1, hz2⟩ := info_parts hinf
  rcases hi with ⟨rfl, rfl⟩ | ⟨b, off, c, rfl, hb, hp⟩
  · rw [List.append_nil] at h
    exact Lib.wpList_append_run w hgd s x t t ho v (.slice none 0 0) hs hx v w (run_append_owned_none w a0.heap.size t o.type e i0 1 ht hinf v us.length (us.map enc) hown) (h v w hown hg (fun k o _ _ => ⟨rfl, rfl⟩))
  · have hbytes : (us.length + xs.length) * nb ≤ 140737488355328 := by
      have := Nat.mul_le_mul hl hnb
      omega
    refine wpList_append_own w hgd s x t ho a0.heap.size e i0 z 1 nb ht hinf hz0 hz1 hz2 hzs (by decide) v us.length (us.map enc) hs hown ⟨b, off, none⟩ xs.length c (xs.map enc) hx (by simp) ?_ (by intro u hu; obtain ⟨y, _, rfl⟩ := List.mem_map.1 hu; exact h1 y) (by unfold maxLen; omega) hbytes hg.size
      (fun v' w' h1 h2 _ => h v' w' ?_ (gr_grown hg h2 (ownBlock_ge hown)) (fun k o hk hne => ?_))
    · intro j u hj
      have hj2 : j < xs.length := by
        have := (List.getElem?_eq_some_iff.1 hj).1
        simpa using this
      have he : (⟨b, off, none⟩ : Addr).add j = ⟨b, off + j, none⟩ := by
        unfold Addr.add
        split <;> simp_all
      rw [he, hp j hj2]
      simpa [hj2] using hj
    · show w'.ownsRow _ _ 1 v' (us ++ xs).length ((us ++ xs).map enc)
      rw [List.length_append, List.map_append]
      exact h1
    · have hb : w'.heap[k]? = w.heap[k]? := h2.block k hk (fun e => hne e.symm)
      exact ⟨World.cell?_of_block hb, World.frozen?_of_block hb⟩
theorem info_str : (Try.prog.info? 9).map (fun i => (i.zero, i.size, i.bytes)) = some (some (.string ⟨#[]⟩), 1, 16) := by kernel_rfl
theorem info_int1 : (Try.prog.info? 3).map (fun i => (i.zero, i.size, i.bytes)) = some (some (.int .i64 0), 1, 8) := by kernel_rfl
/-- A number as a value. -/
def natV (n : Nat) : Value := .int .i64 (n : Int)
end Go.Proofs.Ytmjkalpjciddbaa

/-
  The head of a pager as plain data: how it is written, and how it is read.
-/
namespace Go.Proofs.Ytmjkalpjciddbaa
open Go Go.RowKit

/-- Which pages are in use, the roots and their notes. -/
structure Head where
  used : Nat → Bool
  roots : Nat → Int
  notes : Nat → Int
/-- Two heads are one: on all pages and roots that there are. -/
def Head.same (h g : Head) : Prop := (∀ i, i < 2000 → h.used i = g.used i) ∧ ∀ i, i < 8 → h.roots i = g.roots i ∧ h.notes i = g.notes i
theorem Head.same.refl (h : Head) : h.same h := ⟨fun _ _ => rfl, fun _ _ => ⟨rfl, rfl⟩⟩
theorem Head.same.symm {h g : Head} (s : h.same g) : g.same h := ⟨fun i hi => (s.1 i hi).symm, fun i hi => ⟨(s.2 i hi).1.symm, (s.2 i hi).2.symm⟩⟩
theorem Head.same.trans {h g f : Head} (s : h.same g) (t : g.same f) : h.same f := ⟨fun i hi => (s.1 i hi).trans (t.1 i hi), fun i hi => ⟨(s.2 i hi).1.trans (t.2 i hi).1, (s.2 i hi).2.trans (t.2 i hi).2⟩⟩
/-- The cells of a head. -/
def Head.cells (h : Head) : List Value := (List.range 2000).map (fun i => Value.bool (h.used i)) ++ ((List.range 8).map (fun i => Value.int .i64 (h.roots i)) ++ (List.range 8).map (fun i => Value.int .i64 (h.notes i)))
theorem Head.cells_len (h : Head) : h.cells.length = 2016 := by simp [Head.cells]
theorem Head.cells_same {h g : Head} (s : h.same g) : h.cells = g.cells := by
  have e1 : (List.range 2000).map (fun i => Value.bool (h.used i)) = (List.range 2000).map (fun i => Value.bool (g.used i)) := List.map_congr_left fun i hi => by rw [s.1 i (List.mem_range.1 hi)]
  have e2 : (List.range 8).map (fun i => Value.int .i64 (h.roots i)) = (List.range 8).map (fun i => Value.int .i64 (g.roots i)) := List.map_congr_left fun i hi => by rw [(s.2 i (List.mem_range.1 hi)).1]
  have e3 : (List.range 8).map (fun i => Value.int .i64 (h.notes i)) = (List.range 8).map (fun i => Value.int .i64 (g.notes i)) := List.map_congr_left fun i hi => by rw [(s.2 i (List.mem_range.1 hi)).2]
  unfold Head.cells
  rw [e1, e2, e3]
theorem Head.cells_used (h : Head) {i : Nat} (hi : i < 2000) : h.cells[i]? = some (.bool (h.used i)) := by
  unfold Head.cells
  rw [List.getElem?_append_left (by simpa using hi)]
  simp [hi]
theorem Head.cells_root (h : Head) {i : Nat} (hi : i < 8) : h.cells[2000 + i]? = some (.int .i64 (h.roots i)) := by
  unfold Head.cells
  rw [List.getElem?_append_right (by simp), List.getElem?_append_left (by simp; omega)]
  simp [hi]
theorem Head.cells_note (h : Head) {i : Nat} (hi : i < 8) : h.cells[2008 + i]? = some (.int .i64 (h.notes i)) := by
  unfold Head.cells
  rw [List.getElem?_append_right (by simp; omega), List.getElem?_append_right (by simp; omega)]
  simp
  rw [show 2008 + i - 2000 - 8 = i by omega]
  simp [hi]
theorem Head.cells_one (h : Head) : ∀ v ∈ h.cells, v.oneCell' = true := by
  intro v hv
  unfold Head.cells at hv
  simp only [List.mem_append, List.mem_map] at hv
  rcases hv with ⟨_, _, rfl⟩ | ⟨_, _, rfl⟩ | ⟨_, _, rfl⟩ <;> rfl
/-- A page is taken, or given back. -/
def Head.put (h : Head) (k : Nat) (b : Bool) : Head := { h with used := fun i => if i = k then b else h.used i }
/-- A root is set. -/
def Head.setRoot (h : Head) (i : Nat) (p n : Int) : Head := { h with roots := fun j => if j = i then p else h.roots j, notes := fun j => if j = i then n else h.notes j }
/-- A head that may be: the first page is in use; roots and notes are in range. -/
structure Head.fine (h : Head) : Prop where
  zero : h.used 0 = true
  root : ∀ i, i < 8 → 0 ≤ h.roots i ∧ h.roots i < 2000
  note : ∀ i, i < 8 → 0 ≤ h.notes i ∧ h.notes i < 65536

/-- Two bytes of a number. -/
def two8 (n : Int) : List UInt8 := [((n / 256) % 256).toNat.toUInt8, (n % 256).toNat.toUInt8]
/-- A byte of eight pages. -/
def bits8 (u : Nat → Bool) (i : Nat) : Nat → Nat
  | 0 => 0
  | k + 1 => bits8 u i k + if u (i + k) then 2 ^ k else 0
theorem bits8_lt (u : Nat → Bool) (i : Nat) : ∀ k, bits8 u i k < 2 ^ k
  | 0 => by simp [bits8]
  | k + 1 => by
    have := bits8_lt u i k
    unfold bits8
    rw [Nat.pow_succ]
    split <;> omega
theorem bits8_bit (u : Nat → Bool) (i : Nat) : ∀ k j, j < k → bits8 u i k / 2 ^ j % 2 = if u (i + j) then 1 else 0
  | 0, j, h => absurd h (Nat.not_lt_zero _)
  | k + 1, j, h => by
    unfold bits8
    rcases Nat.lt_or_ge j k with hj | hj
    · have ih := bits8_bit u i k j hj
      have hp : 2 ^ k = 2 ^ j * 2 * 2 ^ (k - j - 1) := by
        rw [← Nat.pow_succ, ← Nat.pow_add]
        congr 1
        omega
      split
      · rw [hp, Nat.mul_assoc, Nat.add_mul_div_left _ _ (Nat.two_pow_pos j), Nat.mul_comm 2, Nat.add_mul_mod_self_right]
        exact ih
      · rw [Nat.add_zero]
        exact ih
    · obtain rfl : j = k := by omega
      have hl := bits8_lt u i j
      split
      · rw [Nat.add_div_right _ (Nat.two_pow_pos j), Nat.div_eq_of_lt hl]
      · rw [Nat.add_zero, Nat.div_eq_of_lt hl]
def mapF (u : Nat → Bool) : List UInt8 := (List.range 250).map fun i => (bits8 u (8 * i) 8).toUInt8
theorem mapF_len (u : Nat → Bool) : (mapF u).length = 250 := by simp [mapF]
def rootsF (h : Head) (n : Nat) : List UInt8 := (List.range n).flatMap fun i => two8 (h.roots i) ++ two8 (h.notes i)
theorem rootsF_len (h : Head) (n : Nat) : (rootsF h n).length = 4 * n := by
  unfold rootsF
  induction n with
  | zero => rfl
  | succ n ih =>
    rw [List.range_succ, List.flatMap_append, List.length_append, ih]
    simp [two8]
    omega
/-- A text made a page. -/
def fillF (l : List UInt8) : List UInt8 := l ++ List.replicate (1024 - l.length) 0
theorem fillF_len {l : List UInt8} (h : l.length ≤ 1024) : (fillF l).length = 1024 := by
  unfold fillF
  rw [List.length_append, List.length_replicate]
  omega
/-- The page that a head is written as. -/
def textF (h : Head) : List UInt8 := fillF (mapF h.used ++ rootsF h 8)
theorem textF_len (h : Head) : (textF h).length = 1024 := fillF_len (by rw [List.length_append, mapF_len, rootsF_len]; omega)
def fromF (l : List UInt8) (i : Nat) : Int := 256 * ((l.getD i 0).toNat : Int) + ((l.getD (i + 1) 0).toNat : Int)
/-- The head that a page is read as. -/
def readsF (l : List UInt8) : Head where
  used i := i == 0 || (l.getD (i / 8) 0).toNat / 2 ^ (i % 8) % 2 == 1
  roots i := fromF l (250 + 4 * i)
  notes i := fromF l (252 + 4 * i)
theorem two8_from (n : Int) (h0 : 0 ≤ n) (h1 : n < 65536) (a b : List UInt8) : fromF (a ++ (two8 n ++ b)) a.length = n := by
  unfold fromF two8
  have e0 : (a ++ ([((n / 256) % 256).toNat.toUInt8, (n % 256).toNat.toUInt8] ++ b)).getD a.length 0 = ((n / 256) % 256).toNat.toUInt8 := by
    simp [List.getD_eq_getElem?_getD]
  have e1 : (a ++ ([((n / 256) % 256).toNat.toUInt8, (n % 256).toNat.toUInt8] ++ b)).getD (a.length + 1) 0 = (n % 256).toNat.toUInt8 := by
    simp [List.getD_eq_getElem?_getD]
  rw [e0, e1]
  simp
  omega
theorem rootsF_split (h : Head) {i : Nat} (hi : i < 8) : ∃ a b, rootsF h 8 = a ++ (two8 (h.roots i) ++ (two8 (h.notes i) ++ b)) ∧ a.length = 4 * i := by
  have key : ∀ m j, j + m = 8 → i < m → ∃ a b, ((List.range' j m).flatMap fun i => two8 (h.roots i) ++ two8 (h.notes i)) = a ++ (two8 (h.roots (j + i)) ++ (two8 (h.notes (j + i)) ++ b)) ∧ a.length = 4 * i := by
    induction i with
    | zero =>
      intro m j hj hm
      obtain ⟨m, rfl⟩ : ∃ m', m = m' + 1 := ⟨m - 1, by omega⟩
      refine ⟨[], (List.range' (j + 1) m).flatMap fun i => two8 (h.roots i) ++ two8 (h.notes i), ?_, rfl⟩
      rw [List.range'_succ, List.flatMap_cons]
      simp
    | succ i ih =>
      intro m j hj hm
      obtain ⟨m, rfl⟩ : ∃ m', m = m' + 1 := ⟨m - 1, by omega⟩
      obtain ⟨a, b, e, hl⟩ := ih (by omega) m (j + 1) (by omega) (by omega)
      refine ⟨two8 (h.roots j) ++ two8 (h.notes j) ++ a, b, ?_, by simp [two8, hl]; omega⟩
      rw [List.range'_succ, List.flatMap_cons, e, show j + 1 + i = j + (i + 1) by omega]
      simp
  obtain ⟨a, b, e, hl⟩ := key 8 0 rfl hi
  refine ⟨a, b, ?_, hl⟩
  unfold rootsF
  rw [List.range_eq_range', e, Nat.zero_add]
/-- A head is read as it was written. -/
theorem reads_text {h : Head} (hf : h.fine) : (readsF (textF h)).same h := by
  refine ⟨fun i hi => ?_, fun i hi => ?_⟩
  · show (i == 0 || ((textF h).getD (i / 8) 0).toNat / 2 ^ (i % 8) % 2 == 1) = h.used i
    have hq : i / 8 < 250 := by omega
    have e : (textF h).getD (i / 8) 0 = (bits8 h.used (8 * (i / 8)) 8).toUInt8 := by
      unfold textF fillF
      rw [List.getD_eq_getElem?_getD, List.getElem?_append_left (by rw [List.length_append, mapF_len]; omega), List.getElem?_append_left (by rw [mapF_len]; omega)]
      simp [mapF, hq]
    have hlt := bits8_lt h.used (8 * (i / 8)) 8
    have hn : (bits8 h.used (8 * (i / 8)) 8).toUInt8.toNat = bits8 h.used (8 * (i / 8)) 8 := by
      show _ % 256 = _
      exact Nat.mod_eq_of_lt hlt
    rw [e, hn, bits8_bit h.used (8 * (i / 8)) 8 (i % 8) (by omega), show 8 * (i / 8) + i % 8 = i by omega]
    by_cases h0 : i = 0
    · subst h0
      rw [hf.zero]
      rfl
    · have : (i == 0) = false := by simpa using h0
      rw [this]
      cases h.used i <;> rfl
  · obtain ⟨a, b, e, hl⟩ := rootsF_split h hi
    have e2 : textF h = (mapF h.used ++ a) ++ (two8 (h.roots i) ++ (two8 (h.notes i) ++ (b ++ List.replicate (1024 - (mapF h.used ++ rootsF h 8).length) 0))) := by
      unfold textF fillF
      rw [e]
      simp [List.append_assoc]
    have e3 : textF h = (mapF h.used ++ a ++ two8 (h.roots i)) ++ (two8 (h.notes i) ++ (b ++ List.replicate (1024 - (mapF h.used ++ rootsF h 8).length) 0)) := by
      rw [e2]
      simp [List.append_assoc]
    constructor
    · show fromF (textF h) (250 + 4 * i) = _
      have := two8_from (h.roots i) (hf.root i hi).1 (by have := (hf.root i hi).2; omega) (mapF h.used ++ a) (two8 (h.notes i) ++ (b ++ List.replicate (1024 - (mapF h.used ++ rootsF h 8).length) 0))
      rw [← e2, List.length_append, mapF_len, hl] at this
      exact this
    · show fromF (textF h) (252 + 4 * i) = _
      have := two8_from (h.notes i) (hf.note i hi).1 (by have := (hf.note i hi).2; omega) (mapF h.used ++ a ++ two8 (h.roots i)) (b ++ List.replicate (1024 - (mapF h.used ++ rootsF h 8).length) 0)
      rw [← e3, List.length_append, List.length_append, mapF_len, hl] at this
      rw [show 252 + 4 * i = 250 + 4 * i + (two8 (h.roots i)).length by simp [two8]; omega]
      exact this
/-- The sum of texts. -/
def sumStep (n : Nat) (c : UInt8) : Nat := ((n ^^^ c.toNat) * 1099511628211) % 18446744073709551616
def sumN (l : List (List UInt8)) : Nat := l.foldl (fun n s => s.foldl sumStep n) 14695981039346656037
def low8 (n : Nat) : Nat → List UInt8
  | 0 => []
  | k + 1 => low8 n k ++ [(n / 256 ^ k).toUInt8]
theorem low8_len (n : Nat) : ∀ k, (low8 n k).length = k
  | 0 => rfl
  | k + 1 => by rw [low8, List.length_append, low8_len n k]; rfl
def sumF (l : List (List UInt8)) : List UInt8 := low8 (sumN l) 8
/-- The head of a note: how many pages, and which. -/
def noteHead (ps : List Nat) : List UInt8 := two8 (ps.length : Int) ++ mapF fun i => ps.contains i
theorem noteHead_len (ps : List Nat) : (noteHead ps).length = 252 := by
  unfold noteHead
  rw [List.length_append, mapF_len]
  rfl
/-- The note of a log. -/
def noteF (ps : List Nat) (l : List (List UInt8)) : List UInt8 := fillF (noteHead ps ++ sumF (noteHead ps :: l))
theorem noteF_len (ps : List Nat) (l : List (List UInt8)) : (noteF ps l).length = 1024 := fillF_len (by rw [List.length_append, noteHead_len, sumF, low8_len]; omega)
end Go.Proofs.Ytmjkalpjciddbaa

/-
  Contracts of the disk's methods.
-/
namespace Go.Proofs.Ytmjkalpjciddbaa
open Go Go.RowKit

/-- A page of noughts. -/
def zerosB : ByteArray := ⟨(Lib.repeatL [0] 1024).toArray⟩
/-- What a page reads as. -/
def pgGet (pg : Nat → ByteArray) (k : Nat) : ByteArray := if (pg k).toList.isEmpty then zerosB else pg k
def pgPut (pg : Nat → ByteArray) (k : Nat) (s : ByteArray) : Nat → ByteArray := fun i => if i = k then s else pg i
/-- A disk in memory. -/
def DiskAt (w : World) (B : Nat) (pg : Nat → ByteArray) (cut : Bool) (left torn : Int) : Prop :=
  (∀ k, k < 4001 → w.cell? ⟨B, k, none⟩ = some (.string (pg k))) ∧ w.cell? ⟨B, 4001, none⟩ = some (.bool cut) ∧ w.cell? ⟨B, 4002, none⟩ = some (.int .i64 left) ∧ w.cell? ⟨B, 4003, none⟩ = some (.int .i64 torn) ∧ ∀ o, w.frozen? ⟨B, o, none⟩ = false
theorem DiskAt.gr {w w' : World} {B : Nat} {pg : Nat → ByteArray} {cut : Bool} {left torn : Int} (h : DiskAt w B pg cut left torn) (g : Gr w w') : DiskAt w' B pg cut left torn :=
  ⟨fun k hk => g.keeps (h.1 k hk), g.keeps h.2.1, g.keeps h.2.2.1, g.keeps h.2.2.2.1, fun o => (g.frozen o (lt_of_cell h.2.1)).trans (h.2.2.2.2 o)⟩
theorem cell_off {w : World} {B o p : Nat} {u v : Value} (h : o ≠ p) (hc : w.cell? ⟨B, o, none⟩ = some v) : (w.setCell ⟨B, p, none⟩ u).cell? ⟨B, o, none⟩ = some v :=
  (World.cell?_setCell_other _ _ _ _ (fun e => h (congrArg Addr.off e).symm)).trans hc
theorem grownBy_setCell (w : World) (B o : Nat) (u : Value) : w.grownBy (w.setCell ⟨B, o, none⟩ u) (some B) :=
  ⟨rfl, rfl, rfl, by simp, fun k _ hne => Below.heap_setCell _ _ _ _ (fun e => hne (by rw [e]))⟩
theorem grown_of_gr {w w' : World} (g : Gr w w') (row : Option Nat) : w.grownBy w' row := ⟨g.os, g.tape, g.output, g.size, fun k hk _ => g.block k hk⟩
theorem DiskAt.putLeft {w : World} {B : Nat} {pg : Nat → ByteArray} {cut : Bool} {left torn : Int} (h : DiskAt w B pg cut left torn) (n : Int) : DiskAt (w.setCell ⟨B, 4002, none⟩ (.int .i64 n)) B pg cut n torn :=
  ⟨fun k hk => cell_off (by omega) (h.1 k hk), cell_off (by omega) h.2.1, World.cell?_setCell_same _ _ _ h.2.2.1, cell_off (by omega) h.2.2.2.1, fun o => by simpa using h.2.2.2.2 o⟩
theorem DiskAt.putTorn {w : World} {B : Nat} {pg : Nat → ByteArray} {cut : Bool} {left torn : Int} (h : DiskAt w B pg cut left torn) (n : Int) : DiskAt (w.setCell ⟨B, 4003, none⟩ (.int .i64 n)) B pg cut left n :=
  ⟨fun k hk => cell_off (by omega) (h.1 k hk), cell_off (by omega) h.2.1, cell_off (by omega) h.2.2.1, World.cell?_setCell_same _ _ _ h.2.2.2.1, fun o => by simpa using h.2.2.2.2 o⟩
theorem DiskAt.putCut {w : World} {B : Nat} {pg : Nat → ByteArray} {cut : Bool} {left torn : Int} (h : DiskAt w B pg cut left torn) (b : Bool) : DiskAt (w.setCell ⟨B, 4001, none⟩ (.bool b)) B pg b left torn :=
  ⟨fun k hk => cell_off (by omega) (h.1 k hk), World.cell?_setCell_same _ _ _ h.2.1, cell_off (by omega) h.2.2.1, cell_off (by omega) h.2.2.2.1, fun o => by simpa using h.2.2.2.2 o⟩
theorem DiskAt.putPage {w : World} {B : Nat} {pg : Nat → ByteArray} {cut : Bool} {left torn : Int} (h : DiskAt w B pg cut left torn) {k : Nat} (hk : k < 4001) (s : ByteArray) : DiskAt (w.setCell ⟨B, k, none⟩ (.string s)) B (pgPut pg k s) cut left torn := by
  refine ⟨fun i hi => ?_, cell_off (by omega) h.2.1, cell_off (by omega) h.2.2.1, cell_off (by omega) h.2.2.2.1, fun o => by simpa using h.2.2.2.2 o⟩
  unfold pgPut
  by_cases e : i = k
  · subst e
    rw [if_pos rfl]
    exact World.cell?_setCell_same _ _ _ (h.1 i hi)
  · rw [if_neg e]
    exact cell_off e (h.1 i hi)
def onB (cut : Bool) (left : Int) : Bool := !cut || decide (0 < left)

theorem data_ext {a b : ByteArray} (h : a.data.toList = b.data.toList) : a = b := by
  cases a; cases b; simp only [ByteArray.mk.injEq]; exact Array.ext' h
theorem on_d (B : Nat) (pg : Nat → ByteArray) (cut : Bool) (left torn : Int) (w : World) (h : DiskAt w B pg cut left torn) : Calls Try.prog 53 #[.pointer (some ⟨B, 0, none⟩)] w (Ret w (.bool (onB cut left))) := by
  have h1 := h.2.1
  have h2 := h.2.2.1
  clear h
  go_enter Try.func53, Try.ntmps53
  go_wp2
  all_goals
    go_ret
    refine Ret.mk ?_ (Gr.refl _)
    simp_all [onB]
theorem repeat_t (s : ByteArray) (c : Nat) (w : World) (hc : c ≤ 100000) (hs : s.size ≤ 100000) : Calls Try.prog 37 #[.string s, .int .i64 c] w (Ret w (.string ⟨(Lib.repeatL s.data.toList c).toArray⟩)) := by
  refine (Try.strings_Repeat s c w (by omega) (by have := Nat.mul_le_mul hs hc; omega)).mono ?_
  rintro e w1 ⟨rfl, hg1⟩
  exact ⟨rfl, hg1⟩
theorem repeat_zero (w : World) : Calls Try.prog 37 #[.string ⟨#[0]⟩, .int .i64 1024] w (Ret w (.string zerosB)) := repeat_t ⟨#[0]⟩ 1024 w (by omega) (by decide)
set_option maxRecDepth 100000 in
theorem read_d (B : Nat) (pg : Nat → ByteArray) (cut : Bool) (left torn : Int) (k : Nat) (hk : k < 4001) (w : World) (h : DiskAt w B pg cut left torn) :
    Calls Try.prog 19 #[.pointer (some ⟨B, 0, none⟩), .int .i64 k] w (Ret w (.tuple #[.string (pgGet pg k), .nilIface])) := by
  have h1 := h.1 k hk
  clear h
  go_enter Try.func19, Try.ntmps19
  cases hb : (pg k).toList.isEmpty
  · go_wp2_with fail
    all_goals first | omega | skip
    go_ret2
    refine Ret.mk ?_ (Gr.refl _)
    unfold pgGet
    rw [if_neg (by rw [hb]; decide)]
    rfl
  · go_wp2_with fail
    all_goals first | omega | skip
    refine (repeat_zero w).mono ?_
    rintro e w1 ⟨rfl, hg1⟩
    go_wp2_with fail
    go_ret2
    refine Ret.mk ?_ hg1
    unfold pgGet
    rw [if_pos hb]
    rfl
theorem read_d_bad (B : Nat) (k : Int) (hk : k < 0 ∨ 4001 ≤ k) (w : World) : Calls Try.prog 19 #[.pointer (some ⟨B, 0, none⟩), .int .i64 k] w (Ret w (.tuple #[.string ⟨#[]⟩, .iface 56 (.int .i64 2)])) := by
  go_enter Try.func19, Try.ntmps19
  go_wp2_with fail
  all_goals first | omega | skip
  all_goals
    go_ret2
    exact Ret.mk rfl (Gr.refl _)
def clampT (t : Int) : Nat := (min (max t 0) 1024).toNat
/-- The first n bytes of one, and then the other one's. -/
def tearB (s old : ByteArray) (n : Nat) : List UInt8 := s.data.toList.take n ++ old.data.toList.drop n
def tearS (s old : ByteArray) (n : Nat) : ByteArray := ⟨(tearB s old n).toArray⟩
theorem write_bad (B : Nat) (k : Int) (hk : k < 0 ∨ 4001 ≤ k) (s : ByteArray) (w : World) : Calls Try.prog 35 #[.pointer (some ⟨B, 0, none⟩), .int .i64 k, .string s] w (Ret w (.iface 56 (.int .i64 2))) := by
  go_enter Try.func35, Try.ntmps35
  go_wp2_with fail
  refine (read_d_bad B k hk w).mono ?_
  rintro e w1 ⟨rfl, hg1⟩
  go_wp2_with fail
  go_ret
  exact Ret.mk rfl hg1
theorem write_len (B : Nat) (pg : Nat → ByteArray) (cut : Bool) (left torn : Int) (k : Nat) (hk : k < 4001) (s : ByteArray) (hs : s.size ≠ 1024) (w : World) (h : DiskAt w B pg cut left torn) :
    Calls Try.prog 35 #[.pointer (some ⟨B, 0, none⟩), .int .i64 k, .string s] w (Ret w (.iface 56 (.int .i64 1))) := by
  have H := Lib.hid h
  clear h
  have hs' : ((s.size : Int) != 1024) = true := by simp; omega
  go_enter Try.func35, Try.ntmps35
  go_wp2_with fail
  refine (read_d B pg cut left torn k hk w H.out).mono ?_
  rintro e w1 ⟨rfl, hg1⟩
  go_wp2_with fail
  go_ret
  exact Ret.mk rfl hg1
/-- What a write with the power on leaves. -/
theorem write_on (B : Nat) (pg : Nat → ByteArray) (cut : Bool) (left torn : Int) (k : Nat) (hk : k < 4001) (s : ByteArray) (hs : s.size = 1024) (hon : onB cut left = true) (hl : -1000000 ≤ left ∧ left ≤ 9223372036854775807) (w : World) (h : DiskAt w B pg cut left torn) :
    Calls Try.prog 35 #[.pointer (some ⟨B, 0, none⟩), .int .i64 k, .string s] w fun e w' => e = .returned .nilIface ∧ DiskAt w' B (pgPut pg k s) cut (left - 1) torn ∧ w.grownBy w' (some B) := by
  have H := Lib.hid h
  clear h
  have hs' : ((s.size : Int) != 1024) = false := by simp; omega
  go_enter Try.func35, Try.ntmps35
  go_wp2_with fail
  refine (read_d B pg cut left torn k hk w H.out).mono ?_
  rintro e w1 ⟨rfl, hg1⟩
  have H1 := Lib.hid (H.out.gr hg1)
  go_wp2_with fail
  refine (on_d B pg cut left torn w1 H1.out).mono ?_
  rintro e w2 ⟨rfl, hg2⟩
  rw [hon]
  have H2 := Lib.hid (H1.out.gr hg2)
  have c2 := H2.out.2.2.1
  have z2 := H2.out.2.2.2.2 4002
  have ck := H2.out.1 k hk
  have zk := H2.out.2.2.2.2 k
  go_wp2_with fail
  go_ret
  exact ⟨rfl, (H2.out.putLeft _).putPage hk s, ((grown_of_gr (hg1.trans hg2) _).trans (grownBy_setCell _ _ _ _)).trans (grownBy_setCell _ _ _ _)⟩
theorem write_off (B : Nat) (pg : Nat → ByteArray) (cut : Bool) (left torn : Int) (k : Nat) (hk : k < 4001) (s : ByteArray) (hs : s.size = 1024) (hon : onB cut left = false) (hp : (pgGet pg k).size = 1024) (w : World) (h : DiskAt w B pg cut left torn) :
    Calls Try.prog 35 #[.pointer (some ⟨B, 0, none⟩), .int .i64 k, .string s] w fun e w' => e = .returned (.iface 56 (.int .i64 14)) ∧ DiskAt w' B (pgPut pg k (tearS s (pgGet pg k) (clampT torn))) cut left 0 ∧ w.grownBy w' (some B) := by
  have H := Lib.hid h
  clear h
  have hs' : ((s.size : Int) != 1024) = false := by simp; omega
  go_enter Try.func35, Try.ntmps35
  go_wp2_with fail
  refine (read_d B pg cut left torn k hk w H.out).mono ?_
  rintro e w1 ⟨rfl, hg1⟩
  have H1 := Lib.hid (H.out.gr hg1)
  go_wp2_with fail
  refine (on_d B pg cut left torn w1 H1.out).mono ?_
  rintro e w2 ⟨rfl, hg2⟩
  rw [hon]
  have H2 := Lib.hid (H1.out.gr hg2)
  have c3 := H2.out.2.2.2.1
  have z3 := H2.out.2.2.2.2 4003
  have ck := H2.out.1 k hk
  have zk := H2.out.2.2.2.2 k
  generalize hold : pgGet pg k = old at *
  have HOLD := Lib.hid hold
  clear hold
  have hcl : min (max torn 0) 1024 = ((clampT torn : Nat) : Int) := by unfold clampT; omega
  have hcn : clampT torn ≤ 1024 := by unfold clampT; omega
  generalize hcln : clampT torn = n at *
  have HCLN := Lib.hid hcln
  clear hcln
  have ha : ∀ w, (Op.stringOp .add (s.extract 0 n) (old.extract n 1024)).run Try.prog w = .ok (.string (tearS s old n)) w := fun w => by
    rw [run_string_add_sum w _ _ (by rw [ByteArray.size_extract, ByteArray.size_extract]; omega)]
    congr 2
    apply data_ext
    rw [ByteArray.data_append, Array.toList_append, Lib.extract_data, Lib.extract_data, ← hp]
    show _ = tearB s old n
    unfold tearB
    rw [List.drop_zero, Nat.sub_zero, List.take_of_length_le (l := List.drop n _) (by rw [List.length_drop, ← size_data]; exact Nat.le_refl _)]
  go_wp2_with fail
  go_region
  go_wp2
  go_ret
  refine ⟨rfl, ?_, (((grown_of_gr (hg1.trans hg2) _).trans (grownBy_setCell _ _ _ _)).trans (grownBy_setCell _ _ _ _)).trans (grown_of_gr (Gr.refl _).drew _)⟩
  rw [HOLD.out, HCLN.out]
  exact ((H2.out.putPage hk _).putTorn 0).gr (Gr.refl _).drew
end Go.Proofs.Ytmjkalpjciddbaa

/-
  The contracts of pager.two, pager.from and pager.fill.
-/
namespace Go.Proofs.Ytmjkalpjciddbaa
open Go Go.RowKit

theorem repeat_replicate (c : UInt8) : ∀ n, Lib.repeatL [c] n = List.replicate n c
  | 0 => rfl
  | n + 1 => by
    rw [List.replicate_succ, ← repeat_replicate c n]
    rfl
theorem zerosB_fill : zerosB.data.toList = fillF [] := by
  show (Lib.repeatL [0] 1024).toArray.toList = [] ++ List.replicate (1024 - ([] : List UInt8).length) 0
  rw [List.toList_toArray, repeat_replicate, List.nil_append, List.length_nil]
set_option maxHeartbeats 800000 in
theorem two_g (n : Int) (w : World) : Calls Try.prog 50 #[.int .i64 n] w (Ret w (.string ⟨(two8 n).toArray⟩)) := by
  have hu1 : IntKind.u8.wrap (n / 256) = ((((n / 256) % 256).toNat.toUInt8).toNat : Int) := by
    show (n / 256) % 256 = _
    simp
    omega
  have hu2 : IntKind.u8.wrap n = (((n % 256).toNat.toUInt8).toNat : Int) := by
    show n % 256 = _
    simp
    omega
  have H8 : Hid (two8 n = [((n / 256) % 256).toNat.toUInt8, (n % 256).toNat.toUInt8]) := Lib.hid rfl
  generalize ((n / 256) % 256).toNat.toUInt8 = a at *
  generalize (n % 256).toNat.toUInt8 = b at *
  have hc : ∀ w : World, (convert 79 9 (.slice (some ⟨w.heap.size, 0, none⟩) 2 2)).run Try.prog (w.alloc (.cells #[.int .u8 (a.toNat : Int), .int .u8 (b.toNat : Int)] 5)) = .ok (.string ⟨#[a, b]⟩) (w.alloc (.cells #[.int .u8 (a.toNat : Int), .int .u8 (b.toNat : Int)] 5)) := fun w =>
    own_string (a0 := w) (l := [a, b]) (World.ownsRow_lit w #[.int .u8 (a.toNat : Int), .int .u8 (b.toNat : Int)] 2 (Nat.le_refl _) (by decide) rfl)
  go_enter Try.func50, Try.ntmps50
  go_wp2_with fail
  go_ret
  exact Ret.mk (by rw [H8.out]; rfl) ((Gr.refl w).alloc _)
theorem add_bytes (l m : List UInt8) (h : l.length + m.length ≤ 100000000000) : ∀ w, (Op.stringOp .add ⟨l.toArray⟩ ⟨m.toArray⟩).run Try.prog w = .ok (.string ⟨(l ++ m).toArray⟩) w := fun w => by
  rw [run_string_add_sum w _ _ (by rw [ba_len, ba_len]; omega), ByteArray.mk_append_mk]
theorem or_byte_i (U c : Nat) (hU : U < 256) (hc : c < 256) : bits BinOp.or IntKind.i64 ((U : Int) * 256) (c : Int) = 256 * (U : Int) + (c : Int) := by
  have e : ((U : Int) * 256) = ((U * 256 : Nat) : Int) := by omega
  rw [e]
  show IntKind.i64.wrap ((BitVec.ofInt 64 ((U * 256 : Nat) : Int) ||| BitVec.ofInt 64 (c : Int)).toNat : Int) = _
  rw [BitVec.toNat_or, ofInt_64 _ (by omega), ofInt_64 _ (by omega), IntKind.wrap_i64]
  have h := Nat.two_pow_add_eq_or_of_lt (i := 8) (b := c) hc U
  rw [Nat.mul_comm] at h
  rw [show (2 : Nat) ^ 8 = 256 from rfl] at h
  rw [← h]
  omega
set_option maxHeartbeats 800000 in
theorem from_g (s : ByteArray) (hs : 2 ≤ s.size) (w : World) : Calls Try.prog 38 #[.string s] w fun e w' => e = .returned (.int .i64 (fromF s.data.toList 0)) ∧ w' = w.drew := by
  have h0 : 0 < s.size := by omega
  have h1 : 1 < s.size := by omega
  have e0 : s[0] = s.data.toList.getD 0 0 := by
    rw [get_data s 0 h0, List.getD_eq_getElem?_getD, List.getElem?_eq_getElem (by rw [← size_data]; exact h0)]
    rfl
  have e1 : s[1] = s.data.toList.getD (0 + 1) 0 := by
    rw [get_data s 1 h1, List.getD_eq_getElem?_getD, List.getElem?_eq_getElem (by rw [← size_data]; exact h1)]
    rfl
  have HF : Hid (fromF s.data.toList 0 = 256 * ((s[0].toNat : Nat) : Int) + ((s[1].toNat : Nat) : Int)) := Lib.hid (by rw [e0, e1]; rfl)
  have ho := or_byte_i s[0].toNat s[1].toNat (s[0].toNat_lt) (s[1].toNat_lt)
  have hw : wrap64 ((s[0].toNat : Int) * 256) = (s[0].toNat : Int) * 256 := by
    have := s[0].toNat_lt
    unfold wrap64
    omega
  have hwa : wrap64 (s[0].toNat : Int) = (s[0].toNat : Int) := by
    have := s[0].toNat_lt
    unfold wrap64
    omega
  have hwb : wrap64 (s[1].toNat : Int) = (s[1].toNat : Int) := by
    have := s[1].toNat_lt
    unfold wrap64
    omega
  clear e0 e1
  generalize hA : s[0] = a at *
  generalize hB : s[1] = b at *
  go_enter Try.func38, Try.ntmps38
  go_wp2_with fail
  go_region
  go_wp2_with fail
  go_ret
  refine ⟨?_, rfl⟩
  rw [HF.out]
  rfl
theorem ba_eta (l : List UInt8) : (⟨l.toArray⟩ : ByteArray).data.toList = l := by show l.toArray.toList = l; simp
set_option maxHeartbeats 800000 in
theorem fill_g (s : ByteArray) (hs : s.size ≤ 1024) (w : World) : Calls Try.prog 36 #[.string s] w (Ret w (.string ⟨(fillF s.data.toList).toArray⟩)) := by
  have hr : ∀ w, Calls Try.prog 37 #[.string ⟨#[0]⟩, .int .i64 (1024 - (s.size : Int))] w (Ret w (.string ⟨(List.replicate (1024 - s.size) (0 : UInt8)).toArray⟩)) := fun w => by
    have := repeat_t ⟨#[0]⟩ (1024 - s.size) w (by omega) (show 1 ≤ 100000 by omega)
    rw [show ((1024 - s.size : Nat) : Int) = 1024 - (s.size : Int) by omega] at this
    rw [← repeat_replicate]
    exact this
  have ha : ∀ w, (Op.stringOp .add s ⟨(List.replicate (1024 - s.size) (0 : UInt8)).toArray⟩).run Try.prog w = .ok (.string ⟨(fillF s.data.toList).toArray⟩) w := fun w => by
    rw [run_string_add_sum w _ _ (by rw [ba_len (List.replicate (1024 - s.size) 0), List.length_replicate]; omega)]
    congr 2
  have hw : IntKind.i64.wrap (1024 - (s.size : Int)) = 1024 - (s.size : Int) := by rw [IntKind.wrap_i64]; omega
  generalize (⟨(fillF s.data.toList).toArray⟩ : ByteArray) = r at *
  generalize (⟨(List.replicate (1024 - s.size) (0 : UInt8)).toArray⟩ : ByteArray) = z at *
  go_enter Try.func36, Try.ntmps36
  go_wp2_with fail
  refine (hr w).mono ?_
  rintro e w1 ⟨rfl, hg1⟩
  go_wp2_with fail
  go_ret
  exact Ret.mk rfl hg1
end Go.Proofs.Ytmjkalpjciddbaa

/-
  The contract of pager.sum.
-/
namespace Go.Proofs.Ytmjkalpjciddbaa
open Go Go.RowKit

def datas (l : List ByteArray) : List (List UInt8) := l.map fun s => s.data.toList
theorem xor64 (n c : Nat) (hn : n < 18446744073709551616) (hc : c < 256) : bits BinOp.xor IntKind.u64 (n : Int) (c : Int) = ((n ^^^ c : Nat) : Int) := by
  show IntKind.u64.wrap ((BitVec.ofInt 64 (n : Int) ^^^ BitVec.ofInt 64 (c : Int)).toNat : Int) = _
  rw [BitVec.toNat_xor, ofInt_64 _ (by omega), ofInt_64 _ (by omega), IntKind.wrap_u64]
  have h : n ^^^ c < 2 ^ 64 := Nat.xor_lt_two_pow (by omega) (by omega)
  omega
theorem sumStep_lt (n : Nat) (c : UInt8) : sumStep n c < 18446744073709551616 := Nat.mod_lt _ (by omega)
theorem foldl_lt : ∀ (l : List UInt8) (n : Nat), n < 18446744073709551616 → l.foldl sumStep n < 18446744073709551616
  | [], _, h => h
  | c :: l, n, _ => foldl_lt l _ (sumStep_lt n c)
theorem sums_lt : ∀ (l : List (List UInt8)) (n : Nat), n < 18446744073709551616 → l.foldl (fun n s => s.foldl sumStep n) n < 18446744073709551616
  | [], _, h => h
  | s :: l, n, h => sums_lt l _ (foldl_lt s n h)
theorem take_fold {α β : Type} (f : β → α → β) (b : β) (l : List α) (k : Nat) (hk : k < l.length) : (l.take (k + 1)).foldl f b = f ((l.take k).foldl f b) l[k] := by
  rw [List.take_succ_eq_append_getElem hk, List.foldl_append]
  rfl
set_option maxRecDepth 100000 in
set_option maxHeartbeats 1600000 in
theorem sum_g (l : List ByteArray) (v : Value) (w : World) (h : RowV Value.string w v l) (hl : l.length ≤ 1000000) (hs : ∀ i (h : i < l.length), l[i].size ≤ 1000000) :
    Calls Try.prog 52 #[v] w (Ret w (.string ⟨(sumF (datas l)).toArray⟩)) := by
  obtain ⟨i0, hi, hz0, hz1, hz2⟩ := info_parts info_u8
  have H := Lib.hid h
  have HS := Lib.hid hs
  obtain ⟨ao, ca, rfl⟩ := h.form
  clear h hs
  go_enter Try.func52, Try.ntmps52
  go_wp2_with fail
  go_loopw [10, 3] (fun kv nv w' => ∃ i n : Nat, i ≤ l.length ∧ kv = .int .i64 i ∧ nv = .int .u64 n ∧ n = ((datas l).take i).foldl (fun n s => s.foldl sumStep n) 14695981039346656037 ∧ w' = w) (fun kv _ _ => l.length - (intOf kv).toNat)
  case atStart => exact ⟨0, _, Nat.zero_le _, rfl, rfl, rfl, rfl⟩
  case round =>
    obtain ⟨i, n, hi1, rfl, rfl, hn, rfl⟩ := hrel
    have hn64 : n < 18446744073709551616 := by
      rw [hn]
      exact sums_lt _ _ (by omega)
    have HN := Lib.hid hn
    clear hn
    by_cases hlt : i < l.length
    · obtain ⟨b, off, rfl, hc⟩ := H.out.at hlt
      have c0 := hc i hlt
      have hsz := HS.out i hlt
      have hdl : i < (datas l).length := by simpa [datas] using hlt
      have HNX := Lib.hid (take_fold (fun n s => s.foldl sumStep n) 14695981039346656037 (datas l) i hdl)
      have hdi : (datas l)[i] = l[i].data.toList := by simp [datas]
      have HDI := Lib.hid hdi
      clear hc hdi
      generalize l[i] = t at *
      go_wp2_with fail
      go_loopw [16, 3] (fun kv nv w' => ∃ k m : Nat, k ≤ t.size ∧ kv = .int .i64 k ∧ nv = .int .u64 m ∧ m = (t.data.toList.take k).foldl sumStep n ∧ w' = wr) (fun kv _ _ => t.size - (intOf kv).toNat)
      case atStart => exact ⟨0, _, Nat.zero_le _, rfl, rfl, rfl, rfl⟩
      case round =>
        obtain ⟨k, m, hk, rfl, rfl, hm, rfl⟩ := hrel
        have hm64 : m < 18446744073709551616 := by
          rw [hm]
          exact foldl_lt _ _ hn64
        have HM := Lib.hid hm
        clear hm
        by_cases hlk : k < t.size
        · have hkd : k < t.data.toList.length := by rw [← size_data]; exact hlk
          have HMX := Lib.hid (take_fold sumStep n t.data.toList k hkd)
          have HG := Lib.hid (get_data t k hlk)
          have hx := xor64 m t[k].toNat hm64 t[k].toNat_lt
          have hst : IntKind.u64.wrap (bits BinOp.xor IntKind.u64 (m : Int) (IntKind.u64.wrap (t[k].toNat : Int)) * 1099511628211) = ((sumStep m t[k] : Nat) : Int) := by
            have hw : IntKind.u64.wrap (t[k].toNat : Int) = (t[k].toNat : Int) := by
              have := t[k].toNat_lt
              rw [IntKind.wrap_u64]
              omega
            rw [hw, hx, IntKind.wrap_u64]
            unfold sumStep
            generalize m ^^^ t[k].toNat = x
            omega
          have HST := Lib.hid hst
          clear hx hst
          go_wp2_with fail
          refine ⟨⟨k + 1, sumStep m t[k], by omega, by go_num, by rw [HST.out], ?_, trivial⟩, by simp [intOf]; omega⟩
          rw [HMX.out, ← HM.out, HG.out]
        · obtain rfl : k = t.size := by omega
          have hmm : m = ((datas l).take (i + 1)).foldl (fun n s => s.foldl sumStep n) 14695981039346656037 := by
            rw [HNX.out, ← HN.out, HDI.out, HM.out, List.take_of_length_le (by rw [← size_data]; exact Nat.le_refl _)]
          have HMM := Lib.hid hmm
          clear hmm
          go_wp2_with fail
          exact ⟨⟨i + 1, m, by omega, by go_num, rfl, HMM.out, trivial⟩, by simp [intOf]; omega⟩
    · obtain rfl : i = l.length := by omega
      have hnn : n = sumN (datas l) := by
        rw [HN.out, List.take_of_length_le (by simp [datas])]
        rfl
      have HNN := Lib.hid hnn
      clear hnn
      rename World => wa
      go_wp2_with fail
      go_loopw [28, 3, 7] (fun kv nv bv w' => ∃ k : Nat, k ≤ 8 ∧ kv = .int .i64 k ∧ nv = .int .u64 ((n / 256 ^ k : Nat) : Int) ∧ OwnB wa w' bv (low8 n k) ∧ Gr wa w') (fun kv _ _ _ => 8 - (intOf kv).toNat)
      case atStart => exact ⟨0, Nat.zero_le _, rfl, by simp, World.ownsRow_nil _ _ _ _, Gr.refl _⟩
      case round =>
        obtain ⟨k, hk, rfl, rfl, ho, hg⟩ := hrel
        have HO := Lib.hid ho
        clear ho
        have hll := low8_len n k
        have hd64 : n / 256 ^ k < 18446744073709551616 := Nat.lt_of_le_of_lt (Nat.div_le_self _ _) hn64
        by_cases hlk : k < 8
        · have hb : IntKind.u8.wrap ((n / 256 ^ k : Nat) : Int) = (((n / 256 ^ k).toUInt8.toNat : Nat) : Int) := by
            show _ % 256 = ((n / 256 ^ k % 256 : Nat) : Int)
            omega
          have hnk : ((n / 256 ^ k : Nat) : Int) / 256 = ((n / 256 ^ (k + 1) : Nat) : Int) := by
            rw [Nat.pow_succ, ← Nat.div_div_eq_div_mul]
            omega
          have HLN : Hid (low8 n (k + 1) = low8 n k ++ [(n / 256 ^ k).toUInt8]) := Lib.hid rfl
          generalize hnx : n / 256 ^ (k + 1) = nx at *
          have HNV := Lib.hid hnx
          clear hnx
          generalize (n / 256 ^ k).toUInt8 = c at *
          generalize n / 256 ^ k = q at *
          have HNK := Lib.hid hnk
          clear hnk
          go_wp2_with (at_builtin; (refine append_one (a0 := wa) rfl _ _ 79 rfl 5 i0 (.int .u8 0) 1 1 Try.underlying79 hi hz0 hz1 hz2 rfl (by decide) _ _ _ rfl (OwnB.row HO.out) [_] rfl (by intro u hu; simp at hu; subst hu; rfl) rfl hg (by omega) (by omega) ?_))
          intro v4 w4 hown4 hg4
          go_wp2_with fail
          refine ⟨⟨k + 1, by omega, by go_num, by rw [HNV.out, HNK.out], ?_, hg4⟩, by simp [intOf]; omega⟩
          rw [HLN.out]
          exact own_snoc (by rw [byteV, low8_len]; exact hown4)
        · obtain rfl : k = 8 := by omega
          have hco := own_string HO.out
          go_wp2_with fail
          go_ret
          refine Ret.mk ?_ hg
          rw [sumF, ← HNN.out]
          rfl
end Go.Proofs.Ytmjkalpjciddbaa

/-
  A map from numbers to texts that the call has made, as a plain function.
-/
namespace Go.Proofs.Ytmjkalpjciddbaa
open Go Go.RowKit Go.Maps

/-- Block M is a map of at most n entries that holds F. -/
def MapAt (w : World) (M n : Nat) (F : Int → Option ByteArray) : Prop :=
  ∃ D : DataW Unit, w.ownsMap Try.prog 3 (plainElem Try.prog 9) M n D ∧
    ∀ k : Int, (Lit.int .i64 k).wf = true → Maps.has D (.int .i64 k) = (F k).isSome ∧ ∀ z, D.atKey (.int .i64 k) z = match F k with | none => z | some s => .lit (.string s.data.toList)
theorem keyI : Keyed Try.prog 3 := int_keyed Try.underlying3
theorem MapAt.kept {w w' : World} {M n : Nat} {F : Int → Option ByteArray} {row : Option Nat} (h : MapAt w M n F) (g : w.grownBy w' row) (hne : some M ≠ row) : MapAt w' M n F := by
  obtain ⟨D, h1, h2⟩ := h
  exact ⟨D, h1.kept g hne, h2⟩
theorem MapAt.gr {w w' : World} {M n : Nat} {F : Int → Option ByteArray} (h : MapAt w M n F) (g : Gr w w') : MapAt w' M n F := h.kept (grown_of_gr g none) (by simp)
theorem MapAt.made (w : World) : MapAt (w.alloc (.map #[] 0)) w.heap.size 0 (fun _ => none) :=
  ⟨.map [], World.ownsMap_made w _ _ _, fun _ _ => ⟨rfl, fun _ => rfl⟩⟩
theorem wfI {k : Int} (h : -9223372036854775808 ≤ k ∧ k ≤ 9223372036854775807) : (Lit.int .i64 k).wf = true := by
  simp [Lit.wf, IntKind.min, IntKind.max, IntKind.bits, IntKind.signed]
  omega
theorem zeroS (w : World) : (zeroValue 9).run Try.prog w = .ok (.string ⟨#[]⟩) w := by kernel_rfl
/-- 's, ok := m[k]'. -/
theorem MapAt.look {w : World} {M n : Nat} {F : Int → Option ByteArray} (h : MapAt w M n F) {k : Int} (hk : -9223372036854775808 ≤ k ∧ k ≤ 9223372036854775807) :
    (Instr.lookup 46 (.map (some M)) (.int .i64 k) true).run Try.prog w = .ok (.tuple #[.string ((F k).getD ⟨#[]⟩), .bool (F k).isSome]) w := by
  obtain ⟨D, h1, h2⟩ := h
  obtain ⟨e1, e2⟩ := h2 k (wfI hk)
  obtain ⟨v, ps, hrun, hv⟩ := h1.look_ok (t := 46) (e := 9) keyI Try.underlying46 (zeroS w) (plainElem_string Try.underlying9 (by decide)) (keyOf_int_mk Try.underlying3 (wfI hk))
  rw [hrun, e1]
  rw [e2] at hv
  obtain ⟨s, rfl, hz, _⟩ := plainElem_string_inv Try.underlying9 hv
  have : s = (F k).getD ⟨#[]⟩ := by
    apply data_ext
    cases hF : F k with
    | none =>
      rw [hF] at hz
      simp only [Prod.mk.injEq, DataW.lit.injEq, Lit.string.injEq] at hz
      exact hz.1.symm
    | some u =>
      rw [hF] at hz
      simp only [Prod.mk.injEq, DataW.lit.injEq, Lit.string.injEq] at hz
      exact hz.1.symm
  rw [this]
/-- 'm[k] = s'. -/
theorem MapAt.store {w : World} {M n : Nat} {F : Int → Option ByteArray} (h : MapAt w M n F) (hn : n < 1000000) {k : Int} (hk : -9223372036854775808 ≤ k ∧ k ≤ 9223372036854775807) (s : ByteArray) (hs : s.size ≤ 9223372036854775807) :
    ∃ w', (Instr.mapUpdate 46 (.map (some M)) (.int .i64 k) (.string s)).run Try.prog w = .ok () w' ∧ MapAt w' M (n + 1) (fun i => if i = k then some s else F i) ∧ w.grownBy w' (some M) := by
  obtain ⟨D, h1, h2⟩ := h
  obtain ⟨w', hrun, ho, hg⟩ := h1.update (t := 46) (e := 9) keyI Try.underlying46 (by unfold maxLen; omega) (keyOf_int_mk Try.underlying3 (wfI hk)) (plainElem_string Try.underlying9 (s := s) (by unfold maxLen; exact hs))
  refine ⟨w', hrun, ⟨_, ho, fun i hi => ?_⟩, hg⟩
  have hmap := h1.isMap
  by_cases e : i = k
  · subst e
    simp only [if_true]
    exact ⟨Maps.has_put_same hmap (show WideAt.IsKeyLit (.int .i64 i) from trivial) _, fun z => Maps.atKey_put_same hmap (show WideAt.IsKeyLit (.int .i64 i) from trivial) _ z⟩
  · have hne : (Lit.int .i64 i) ≠ (Lit.int .i64 k) := by
      intro h
      injection h with _ h
      exact e h
    simp only [if_neg e]
    rw [Maps.has_put_other hne]
    exact ⟨(h2 i hi).1, fun z => by rw [Maps.atKey_put_other hne]; exact (h2 i hi).2 z⟩
end Go.Proofs.Ytmjkalpjciddbaa

/-
  What a call does that writes to some blocks: a disk and a map in other blocks stay.
-/
namespace Go.Proofs.Ytmjkalpjciddbaa
open Go Go.RowKit

theorem DiskAt.keepX {S : Nat → Prop} {w w' : World} {B : Nat} {pg : Nat → ByteArray} {cut : Bool} {left torn : Int} (h : DiskAt w B pg cut left torn) (g : GrX S w w') (hs : ¬ S B) : DiskAt w' B pg cut left torn :=
  ⟨fun k hk => g.keeps hs (h.1 k hk), g.keeps hs h.2.1, g.keeps hs h.2.2.1, g.keeps hs h.2.2.2.1, fun o => (g.frozen o (lt_of_cell h.2.1) hs).trans (h.2.2.2.2 o)⟩
theorem MapAt.block {w w' : World} {M n : Nat} {F : Int → Option ByteArray} (h : MapAt w M n F) (hb : w'.heap[M]? = w.heap[M]?) : MapAt w' M n F := by
  obtain ⟨D, ⟨es, clock, h1, h2⟩, h3⟩ := h
  exact ⟨D, ⟨es, clock, hb.trans h1, h2⟩, h3⟩
theorem MapAt.lt {w : World} {M n : Nat} {F : Int → Option ByteArray} (h : MapAt w M n F) : M < w.heap.size := by
  obtain ⟨D, ⟨es, clock, h1, h2⟩, h3⟩ := h
  exact (Array.getElem?_eq_some_iff.1 h1).1
theorem MapAt.keepX {S : Nat → Prop} {w w' : World} {M n : Nat} {F : Int → Option ByteArray} (h : MapAt w M n F) (g : GrX S w w') (hs : ¬ S M) : MapAt w' M n F := h.block (g.block h.lt hs)
end Go.Proofs.Ytmjkalpjciddbaa
