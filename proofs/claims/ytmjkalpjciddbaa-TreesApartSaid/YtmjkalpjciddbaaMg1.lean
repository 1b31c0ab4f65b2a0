/-
  Small plain lemmas used by all contracts of this seat: the relation 'Gr' (all old memory is as it was).
-/
import Derived.WalkKit
import Derived.WalkSpells
import Derived.WalkLawsBesides
import Derived.Lib.Hide
import Derived.Deep.Quiet
import Derived.BigQuiet
import Derived.Lib.QuietBelow
import Derived.KernelRfl
import Derived.Lib.AppendStr
import Derived.Lib.Bytealg
import Derived.Lib.IndexLaws
import Derived.Laws.Strings
import Derived.Laws.BitsLemmas
namespace Go.Proofs.Ytmjkalpjciddbaa
open Go Go.RowKit

/-- A call that only reads, or makes memory of its own: what was there is as it was. -/
def Gr (w w' : World) : Prop := Below w.heap.size w w'
theorem Gr.refl (w : World) : Gr w w := Below.refl _ _
theorem Gr.trans {a b c : World} (h : Gr a b) (k : Gr b c) : Gr a c := Below.trans h (Below.mono k h.size)
theorem Gr.alloc {a w : World} (h : Gr a w) (o : Obj) : Gr a (w.alloc o) := Below.alloc h h.size o
theorem Gr.drew {a w : World} (h : Gr a w) : Gr a w.drew := Below.drew h
theorem Gr.drewN {a w : World} (h : Gr a w) (n : Nat) : Gr a (w.drewN n) := ⟨h.os, h.tape, h.output, h.size, h.block⟩
theorem Gr.setCell {a w : World} (h : Gr a w) {p : Addr} (hp : a.heap.size ≤ p.block) (u : Value) : Gr a (w.setCell p u) := Below.setCell h hp u
theorem Gr.cell {a w : World} (h : Gr a w) {b : Nat} (o : Nat) (hb : b < a.heap.size) : w.cell? ⟨b, o, none⟩ = a.cell? ⟨b, o, none⟩ := Below.cell (p := ⟨b, o, none⟩) h hb
theorem Gr.frozen {a w : World} (h : Gr a w) {b : Nat} (o : Nat) (hb : b < a.heap.size) : w.frozen? ⟨b, o, none⟩ = a.frozen? ⟨b, o, none⟩ := Below.frozen (p := ⟨b, o, none⟩) h hb
theorem lt_of_cell {a : World} {b o : Nat} {v : Value} (hc : a.cell? ⟨b, o, none⟩ = some v) : b < a.heap.size := by
  rcases Nat.lt_or_ge b a.heap.size with h | h
  · exact h
  · simp [World.cell?, Array.getElem?_eq_none h] at hc
theorem Gr.keeps {a w : World} (h : Gr a w) {b o : Nat} {v : Value} (hc : a.cell? ⟨b, o, none⟩ = some v) : w.cell? ⟨b, o, none⟩ = some v := by
  rw [h.cell o (lt_of_cell hc)]; exact hc
theorem Gr.facts {a w : World} (h : Gr a w) : (∀ b o, b < a.heap.size → w.cell? ⟨b, o, none⟩ = a.cell? ⟨b, o, none⟩) ∧ (∀ b o, b < a.heap.size → w.frozen? ⟨b, o, none⟩ = a.frozen? ⟨b, o, none⟩) :=
  ⟨fun _ o hb => h.cell o hb, fun _ o hb => h.frozen o hb⟩
/-- It hands back this, and what was there is as it was. -/
def Ret (w : World) (v : Value) (e : Ending) (w' : World) : Prop := e = .returned v ∧ Gr w w'
theorem Ret.mk {w w' : World} {v u : Value} (h : u = v) (g : Gr w w') : Ret w v (.returned u) w' := ⟨by rw [h], g⟩
theorem Ret.of_same {P : Program} {f : FuncId} {args : Array Value} {w : World} {v : Value} (h : Calls P f args w fun e w' => e = .returned v ∧ w' = w) : Calls P f args w (Ret w v) :=
  h.mono fun _ _ ⟨he, hw⟩ => ⟨he, by rw [hw]; exact Gr.refl _⟩
/-- A region that draws its order and only reads, and whose callees only read or make memory of their own. -/
theorem gr_regrown {w w' : World} (h : ∃ p : Regrown, w' = Sort.grow (redrawn w p.d) p.os) : Gr w w' := by
  obtain ⟨p, rfl⟩ := h
  exact below_regrown w p.d p.os
theorem Ret.regrown {P : Program} {f : FuncId} {args : Array Value} {w : World} {d : Nat} {os : Array Obj} {v : Value} (h : Calls P f args (Sort.grow (redrawn w d) os) (Ret (Sort.grow (redrawn w d) os) v)) :
    Calls P f args (Sort.grow (redrawn w d) os) fun e w'' => e = .returned v ∧ ∃ p : Regrown, w'' = Sort.grow (redrawn w p.d) p.os := Calls.regrown_of h
theorem beqT {a b : Nat} (h : ((a : Int) == (b : Int)) = true) : a = b := by have := beq_iff_eq.1 h; omega
theorem beqF {a b : Nat} (h : ((a : Int) == (b : Int)) = false) : ¬ a = b := by have := beq_eq_false_iff_ne.1 h; omega
theorem ownsRow_gr {w w' : World} {B : Nat} {e : TypeId} {size n : Nat} {v : Value} {xs : List Value} (h : w.ownsRow B e size v n xs) (g : Gr w w') : w'.ownsRow B e size v n xs := by
  obtain ⟨h1, h2⟩ := h
  refine ⟨h1, ?_⟩
  rcases h2 with h2 | ⟨b, cap, cur, hv, hb, hh, r⟩
  · exact .inl h2
  · have hl := (Array.getElem?_eq_some_iff.1 hh).1
    exact .inr ⟨b, cap, cur, hv, hb, by rw [g.block _ hl]; exact hh, r⟩
theorem gr_grown {a w w' : World} {row : Option Nat} (h : Gr a w) (hg : w.grownBy w' row) (hr : ∀ k, row = some k → a.heap.size ≤ k) : Gr a w' := Below.grown h hg h.size hr
theorem ownBlock_ge {w : World} {B : Nat} {e : TypeId} {size n : Nat} {v : Value} {xs : List Value} (h : w.ownsRow B e size v n xs) : ∀ k, v.ownBlock = some k → B ≤ k := by
  intro k hk
  rcases h.2 with ⟨rfl, _⟩ | ⟨b, cap, cur, rfl, hb, _⟩
  · cases hk
  · cases hk; exact hb
/-- 'append(out, x)', out of the call's own, x of one or more cells, just laid in a block of its own. -/
theorem append_one {P : Program} {a0 w : World} {ops : Array Oper} {rest : List Oper} {o : Oper} {a : Act} {Q : Exit → Act → World → Prop} (hgd : o.guard = none) (s x : Operand) (t : TypeId)
    (ho : o.op = .call { callee := .builtin .append, args := #[s, x], argTypes := #[t, t] }) (e : TypeId) (i : TypeInfo) (z : Value) (size bytes : Nat) (ht : P.underlying t = some (.slice e)) (hi : P.info? e = some i)
    (hz : i.zero = some z) (hsize : i.size = size) (hby : i.bytes = bytes) (hzs : z.cells.size = size) (hsz : 0 < size) (v : Value) (n : Nat) (xs : List Value) (hs : a.eval s = v) (hown : w.ownsRow a0.heap.size e size v n xs)
    (us : List Value) (hul : us.length = size) (h1 : ∀ u ∈ us, u.oneCell' = true) (hx : a.eval x = .slice (some ⟨w.heap.size, 0, none⟩) 1 1) (hg : Gr a0 w) (h63 : n + 1 ≤ 4611686018427387904) (hbytes : (n + 1) * bytes ≤ 140737488355328)
    (h : ∀ v' w', w'.ownsRow a0.heap.size e size v' (n + 1) (xs ++ us) → Gr a0 w' → wpList P ops Q rest (a.put o.dst v') w') : wpList P ops Q (o :: rest) a (w.alloc (.cells us.toArray e)) := by
  refine wpList_append_own _ hgd s x t ho a0.heap.size e i z size bytes ht hi hz hsize hby hzs hsz v n xs hs (hown.alloc _) ⟨w.heap.size, 0, none⟩ 1 1 us hx (by rw [hul, Nat.one_mul]) ?_ h1 (by unfold maxLen; omega) hbytes (by have := hg.size; simp; omega)
    (fun v' w' h1 h2 _ => h v' w' h1 (gr_grown (hg.alloc _) h2 (ownBlock_ge hown)))
  intro j u hj
  have he : (⟨w.heap.size, 0, none⟩ : Addr).add j = ⟨w.heap.size, j, none⟩ := by
    unfold Addr.add
    split
    · rename_i h0; rw [h0]
    · simp
  rw [he, World.cell?_alloc_new]
  simpa using hj
theorem ownBlock_lt {w : World} {B : Nat} {e : TypeId} {size n : Nat} {v : Value} {xs : List Value} (h : w.ownsRow B e size v n xs) : ∀ k, v.ownBlock = some k → k < w.heap.size := by
  intro k hk
  rcases h.2 with ⟨rfl, _⟩ | ⟨b, cap, cur, rfl, _, hh, _⟩
  · cases hk
  · cases hk; exact (Array.getElem?_eq_some_iff.1 hh).1
/-- All blocks are as they were but, perhaps, the one that v leads to. -/
def KeepsBut (v : Value) (w w' : World) : Prop := ∀ k o, k < w.heap.size → v.ownBlock ≠ some k → w'.cell? ⟨k, o, none⟩ = w.cell? ⟨k, o, none⟩ ∧ w'.frozen? ⟨k, o, none⟩ = w.frozen? ⟨k, o, none⟩
/-- 'append_one', and what it leaves as it was. -/
theorem append_keep {P : Program} {a0 w : World} {ops : Array Oper} {rest : List Oper} {o : Oper} {a : Act} {Q : Exit → Act → World → Prop} (hgd : o.guard = none) (s x : Operand) (t : TypeId)
    (ho : o.op = .call { callee := .builtin .append, args := #[s, x], argTypes := #[t, t] }) (e : TypeId) (i : TypeInfo) (z : Value) (size bytes : Nat) (ht : P.underlying t = some (.slice e)) (hi : P.info? e = some i)
    (hz : i.zero = some z) (hsize : i.size = size) (hby : i.bytes = bytes) (hzs : z.cells.size = size) (hsz : 0 < size) (v : Value) (n : Nat) (xs : List Value) (hs : a.eval s = v) (hown : w.ownsRow a0.heap.size e size v n xs)
    (us : List Value) (hul : us.length = size) (h1 : ∀ u ∈ us, u.oneCell' = true) (hx : a.eval x = .slice (some ⟨w.heap.size, 0, none⟩) 1 1) (hg : Gr a0 w) (h63 : n + 1 ≤ 4611686018427387904) (hbytes : (n + 1) * bytes ≤ 140737488355328)
    (h : ∀ v' w', w'.ownsRow a0.heap.size e size v' (n + 1) (xs ++ us) → Gr a0 w' → KeepsBut v w w' → wpList P ops Q rest (a.put o.dst v') w') : wpList P ops Q (o :: rest) a (w.alloc (.cells us.toArray e)) := by
  refine wpList_append_own _ hgd s x t ho a0.heap.size e i z size bytes ht hi hz hsize hby hzs hsz v n xs hs (hown.alloc _) ⟨w.heap.size, 0, none⟩ 1 1 us hx (by rw [hul, Nat.one_mul]) ?_ h1 (by unfold maxLen; omega) hbytes (by have := hg.size; simp; omega)
    (fun v' w' h1 h2 _ => h v' w' h1 (gr_grown (hg.alloc _) h2 (ownBlock_ge hown)) (fun k o hk hne => by
      have hb : w'.heap[k]? = w.heap[k]? := (h2.block k (by simp; omega) (fun e => hne e.symm)).trans (Below.heap_alloc _ _ _ hk)
      exact ⟨World.cell?_of_block hb, World.frozen?_of_block hb⟩))
  intro j u hj
  have he : (⟨w.heap.size, 0, none⟩ : Addr).add j = ⟨w.heap.size, j, none⟩ := by
    unfold Addr.add
    split
    · rename_i h0; rw [h0]
    · simp
  rw [he, World.cell?_alloc_new]
  simpa using hj
/-- 'append(out, s...)', s a text. -/
theorem append_text {P : Program} {a0 w : World} {ops : Array Oper} {rest : List Oper} {o : Oper} {a : Act} {Q : Exit → Act → World → Prop} (hgd : o.guard = none) (sl x : Operand) (t u : TypeId)
    (ho : o.op = .call { callee := .builtin .append, args := #[sl, x], argTypes := #[t, u] }) (e : TypeId) (i : TypeInfo) (ht : P.underlying t = some (.slice e)) (hu : P.underlying u = some .string) (hi : P.info? e = some i) (hz : i.zero = some (.int .u8 0))
    (hsize : i.size = 1) (hby : i.bytes = 1) (v : Value) (n : Nat) (xs : List Value) (hs : a.eval sl = v) (hown : w.ownsRow a0.heap.size e 1 v n xs) (s : ByteArray) (hx : a.eval x = .string s) (hg : Gr a0 w)
    (hbytes : n + s.size ≤ 140737488355328)
    (h : ∀ v' w', w'.ownsRow a0.heap.size e 1 v' (n + s.size) (xs ++ Lib.strCells s) → Gr a0 w' → KeepsBut v w w' → wpList P ops Q rest (a.put o.dst v') w') : wpList P ops Q (o :: rest) a w :=
  Lib.wpList_append_own_string w hgd sl x t u ho a0.heap.size e i ht hu hi hz hsize hby v n xs hs hown s hx (by unfold maxLen; omega) hbytes hg.size
    fun v' w' h1 h2 _ => h v' w' h1 (gr_grown hg h2 (ownBlock_ge hown)) (fun k o hk hne => by
      have hb : w'.heap[k]? = w.heap[k]? := h2.block k hk (fun e => hne e.symm)
      exact ⟨World.cell?_of_block hb, World.frozen?_of_block hb⟩)
theorem empty_iff (s : ByteArray) : s.toList.isEmpty = s.data.toList.isEmpty := by rw [ByteArray.toList_eq]
end Go.Proofs.Ytmjkalpjciddbaa

/-
  Plain lemmas on lists of bytes and their order; no program in sight.
-/
namespace Go.Proofs.Ytmjkalpjciddbaa
open Go

theorem cmpB_less (a b : List UInt8) : Op.bytesLess a b = true ↔ Lib.compareBytes a b = -1 := by
  induction a generalizing b with
  | nil => cases b <;> simp [Op.bytesLess, Lib.compareBytes]
  | cons x xs ih =>
    cases b with
    | nil => simp [Op.bytesLess, Lib.compareBytes]
    | cons y ys =>
      simp only [Op.bytesLess, Lib.compareBytes, Bool.or_eq_true, decide_eq_true_eq, Bool.and_eq_true, beq_iff_eq, ih]
      by_cases h1 : x < y
      · simp [h1]
      · by_cases h2 : y < x
        · have : x ≠ y := by rintro rfl; exact h1 h2
          simp [h1, h2, this]
        · have : x = y := UInt8.le_antisymm (UInt8.not_lt.1 h2) (UInt8.not_lt.1 h1)
          simp [this]
theorem cmpB_zero (a b : List UInt8) : Lib.compareBytes a b = 0 ↔ a = b := by
  induction a generalizing b with
  | nil => cases b <;> simp [Lib.compareBytes]
  | cons x xs ih =>
    cases b with
    | nil => simp [Lib.compareBytes]
    | cons y ys =>
      simp only [Lib.compareBytes, List.cons.injEq]
      by_cases h1 : x < y
      · have : x ≠ y := by rintro rfl; exact UInt8.lt_irrefl _ h1
        simp [h1, this]
      · by_cases h2 : y < x
        · have : x ≠ y := by rintro rfl; exact h1 h2
          simp [h1, h2, this]
        · have : x = y := UInt8.le_antisymm (UInt8.not_lt.1 h2) (UInt8.not_lt.1 h1)
          simp [this, ih]
theorem cmpB_range (a b : List UInt8) : Lib.compareBytes a b = -1 ∨ Lib.compareBytes a b = 0 ∨ Lib.compareBytes a b = 1 := by
  induction a generalizing b with
  | nil => cases b <;> simp [Lib.compareBytes]
  | cons x xs ih =>
    cases b with
    | nil => simp [Lib.compareBytes]
    | cons y ys =>
      simp only [Lib.compareBytes]
      split
      · simp
      · split
        · simp
        · exact ih ys
theorem cmpB_eq (a b : List UInt8) : Lib.compareBytes a b = if Op.bytesLess a b = true then -1 else if a = b then 0 else 1 := by
  split
  · rename_i h; exact (cmpB_less a b).1 h
  · rename_i h
    split
    · rename_i h2; exact (cmpB_zero a b).2 h2
    · rename_i h2
      rcases cmpB_range a b with h3 | h3 | h3
      · exact absurd ((cmpB_less a b).2 h3) h
      · exact absurd ((cmpB_zero a b).1 h3) h2
      · exact h3
theorem less_irrefl (a : List UInt8) : Op.bytesLess a a = false := by
  rw [Bool.eq_false_iff]
  intro h
  have h1 := (cmpB_less a a).1 h
  have h2 := (cmpB_zero a a).2 rfl
  omega
theorem xor_top (y : Nat) (h : y < 2 ^ 63) : 2 ^ 63 + y = 2 ^ 63 ^^^ y := by
  apply Nat.eq_of_testBit_eq
  intro i
  rw [Nat.testBit_xor]
  rcases Nat.lt_trichotomy i 63 with hi | hi | hi
  · rw [Nat.testBit_two_pow_add_gt hi, Nat.testBit_two_pow_of_ne (by omega)]
    simp
  · subst hi
    rw [Nat.testBit_two_pow_add_eq, Nat.testBit_two_pow_self]
    simp
  · rw [Nat.testBit_two_pow_of_ne (by omega), Nat.testBit_lt_two_pow (x := y) (Nat.lt_trans h (Nat.pow_lt_pow_right (by omega) hi)), Nat.testBit_lt_two_pow]
    · rfl
    · have : 2 ^ 64 ≤ 2 ^ i := Nat.pow_le_pow_right (by omega) hi
      omega
theorem ofInt_64 (a : Nat) (ha : a < 18446744073709551616) : (BitVec.ofInt 64 (a : Int)).toNat = a := by
  rw [BitVec.ofInt_natCast, BitVec.toNat_ofNat]; exact Nat.mod_eq_of_lt ha
theorem bits_top (n : Int) (h1 : -9223372036854775808 ≤ n) (h2 : n ≤ 9223372036854775807) : bits BinOp.xor IntKind.u64 (IntKind.u64.wrap n) 9223372036854775808 = ((n + 9223372036854775808).toNat : Int) := by
  have hw : IntKind.u64.wrap n = (((n % 18446744073709551616).toNat : Nat) : Int) := by
    simp only [IntKind.wrap_u64]
    omega
  rw [hw]
  generalize hx : (n % 18446744073709551616).toNat = x
  have hxl : x < 18446744073709551616 := by omega
  show IntKind.u64.wrap ((BitVec.ofInt 64 (x : Int) ^^^ BitVec.ofInt 64 ((9223372036854775808 : Nat) : Int)).toNat : Int) = _
  rw [BitVec.toNat_xor, ofInt_64 x hxl, ofInt_64 _ (by omega), IntKind.wrap_u64]
  have e : x ^^^ 9223372036854775808 = (n + 9223372036854775808).toNat := by
    rcases Nat.lt_or_ge x 9223372036854775808 with h | h
    · have := xor_top x h
      rw [Nat.xor_comm, show (9223372036854775808 : Nat) = 2 ^ 63 from rfl, ← this]
      omega
    · obtain ⟨y, rfl⟩ := Nat.exists_eq_add_of_le h
      have := xor_top y (by omega)
      rw [show (9223372036854775808 : Nat) = 2 ^ 63 from rfl, this, Nat.xor_comm (2 ^ 63) y, Nat.xor_assoc, Nat.xor_self, Nat.xor_zero]
      omega
  rw [e]
  omega
end Go.Proofs.Ytmjkalpjciddbaa
