/-
  Small plain lemmas used by all contracts of this seat: the relation 'Gr' (all old memory is as it was).
-/
import Derived.WalkKit
import Derived.WalkSpells
import Derived.WalkLawsBesides
import Derived.Lib.Hide
import Derived.Deep.Quiet
import Derived.BigQuiet
import Derived.Lib.QuietBelow
import Derived.KernelRfl
import Derived.Lib.AppendStr
namespace Go.Proofs.Ytkdplnbdhkckhaa
open Go Go.RowKit

/-- A call that only reads, or makes memory of its own: what was there is as it was. -/
def Gr (w w' : World) : Prop := Below w.heap.size w w'
theorem Gr.refl (w : World) : Gr w w := Below.refl _ _
theorem Gr.trans {a b c : World} (h : Gr a b) (k : Gr b c) : Gr a c := Below.trans h (Below.mono k h.size)
theorem Gr.alloc {a w : World} (h : Gr a w) (o : Obj) : Gr a (w.alloc o) := Below.alloc h h.size o
theorem Gr.drew {a w : World} (h : Gr a w) : Gr a w.drew := Below.drew h
theorem Gr.drewN {a w : World} (h : Gr a w) (n : Nat) : Gr a (w.drewN n) := ⟨h.os, h.tape, h.output, h.size, h.block⟩
theorem Gr.setCell {a w : World} (h : Gr a w) {p : Addr} (hp : a.heap.size ≤ p.block) (u : Value) : Gr a (w.setCell p u) := Below.setCell h hp u
theorem Gr.cell {a w : World} (h : Gr a w) {b : Nat} (o : Nat) (hb : b < a.heap.size) : w.cell? ⟨b, o, none⟩ = a.cell? ⟨b, o, none⟩ := Below.cell (p := ⟨b, o, none⟩) h hb
theorem Gr.frozen {a w : World} (h : Gr a w) {b : Nat} (o : Nat) (hb : b < a.heap.size) : w.frozen? ⟨b, o, none⟩ = a.frozen? ⟨b, o, none⟩ := Below.frozen (p := ⟨b, o, none⟩) h hb
theorem lt_of_cell {a : World} {b o : Nat} {v : Value} (hc : a.cell? ⟨b, o, none⟩ = some v) : b < a.heap.size := by
  rcases Nat.lt_or_ge b a.heap.size with h | h
  · exact h
  · simp [World.cell?, Array.getElem?_eq_none h] at hc
theorem Gr.keeps {a w : World} (h : Gr a w) {b o : Nat} {v : Value} (hc : a.cell? ⟨b, o, none⟩ = some v) : w.cell? ⟨b, o, none⟩ = some v := by
  rw [h.cell o (lt_of_cell hc)]; exact hc
theorem Gr.facts {a w : World} (h : Gr a w) : (∀ b o, b < a.heap.size → w.cell? ⟨b, o, none⟩ = a.cell? ⟨b, o, none⟩) ∧ (∀ b o, b < a.heap.size → w.frozen? ⟨b, o, none⟩ = a.frozen? ⟨b, o, none⟩) :=
  ⟨fun _ o hb => h.cell o hb, fun _ o hb => h.frozen o hb⟩
/-- It hands back this, and what was there is as it was. -/
def Ret (w : World) (v : Value) (e : Ending) (w' : World) : Prop := e = .returned v ∧ Gr w w'
theorem Ret.mk {w w' : World} {v u : Value} (h : u = v) (g : Gr w w') : Ret w v (.returned u) w' := ⟨by rw [h], g⟩
theorem Ret.of_same {P : Program} {f : FuncId} {args : Array Value} {w : World} {v : Value} (h : Calls P f args w fun e w' => e = .returned v ∧ w' = w) : Calls P f args w (Ret w v) :=
  h.mono fun _ _ ⟨he, hw⟩ => ⟨he, by rw [hw]; exact Gr.refl _⟩
/-- A region that draws its order and only reads, and whose callees only read or make memory of their own. -/
theorem gr_regrown {w w' : World} (h : ∃ p : Regrown, w' = Sort.grow (redrawn w p.d) p.os) : Gr w w' := by
  obtain ⟨p, rfl⟩ := h
  exact below_regrown w p.d p.os
theorem Ret.regrown {P : Program} {f : FuncId} {args : Array Value} {w : World} {d : Nat} {os : Array Obj} {v : Value} (h : Calls P f args (Sort.grow (redrawn w d) os) (Ret (Sort.grow (redrawn w d) os) v)) :
    Calls P f args (Sort.grow (redrawn w d) os) fun e w'' => e = .returned v ∧ ∃ p : Regrown, w'' = Sort.grow (redrawn w p.d) p.os := Calls.regrown_of h
theorem beqT {a b : Nat} (h : ((a : Int) == (b : Int)) = true) : a = b := by have := beq_iff_eq.1 h; omega
theorem beqF {a b : Nat} (h : ((a : Int) == (b : Int)) = false) : ¬ a = b := by have := beq_eq_false_iff_ne.1 h; omega
theorem ownsRow_gr {w w' : World} {B : Nat} {e : TypeId} {size n : Nat} {v : Value} {xs : List Value} (h : w.ownsRow B e size v n xs) (g : Gr w w') : w'.ownsRow B e size v n xs := by
  obtain ⟨h1, h2⟩ := h
  refine ⟨h1, ?_⟩
  rcases h2 with h2 | ⟨b, cap, cur, hv, hb, hh, r⟩
  · exact .inl h2
  · have hl := (Array.getElem?_eq_some_iff.1 hh).1
    exact .inr ⟨b, cap, cur, hv, hb, by rw [g.block _ hl]; exact hh, r⟩
theorem gr_grown {a w w' : World} {row : Option Nat} (h : Gr a w) (hg : w.grownBy w' row) (hr : ∀ k, row = some k → a.heap.size ≤ k) : Gr a w' := Below.grown h hg h.size hr
theorem ownBlock_ge {w : World} {B : Nat} {e : TypeId} {size n : Nat} {v : Value} {xs : List Value} (h : w.ownsRow B e size v n xs) : ∀ k, v.ownBlock = some k → B ≤ k := by
  intro k hk
  rcases h.2 with ⟨rfl, _⟩ | ⟨b, cap, cur, rfl, hb, _⟩
  · cases hk
  · cases hk; exact hb
/-- 'append(out, x)', out of the call's own, x of one or more cells, just laid in a block of its own. -/
theorem append_one {P : Program} {a0 w : World} {ops : Array Oper} {rest : List Oper} {o : Oper} {a : Act} {Q : Exit → Act → World → Prop} (hgd : o.guard = none) (s x : Operand) (t : TypeId)
    (ho : o.op = .call { callee := .builtin .append, args := #[s, x], argTypes := #[t, t] }) (e : TypeId) (i : TypeInfo) (z : Value) (size bytes : Nat) (ht : P.underlying t = some (.slice e)) (hi : P.info? e = some i)
    (hz : i.zero = some z) (hsize : i.size = size) (hby : i.bytes = bytes) (hzs : z.cells.size = size) (hsz : 0 < size) (v : Value) (n : Nat) (xs : List Value) (hs : a.eval s = v) (hown : w.ownsRow a0.heap.size e size v n xs)
    (us : List Value) (hul : us.length = size) (h1 : ∀ u ∈ us, u.oneCell' = true) (hx : a.eval x = .slice (some ⟨w.heap.size, 0, none⟩) 1 1) (hg : Gr a0 w) (h63 : n + 1 ≤ 4611686018427387904) (hbytes : (n + 1) * bytes ≤ 140737488355328)
    (h : ∀ v' w', w'.ownsRow a0.heap.size e size v' (n + 1) (xs ++ us) → Gr a0 w' → wpList P ops Q rest (a.put o.dst v') w') : wpList P ops Q (o :: rest) a (w.alloc (.cells us.toArray e)) := by
  refine wpList_append_own _ hgd s x t ho a0.heap.size e i z size bytes ht hi hz hsize hby hzs hsz v n xs hs (hown.alloc _) ⟨w.heap.size, 0, none⟩ 1 1 us hx (by rw [hul, Nat.one_mul]) ?_ h1 (by unfold maxLen; omega) hbytes (by have := hg.size; simp; omega)
    (fun v' w' h1 h2 _ => h v' w' h1 (gr_grown (hg.alloc _) h2 (ownBlock_ge hown)))
  intro j u hj
  have he : (⟨w.heap.size, 0, none⟩ : Addr).add j = ⟨w.heap.size, j, none⟩ := by
    unfold Addr.add
    split
    · rename_i h0; rw [h0]
    · simp
  rw [he, World.cell?_alloc_new]
  simpa using hj
theorem ownBlock_lt {w : World} {B : Nat} {e : TypeId} {size n : Nat} {v : Value} {xs : List Value} (h : w.ownsRow B e size v n xs) : ∀ k, v.ownBlock = some k → k < w.heap.size := by
  intro k hk
  rcases h.2 with ⟨rfl, _⟩ | ⟨b, cap, cur, rfl, _, hh, _⟩
  · cases hk
  · cases hk; exact (Array.getElem?_eq_some_iff.1 hh).1
/-- All blocks are as they were but, perhaps, the one that v leads to. -/
def KeepsBut (v : Value) (w w' : World) : Prop := ∀ k o, k < w.heap.size → v.ownBlock ≠ some k → w'.cell? ⟨k, o, none⟩ = w.cell? ⟨k, o, none⟩ ∧ w'.frozen? ⟨k, o, none⟩ = w.frozen? ⟨k, o, none⟩
/-- 'append_one', and what it leaves as it was. -/
theorem append_keep {P : Program} {a0 w : World} {ops : Array Oper} {rest : List Oper} {o : Oper} {a : Act} {Q : Exit → Act → World → Prop} (hgd : o.guard = none) (s x : Operand) (t : TypeId)
    (ho : o.op = .call { callee := .builtin .append, args := #[s, x], argTypes := #[t, t] }) (e : TypeId) (i : TypeInfo) (z : Value) (size bytes : Nat) (ht : P.underlying t = some (.slice e)) (hi : P.info? e = some i)
    (hz : i.zero = some z) (hsize : i.size = size) (hby : i.bytes = bytes) (hzs : z.cells.size = size) (hsz : 0 < size) (v : Value) (n : Nat) (xs : List Value) (hs : a.eval s = v) (hown : w.ownsRow a0.heap.size e size v n xs)
    (us : List Value) (hul : us.length = size) (h1 : ∀ u ∈ us, u.oneCell' = true) (hx : a.eval x = .slice (some ⟨w.heap.size, 0, none⟩) 1 1) (hg : Gr a0 w) (h63 : n + 1 ≤ 4611686018427387904) (hbytes : (n + 1) * bytes ≤ 140737488355328)
    (h : ∀ v' w', w'.ownsRow a0.heap.size e size v' (n + 1) (xs ++ us) → Gr a0 w' → KeepsBut v w w' → wpList P ops Q rest (a.put o.dst v') w') : wpList P ops Q (o :: rest) a (w.alloc (.cells us.toArray e)) := by
  refine wpList_append_own _ hgd s x t ho a0.heap.size e i z size bytes ht hi hz hsize hby hzs hsz v n xs hs (hown.alloc _) ⟨w.heap.size, 0, none⟩ 1 1 us hx (by rw [hul, Nat.one_mul]) ?_ h1 (by unfold maxLen; omega) hbytes (by have := hg.size; simp; omega)
    (fun v' w' h1 h2 _ => h v' w' h1 (gr_grown (hg.alloc _) h2 (ownBlock_ge hown)) (fun k o hk hne => by
      have hb : w'.heap[k]? = w.heap[k]? := (h2.block k (by simp; omega) (fun e => hne e.symm)).trans (Below.heap_alloc _ _ _ hk)
      exact ⟨World.cell?_of_block hb, World.frozen?_of_block hb⟩))
  intro j u hj
  have he : (⟨w.heap.size, 0, none⟩ : Addr).add j = ⟨w.heap.size, j, none⟩ := by
    unfold Addr.add
    split
    · rename_i h0; rw [h0]
    · simp
  rw [he, World.cell?_alloc_new]
  simpa using hj
/-- 'append(out, s...)', s a text. -/
theorem append_text {P : Program} {a0 w : World} {ops : Array Oper} {rest : List Oper} {o : Oper} {a : Act} {Q : Exit → Act → World → Prop} (hgd : o.guard = none) (sl x : Operand) (t u : TypeId)
    (ho : o.op = .call { callee := .builtin .append, args := #[sl, x], argTypes := #[t, u] }) (e : TypeId) (i : TypeInfo) (ht : P.underlying t = some (.slice e)) (hu : P.underlying u = some .string) (hi : P.info? e = some i) (hz : i.zero = some (.int .u8 0))
    (hsize : i.size = 1) (hby : i.bytes = 1) (v : Value) (n : Nat) (xs : List Value) (hs : a.eval sl = v) (hown : w.ownsRow a0.heap.size e 1 v n xs) (s : ByteArray) (hx : a.eval x = .string s) (hg : Gr a0 w)
    (hbytes : n + s.size ≤ 140737488355328)
    (h : ∀ v' w', w'.ownsRow a0.heap.size e 1 v' (n + s.size) (xs ++ Lib.strCells s) → Gr a0 w' → KeepsBut v w w' → wpList P ops Q rest (a.put o.dst v') w') : wpList P ops Q (o :: rest) a w :=
  Lib.wpList_append_own_string w hgd sl x t u ho a0.heap.size e i ht hu hi hz hsize hby v n xs hs hown s hx (by unfold maxLen; omega) hbytes hg.size
    fun v' w' h1 h2 _ => h v' w' h1 (gr_grown hg h2 (ownBlock_ge hown)) (fun k o hk hne => by
      have hb : w'.heap[k]? = w.heap[k]? := h2.block k hk (fun e => hne e.symm)
      exact ⟨World.cell?_of_block hb, World.frozen?_of_block hb⟩)
theorem empty_iff (s : ByteArray) : s.toList.isEmpty = s.data.toList.isEmpty := by rw [ByteArray.toList_eq]
end Go.Proofs.Ytkdplnbdhkckhaa
