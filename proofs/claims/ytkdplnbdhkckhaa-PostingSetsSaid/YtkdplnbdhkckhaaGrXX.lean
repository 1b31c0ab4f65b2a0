/-
  What a call does that writes to some blocks of those that were there, and to no others.
-/
import Derived.Test.YtkdplnbdhkckhaaLib
namespace Go.Proofs.Ytkdplnbdhkckhaa
open Go Go.RowKit

def GrX (S : Nat → Prop) (w w' : World) : Prop := w'.os = w.os ∧ w'.tape = w.tape ∧ w'.output = w.output ∧ w.heap.size ≤ w'.heap.size ∧ ∀ k, k < w.heap.size → ¬ S k → w'.heap[k]? = w.heap[k]?
theorem GrX.refl (S : Nat → Prop) (w : World) : GrX S w w := ⟨rfl, rfl, rfl, Nat.le_refl _, fun _ _ _ => rfl⟩
theorem GrX.trans {S : Nat → Prop} {a b c : World} (h : GrX S a b) (k : GrX S b c) : GrX S a c :=
  ⟨k.1.trans h.1, k.2.1.trans h.2.1, k.2.2.1.trans h.2.2.1, Nat.le_trans h.2.2.2.1 k.2.2.2.1, fun i hi hs => (k.2.2.2.2 i (Nat.lt_of_lt_of_le hi h.2.2.2.1) hs).trans (h.2.2.2.2 i hi hs)⟩
theorem GrX.of_gr {S : Nat → Prop} {w w' : World} (g : Gr w w') : GrX S w w' := ⟨g.os, g.tape, g.output, g.size, fun k hk _ => g.block k hk⟩
theorem GrX.of_grown {S : Nat → Prop} {w w' : World} {B : Nat} (g : w.grownBy w' (some B)) (hB : S B) : GrX S w w' := ⟨g.os, g.tape, g.output, g.size, fun k hk hs => g.block k hk (fun e => hs (by have := Option.some.inj e; rw [this]; exact hB))⟩
theorem GrX.setCell {S : Nat → Prop} (w : World) {p : Addr} (u : Value) (h : S p.block) : GrX S w (w.setCell p u) := ⟨rfl, rfl, rfl, by simp, fun k _ hs => Below.heap_setCell _ _ _ _ (fun e => hs (by rw [e]; exact h))⟩
theorem GrX.drew {S : Nat → Prop} (w : World) : GrX S w w.drew := GrX.of_gr (Gr.refl w).drew
theorem GrX.gr {S : Nat → Prop} {w w' w0 : World} (g : GrX S w w') (g0 : Gr w0 w) (h : ∀ k, S k → w0.heap.size ≤ k) : Gr w0 w' :=
  Below.trans g0 ⟨g.1, g.2.1, g.2.2.1, g.2.2.2.1, fun k hk => g.2.2.2.2 k (Nat.lt_of_lt_of_le hk g0.size) (fun hs => absurd (h k hs) (by omega))⟩
theorem GrX.block {S : Nat → Prop} {w w' : World} (g : GrX S w w') {k : Nat} (hk : k < w.heap.size) (hs : ¬ S k) : w'.heap[k]? = w.heap[k]? := g.2.2.2.2 k hk hs
theorem GrX.keeps {S : Nat → Prop} {w w' : World} (g : GrX S w w') {b o : Nat} {v : Value} (hs : ¬ S b) (hc : w.cell? ⟨b, o, none⟩ = some v) : w'.cell? ⟨b, o, none⟩ = some v :=
  (World.cell?_of_block (g.block (lt_of_cell hc) hs)).trans hc
theorem GrX.frozen {S : Nat → Prop} {w w' : World} (g : GrX S w w') {b : Nat} (o : Nat) (hb : b < w.heap.size) (hs : ¬ S b) : w'.frozen? ⟨b, o, none⟩ = w.frozen? ⟨b, o, none⟩ := World.frozen?_of_block (g.block hb hs)
end Go.Proofs.Ytkdplnbdhkckhaa
