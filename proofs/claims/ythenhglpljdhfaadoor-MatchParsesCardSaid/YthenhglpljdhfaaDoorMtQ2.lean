/-
  What the parser has left to read, one piece further on; texts and signs.
-/
import Derived.Test.YthenhglpljdhfaaDoorMtQ
import Derived.WalkSpells
namespace Go.Proofs.YthenhglpljdhfaaDoor
open Go Go.RowKit

theorem PAt.rest {N : Nat} {w : World} {a : ByteArray} {t : List ByteArray} (h : PAt N w (a :: t)) : ∃ (ao : Option Addr) (c : Nat) (ao' : Option Addr) (c' : Nat), w.cell? ⟨N, 0, none⟩ = some (.slice ao (t.length + 1) c) ∧ w.frozen? ⟨N, 0, none⟩ = false ∧
    (∀ W, (Instr.slice 24 (.slice ao (t.length + 1) c) (some (.int .i64 1)) none none).run Tryd.prog W = .ok (.slice ao' t.length c') W) ∧ PAt N (w.setCell ⟨N, 0, none⟩ (.slice ao' t.length c')) t := by
  obtain ⟨ao, c, b, off, h1, h2, h3, h4, h5, h6⟩ := h
  obtain rfl := h3 (by simp)
  have hlen : (a :: t).length = t.length + 1 := rfl
  rw [hlen] at h1 h2
  refine ⟨_, c, (if c = 1 then some ⟨b, off, none⟩ else some ⟨b, off + 1, none⟩), c - 1, h1, h6, fun W => ?_, PAt.step h5 (h4 (by simp)) h1 h6 (by omega) fun hp => if_neg (by omega)⟩
  have hr := run_slice_l (P := Tryd.prog) (w := W) 24 (some ⟨b, off, none⟩) (t.length + 1) c (by kernel_rfl) .i64 1 (by omega) (by omega)
  refine hr.trans ?_
  rw [show (Go.sizeOf (Tryd.prog.elem 24)).run Tryd.prog W = .ok 1 W by kernel_rfl]
  simp [Result.andThen, sliced, Addr.add]
theorem tl_iff (s : ByteArray) (k : List UInt8) : s.toList = k ↔ s = bsL k := by
  rw [ByteArray.toList_eq]
  constructor
  · intro h
    exact bytes_ext (by rw [bsL_data]; exact h)
  · intro h
    rw [h, bsL_data]
theorem tl_none (s : ByteArray) : s.toList.isEmpty = decide (s = sNone) := by
  rw [Bool.eq_iff_iff, decide_eq_true_eq, List.isEmpty_iff]
  exact tl_iff s []
theorem leaf_new {N : Nat} {w : World} {v : Value} {ws : List ByteArray} (kind far : Int) (hw : WordsAt N w v ws) (hN : N < w.heap.size) (T : TypeId) :
    QAt N (w.alloc (.cells #[.int .i64 kind, v, .int .i64 far, .pointer none, .pointer none] T)) (.leaf kind ws far) w.heap.size :=
  ⟨hN, by rw [World.cell?_alloc_new]; rfl, ⟨v, by rw [World.cell?_alloc_new]; rfl, hw.grN (GrX.of_gr ((Gr.refl w).alloc _))⟩, by rw [World.cell?_alloc_new]; rfl, by rw [World.cell?_alloc_new]; rfl, by rw [World.cell?_alloc_new]; rfl⟩
theorem node_new {N : Nat} {w : World} {q1 q2 : Qy} {b1 b2 : Nat} (kind : Int) (h1 : QAt N w q1 b1) (h2 : QAt N w q2 b2) (hN : N < w.heap.size) (T : TypeId) :
    QAt N (w.alloc (.cells #[.int .i64 kind, .slice none 0 0, .int .i64 0, .pointer (some ⟨b1, 0, none⟩), .pointer (some ⟨b2, 0, none⟩)] T)) (.node kind q1 q2) w.heap.size :=
  ⟨hN, by rw [World.cell?_alloc_new]; rfl, by rw [World.cell?_alloc_new]; rfl, by rw [World.cell?_alloc_new]; rfl, b1, b2, by rw [World.cell?_alloc_new]; rfl, by rw [World.cell?_alloc_new]; rfl, QAt.grN (GrX.of_gr ((Gr.refl w).alloc _)) _ _ h1, QAt.grN (GrX.of_gr ((Gr.refl w).alloc _)) _ _ h2⟩
theorem rleaf_new {N : Nat} {w : World} {v : Value} {ws : List ByteArray} (kind far : Int) (hw : WordsAt N w v ws) (hN : N < w.heap.size) (T : TypeId) :
    RAt N (w.alloc (.cells #[.int .i64 kind, v, .pointer none, .pointer none] T)) (.leaf kind ws far) w.heap.size :=
  ⟨hN, by rw [World.cell?_alloc_new]; rfl, ⟨v, by rw [World.cell?_alloc_new]; rfl, hw.grN (GrX.of_gr ((Gr.refl w).alloc _))⟩, by rw [World.cell?_alloc_new]; rfl, by rw [World.cell?_alloc_new]; rfl⟩
theorem rnode_new {N : Nat} {w : World} {q1 q2 : Qy} {b1 b2 : Nat} (kind : Int) (h1 : RAt N w q1 b1) (h2 : RAt N w q2 b2) (hN : N < w.heap.size) (T : TypeId) :
    RAt N (w.alloc (.cells #[.int .i64 kind, .slice none 0 0, .pointer (some ⟨b1, 0, none⟩), .pointer (some ⟨b2, 0, none⟩)] T)) (.node kind q1 q2) w.heap.size :=
  ⟨hN, by rw [World.cell?_alloc_new]; rfl, by rw [World.cell?_alloc_new]; rfl, b1, b2, by rw [World.cell?_alloc_new]; rfl, by rw [World.cell?_alloc_new]; rfl, RAt.grN (GrX.of_gr ((Gr.refl w).alloc _)) _ _ h1, RAt.grN (GrX.of_gr ((Gr.refl w).alloc _)) _ _ h2⟩
theorem words_one {N : Nat} {w : World} (a : ByteArray) (hN : N < w.heap.size) (T : TypeId) : WordsAt N (w.alloc (.cells #[.string a] T)) (.slice (some ⟨w.heap.size, 0, none⟩) 1 1) [a] := by
  refine ⟨_, 1, w.heap.size, rfl, fun _ => ⟨rfl, hN⟩, fun i hi => ?_⟩
  obtain rfl : i = 0 := by simp at hi; omega
  rw [World.cell?_alloc_new]
  rfl
theorem words_two {N : Nat} {w : World} (a b : ByteArray) (hN : N < w.heap.size) (T : TypeId) : WordsAt N (w.alloc (.cells #[.string a, .string b] T)) (.slice (some ⟨w.heap.size, 0, none⟩) 2 2) [a, b] := by
  refine ⟨_, 2, w.heap.size, rfl, fun _ => ⟨rfl, hN⟩, fun i hi => ?_⟩
  rw [World.cell?_alloc_new]
  rcases (show i = 0 ∨ i = 1 by simp at hi; omega) with rfl | rfl <;> rfl
end Go.Proofs.YthenhglpljdhfaaDoor
