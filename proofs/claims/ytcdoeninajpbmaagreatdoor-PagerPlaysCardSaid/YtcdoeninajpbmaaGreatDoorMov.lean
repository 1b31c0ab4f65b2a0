/-
  An append to one of a call's own slices leaves the others as they were, and apart.
-/
import Derived.Test.YtcdoeninajpbmaaGreatDoorRowV
import Derived.Maps.AppendAt
namespace Go.Proofs.YtcdoeninajpbmaaGreatDoor
open Go Go.RowKit

/-- Of all blocks that are not v's: as they were, and not those of v'. -/
def MovedB (v v' : Value) (w w' : World) : Prop := w.heap.size ≤ w'.heap.size ∧ ∀ k, k < w.heap.size → v.ownBlock ≠ some k → v'.ownBlock ≠ some k ∧ w'.heap[k]? = w.heap[k]?
theorem OwnV.moved {α : Type} {enc : α → Value} {e : TypeId} {a0 w w' : World} {u v v' : Value} {ys : List α} (h : OwnV enc e a0 w u ys) (hd : ∀ b, u.ownBlock = some b → v.ownBlock ≠ some b) (m : MovedB v v' w w') : OwnV enc e a0 w' u ys ∧ ∀ b, u.ownBlock = some b → v'.ownBlock ≠ some b := by
  have hlt := ownBlock_lt h
  obtain ⟨h1, h2⟩ := h
  constructor
  · refine ⟨h1, ?_⟩
    rcases h2 with h2 | ⟨b, cap, cur, hv, hb, hh, r⟩
    · exact .inl h2
    · have e : u.ownBlock = some b := by rw [hv]; rfl
      exact .inr ⟨b, cap, cur, hv, hb, by rw [(m.2 b (hlt b e) (hd b e)).2]; exact hh, r⟩
  · intro b e
    exact (m.2 b (hlt b e) (hd b e)).1
/-- 'append(s, x)', s the call's own, x just laid. -/
theorem append_v {α : Type} {enc : α → Value} {a0 w : World} {ops : Array Oper} {rest : List Oper} {o : Oper} {a : Act} {Q : Exit → Act → World → Prop} (hgd : o.guard = none) (s x : Operand) (t e : TypeId) (z : Value) (nb : Nat)
    (ht : Tryz.prog.underlying t = some (.slice e)) (hinf : (Tryz.prog.info? e).map (fun i => (i.zero, i.size, i.bytes)) = some (some z, 1, nb)) (hzs : z.cells.size = 1) (hnb : nb ≤ 16)
    (ho : o.op = .call { callee := .builtin .append, args := #[s, x], argTypes := #[t, t] }) (v : Value) (us : List α) (hs : a.eval s = v) (hown : OwnV enc e a0 w v us) (y : α) (h1 : (enc y).oneCell' = true)
    (hx : a.eval x = .slice (some ⟨w.heap.size, 0, none⟩) 1 1) (hl : us.length ≤ 1000000) (hg : Gr a0 w)
    (h : ∀ v' w', OwnV enc e a0 w' v' (us ++ [y]) → Gr a0 w' → MovedB v v' w w' → wpList Tryz.prog ops Q rest (a.put o.dst v') w') : wpList Tryz.prog ops Q (o :: rest) a (w.alloc (.cells #[enc y] e)) := by
  obtain ⟨i0, hinf, hz0, hz1, hz2⟩ := info_parts hinf
  have hbytes : (us.length + 1) * nb ≤ 140737488355328 := by
    have := Nat.mul_le_mul (show us.length + 1 ≤ 1000001 by omega) hnb
    omega
  refine wpList_append_own_at _ hgd s x t ho a0.heap.size e i0 z 1 nb ht hinf hz0 hz1 hz2 hzs (by decide) v us.length (us.map enc) hs (World.ownsRow.alloc hown _) ⟨w.heap.size, 0, none⟩ 1 1 [enc y] hx rfl ?_ (by simpa using h1) (by unfold maxLen; omega) hbytes (by have := hg.size; simp; omega)
    (fun v' w' h1 h2 _ h4 => h v' w' (OwnV.snoc h1) (gr_grown (hg.alloc _) h2 (ownBlock_ge hown)) ⟨by have := h2.size; simp at this; omega, fun k hk hne => ⟨fun e => by
      rcases h4 with h4 | h4
      · exact hne (h4.symm.trans e)
      · rw [h4] at e
        have := Option.some.inj e
        simp at this
        omega, (h2.block k (by simp; omega) (fun e => hne e.symm)).trans (Below.heap_alloc _ _ _ hk)⟩⟩)
  intro j u hj
  have he : (⟨w.heap.size, 0, none⟩ : Addr).add j = ⟨w.heap.size, j, none⟩ := by
    unfold Addr.add
    split
    · rename_i h0; rw [h0]
    · simp
  rw [he, World.cell?_alloc_new]
  simpa using hj
end Go.Proofs.YtcdoeninajpbmaaGreatDoor
