/-
  Slices of one-cell elements, read and owned.
-/
import Derived.Test.YtcdoeninajpbmaaGreatDoorAux
import Derived.Test.YtcdoeninajpbmaaGreatDoorGrXX
import Derived.Lib.SliceRun
import Derived.Lib.AppendZeros
namespace Go.Proofs.YtcdoeninajpbmaaGreatDoor
open Go Go.RowKit

/-- A slice that holds these. -/
def RowV {α : Type} (enc : α → Value) (w : World) (v : Value) (xs : List α) : Prop :=
  (v = .slice none 0 0 ∧ xs = []) ∨ ∃ b off c, v = .slice (some ⟨b, off, none⟩) xs.length c ∧ b < w.heap.size ∧ ∀ i (h : i < xs.length), w.cell? ⟨b, off + i, none⟩ = some (enc xs[i])
theorem RowV.gr {α : Type} {enc : α → Value} {w w' : World} {v : Value} {xs : List α} (h : RowV enc w v xs) (g : Gr w w') : RowV enc w' v xs := by
  rcases h with h | ⟨b, off, c, h1, h2, h3⟩
  · exact .inl h
  · exact .inr ⟨b, off, c, h1, Nat.lt_of_lt_of_le h2 g.size, fun i hi => g.keeps (h3 i hi)⟩
/-- The block in which a slice lies, if any. -/
def RowV.off {α : Type} {enc : α → Value} {w : World} {v : Value} {xs : List α} (_ : RowV enc w v xs) (S : Nat → Prop) : Prop := ∀ k, v.ownBlock = some k → ¬ S k
theorem RowV.keepX {α : Type} {enc : α → Value} {S : Nat → Prop} {w w' : World} {v : Value} {xs : List α} (h : RowV enc w v xs) (g : GrX S w w') (hs : ∀ b off n c, v = .slice (some ⟨b, off, none⟩) n c → ¬ S b) : RowV enc w' v xs := by
  rcases h with h | ⟨b, off, c, h1, h2, h3⟩
  · exact .inl h
  · exact .inr ⟨b, off, c, h1, Nat.lt_of_lt_of_le h2 g.2.2.2.1, fun i hi => g.keeps (hs _ _ _ _ h1) (h3 i hi)⟩
theorem RowV.form {α : Type} {enc : α → Value} {w : World} {v : Value} {xs : List α} (h : RowV enc w v xs) : ∃ ao c, v = .slice ao xs.length c := by
  rcases h with ⟨rfl, rfl⟩ | ⟨b, off, c, rfl, _⟩
  · exact ⟨none, 0, rfl⟩
  · exact ⟨_, c, rfl⟩
theorem RowV.at {α : Type} {enc : α → Value} {w : World} {ao : Option Addr} {n c : Nat} {xs : List α} (h : RowV enc w (.slice ao n c) xs) {i : Nat} (hi : i < xs.length) : ∃ b off, ao = some ⟨b, off, none⟩ ∧ ∀ i (h : i < xs.length), w.cell? ⟨b, off + i, none⟩ = some (enc xs[i]) := by
  rcases h with ⟨_, rfl⟩ | ⟨b, off, c, h1, h2, h3⟩
  · exact absurd hi (by simp)
  · injection h1 with e1 e2 e3
    exact ⟨b, off, e1, h3⟩
/-- A slice of the call's own. -/
def OwnV {α : Type} (enc : α → Value) (e : TypeId) (a0 w : World) (v : Value) (xs : List α) : Prop := w.ownsRow a0.heap.size e 1 v xs.length (xs.map enc)
theorem OwnV.gr {α : Type} {enc : α → Value} {e : TypeId} {a0 w w' : World} {v : Value} {xs : List α} (h : OwnV enc e a0 w v xs) (g : Gr w w') : OwnV enc e a0 w' v xs := ownsRow_gr h g
theorem OwnV.row {α : Type} {enc : α → Value} {e : TypeId} {a0 w : World} {v : Value} {xs : List α} (h : OwnV enc e a0 w v xs) : RowV enc w v xs := by
  have hlt := ownBlock_lt h
  rcases h.2 with ⟨rfl, h0⟩ | ⟨b, cap, cur, rfl, h1, h2, h3, h4, h5, h6⟩
  · exact .inl ⟨rfl, List.length_eq_zero_iff.1 h0⟩
  · refine .inr ⟨b, 0, cap, rfl, hlt b rfl, fun i hi => ?_⟩
    have h7 : w.cell? ⟨b, 0 + i, none⟩ = cur[0 + i]? := by simp [World.cell?, h2]
    rw [h7, Nat.zero_add]
    have h8 : (List.take (xs.length * 1) cur.toList)[i]? = (xs.map enc)[i]? := by rw [h6]
    rw [List.getElem?_take_of_lt (by omega)] at h8
    simpa [hi] using h8
theorem OwnV.snoc {α : Type} {enc : α → Value} {e : TypeId} {a0 w : World} {v : Value} {xs : List α} {x : α} (h : w.ownsRow a0.heap.size e 1 v (xs.length + 1) (xs.map enc ++ [enc x])) : OwnV enc e a0 w v (xs ++ [x]) := by
  show w.ownsRow _ _ 1 v (xs ++ [x]).length ((xs ++ [x]).map enc)
  rw [List.length_append, List.map_append]
  exact h
theorem ownV_nil {α : Type} (enc : α → Value) (e : TypeId) (a0 w : World) : OwnV enc e a0 w (.slice none 0 0) [] := World.ownsRow_nil _ _ _ _
theorem rowV_box {α : Type} (enc : α → Value) (w : World) (x : α) (e : TypeId) : RowV enc (w.alloc (.cells #[enc x] e)) (.slice (some ⟨w.heap.size, 0, none⟩) 1 1) [x] :=
  .inr ⟨w.heap.size, 0, 1, rfl, by simp, fun i hi => by
    have : i = 0 := by simpa using hi
    subst this
    rw [World.cell?_alloc_new]
    rfl⟩
theorem ownV_box {α : Type} (enc : α → Value) (w : World) (x : α) (e : TypeId) : OwnV enc e w (w.alloc (.cells #[enc x] e)) (.slice (some ⟨w.heap.size, 0, none⟩) 1 1) [x] :=
  World.ownsRow_lit w #[enc x] 1 (Nat.le_refl _) (by decide) rfl
theorem OwnV.back {α : Type} {enc : α → Value} {e : TypeId} {a0 a1 w : World} {v : Value} {xs : List α} (h : OwnV enc e a1 w v xs) (g : Gr a0 a1) : OwnV enc e a0 w v xs := by
  obtain ⟨h1, h2⟩ := h
  refine ⟨h1, ?_⟩
  rcases h2 with h2 | ⟨b, cap, cur, hv, hb, r⟩
  · exact .inl h2
  · exact .inr ⟨b, cap, cur, hv, Nat.le_trans g.size hb, r⟩
/-- 'append(s, x...)', s the call's own. -/
theorem append_row {α : Type} {enc : α → Value} {a0 w : World} {ops : Array Oper} {rest : List Oper} {o : Oper} {a : Act} {Q : Exit → Act → World → Prop} (hgd : o.guard = none) (s x : Operand) (t e : TypeId) (z : Value) (nb : Nat)
    (ht : Tryz.prog.underlying t = some (.slice e)) (hinf : (Tryz.prog.info? e).map (fun i => (i.zero, i.size, i.bytes)) = some (some z, 1, nb)) (hzs : z.cells.size = 1) (h1 : ∀ x, (enc x).oneCell' = true) (hnb : nb ≤ 16)
    (ho : o.op = .call { callee := .builtin .append, args := #[s, x], argTypes := #[t, t] }) (v : Value) (us : List α) (hs : a.eval s = v) (hown : OwnV enc e a0 w v us)
    (vs : Value) (xs : List α) (hx : a.eval x = vs) (hi : RowV enc w vs xs) (hl : us.length + xs.length ≤ 1000000) (hg : Gr a0 w)
    (h : ∀ v' w', OwnV enc e a0 w' v' (us ++ xs) → Gr a0 w' → KeepsBut v w w' → wpList Tryz.prog ops Q rest (a.put o.dst v') w') : wpList Tryz.prog ops Q (o :: rest) a w := by
  obtain ⟨i0, hinf, hz0, hz1, hz2⟩ := info_parts hinf
  rcases hi with ⟨rfl, rfl⟩ | ⟨b, off, c, rfl, hb, hp⟩
  · rw [List.append_nil] at h
    exact Lib.wpList_append_run w hgd s x t t ho v (.slice none 0 0) hs hx v w (run_append_owned_none w a0.heap.size t o.type e i0 1 ht hinf v us.length (us.map enc) hown) (h v w hown hg (fun k o _ _ => ⟨rfl, rfl⟩))
  · have hbytes : (us.length + xs.length) * nb ≤ 140737488355328 := by
      have := Nat.mul_le_mul hl hnb
      omega
    refine wpList_append_own w hgd s x t ho a0.heap.size e i0 z 1 nb ht hinf hz0 hz1 hz2 hzs (by decide) v us.length (us.map enc) hs hown ⟨b, off, none⟩ xs.length c (xs.map enc) hx (by simp) ?_ (by intro u hu; obtain ⟨y, _, rfl⟩ := List.mem_map.1 hu; exact h1 y) (by unfold maxLen; omega) hbytes hg.size
      (fun v' w' h1 h2 _ => h v' w' ?_ (gr_grown hg h2 (ownBlock_ge hown)) (fun k o hk hne => ?_))
    · intro j u hj
      have hj2 : j < xs.length := by
        have := (List.getElem?_eq_some_iff.1 hj).1
        simpa using this
      have he : (⟨b, off, none⟩ : Addr).add j = ⟨b, off + j, none⟩ := by
        unfold Addr.add
        split <;> simp_all
      rw [he, hp j hj2]
      simpa [hj2] using hj
    · show w'.ownsRow _ _ 1 v' (us ++ xs).length ((us ++ xs).map enc)
      rw [List.length_append, List.map_append]
      exact h1
    · have hb : w'.heap[k]? = w.heap[k]? := h2.block k hk (fun e => hne e.symm)
      exact ⟨World.cell?_of_block hb, World.frozen?_of_block hb⟩
theorem info_str : (Tryz.prog.info? 9).map (fun i => (i.zero, i.size, i.bytes)) = some (some (.string ⟨#[]⟩), 1, 16) := by kernel_rfl
theorem info_int1 : (Tryz.prog.info? 3).map (fun i => (i.zero, i.size, i.bytes)) = some (some (.int .i64 0), 1, 8) := by kernel_rfl
/-- A number as a value. -/
def natV (n : Nat) : Value := .int .i64 (n : Int)
end Go.Proofs.YtcdoeninajpbmaaGreatDoor
