/-
  What is looked for, in memory; the parser's steps.
-/
import Derived.Test.YthenhglpljdhfaaDoorMtR
import Derived.Test.YthenhglpljdhfaaDoorWordL
import Derived.Test.YthenhglpljdhfaaDoorGrX
namespace Go.Proofs.YthenhglpljdhfaaDoor
open Go Go.RowKit

/-- A list of texts, behind block N. -/
def WordsAt (N : Nat) (w : World) (v : Value) (ws : List ByteArray) : Prop :=
  ∃ (ao : Option Addr) (c b : Nat), v = .slice ao ws.length c ∧ (0 < ws.length → ao = some ⟨b, 0, none⟩ ∧ N < b) ∧ StrsAt w b 0 ws
/-- A query in memory, as match has it. -/
def QAt (N : Nat) (w : World) : Qy → Nat → Prop
  | .leaf kind ws far, b => N < b ∧ w.cell? ⟨b, 0, none⟩ = some (.int .i64 kind) ∧ (∃ v, w.cell? ⟨b, 1, none⟩ = some v ∧ WordsAt N w v ws) ∧ w.cell? ⟨b, 2, none⟩ = some (.int .i64 far) ∧ w.cell? ⟨b, 3, none⟩ = some (.pointer none) ∧ w.cell? ⟨b, 4, none⟩ = some (.pointer none)
  | .node kind l r, b => N < b ∧ w.cell? ⟨b, 0, none⟩ = some (.int .i64 kind) ∧ w.cell? ⟨b, 1, none⟩ = some (.slice none 0 0) ∧ w.cell? ⟨b, 2, none⟩ = some (.int .i64 0) ∧
      ∃ bl br, w.cell? ⟨b, 3, none⟩ = some (.pointer (some ⟨bl, 0, none⟩)) ∧ w.cell? ⟨b, 4, none⟩ = some (.pointer (some ⟨br, 0, none⟩)) ∧ QAt N w l bl ∧ QAt N w r br
/-- .. as the document has it. -/
def RAt (N : Nat) (w : World) : Qy → Nat → Prop
  | .leaf kind ws _, b => N < b ∧ w.cell? ⟨b, 0, none⟩ = some (.int .i64 kind) ∧ (∃ v, w.cell? ⟨b, 1, none⟩ = some v ∧ WordsAt N w v ws) ∧ w.cell? ⟨b, 2, none⟩ = some (.pointer none) ∧ w.cell? ⟨b, 3, none⟩ = some (.pointer none)
  | .node kind l r, b => N < b ∧ w.cell? ⟨b, 0, none⟩ = some (.int .i64 kind) ∧ w.cell? ⟨b, 1, none⟩ = some (.slice none 0 0) ∧
      ∃ bl br, w.cell? ⟨b, 2, none⟩ = some (.pointer (some ⟨bl, 0, none⟩)) ∧ w.cell? ⟨b, 3, none⟩ = some (.pointer (some ⟨br, 0, none⟩)) ∧ RAt N w l bl ∧ RAt N w r br
/-- What a step of the parser whose block is N may turn. -/
abbrev GrN (N : Nat) (w w' : World) : Prop := GrX (fun i => i = N) w w'
theorem StrsAt.grN {N : Nat} {w w' : World} {b off : Nat} {ws : List ByteArray} (h : StrsAt w b off ws) (g : GrN N w w') (hb : 0 < ws.length → b ≠ N) : StrsAt w' b off ws := fun i hi => g.keeps (hb (by omega)) (h i hi)
theorem WordsAt.grN {N : Nat} {w w' : World} {v : Value} {ws : List ByteArray} (h : WordsAt N w v ws) (g : GrN N w w') : WordsAt N w' v ws := by
  obtain ⟨ao, c, b, h1, h2, h3⟩ := h
  exact ⟨ao, c, b, h1, h2, h3.grN g fun hp => by have := (h2 hp).2; omega⟩
theorem QAt.grN {N : Nat} {w w' : World} (g : GrN N w w') : ∀ (q : Qy) (b : Nat), QAt N w q b → QAt N w' q b
  | .leaf kind ws far, b, ⟨h0, h1, ⟨v, h2, h3⟩, h4, h5, h6⟩ => ⟨h0, g.keeps (by omega) h1, ⟨v, g.keeps (by omega) h2, h3.grN g⟩, g.keeps (by omega) h4, g.keeps (by omega) h5, g.keeps (by omega) h6⟩
  | .node kind l r, b, ⟨h0, h1, h2, h3, bl, br, h4, h5, h6, h7⟩ => ⟨h0, g.keeps (by omega) h1, g.keeps (by omega) h2, g.keeps (by omega) h3, bl, br, g.keeps (by omega) h4, g.keeps (by omega) h5, QAt.grN g l bl h6, QAt.grN g r br h7⟩
theorem RAt.grN {N : Nat} {w w' : World} (g : GrN N w w') : ∀ (q : Qy) (b : Nat), RAt N w q b → RAt N w' q b
  | .leaf kind ws far, b, ⟨h0, h1, ⟨v, h2, h3⟩, h4, h5⟩ => ⟨h0, g.keeps (by omega) h1, ⟨v, g.keeps (by omega) h2, h3.grN g⟩, g.keeps (by omega) h4, g.keeps (by omega) h5⟩
  | .node kind l r, b, ⟨h0, h1, h2, bl, br, h4, h5, h6, h7⟩ => ⟨h0, g.keeps (by omega) h1, g.keeps (by omega) h2, bl, br, g.keeps (by omega) h4, g.keeps (by omega) h5, RAt.grN g l bl h6, RAt.grN g r br h7⟩
theorem wordsAt_own {N B : Nat} {w : World} {v : Value} {ws : List ByteArray} (h : OwnS w B v ws) (hN : N < B) : WordsAt N w v ws := by
  obtain ⟨ao, c, b, h1, h2, h3⟩ := own_open h
  refine ⟨ao, c, b, h1, fun hp => ⟨h2 hp, ?_⟩, h3⟩
  have := ownBlock_ge h b (by rw [h1, h2 hp]; rfl)
  omega
/-- The parser's block: what is left to read. -/
def PAt (N : Nat) (w : World) (l : List ByteArray) : Prop :=
  ∃ (ao : Option Addr) (c b off : Nat), w.cell? ⟨N, 0, none⟩ = some (.slice ao l.length c) ∧ l.length ≤ c ∧ (0 < l.length → ao = some ⟨b, off, none⟩) ∧ (0 < l.length → b ≠ N) ∧ StrsAt w b off l ∧ w.frozen? ⟨N, 0, none⟩ = false
theorem PAt.gr {N : Nat} {w w' : World} {l : List ByteArray} (h : PAt N w l) (g : Gr w w') : PAt N w' l := by
  obtain ⟨ao, c, b, off, h1, h2, h3, h4, h5, h6⟩ := h
  exact ⟨ao, c, b, off, g.keeps h1, h2, h3, h4, h5.gr g, (g.frozen 0 (lt_of_cell h1)).trans h6⟩
set_option maxRecDepth 100000 in
theorem next_t (N : Nat) (l : List ByteArray) (hl : l.length ≤ 1000) (w : World) (h : PAt N w l) : Calls Tryd.prog 77 #[.pointer (some ⟨N, 0, none⟩)] w fun e w' => e = .returned (.string (pkB l)) ∧ w' = w := by
  obtain ⟨ao, c, b, off, h1, h2, h3, h4, h5, h6⟩ := h
  cases l with
  | nil =>
    clear h3 h4 h5
    go_enter Tryd.func77, Tryd.ntmps77
    go_wp2_with fail
    go_ret
    exact ⟨rfl, rfl⟩
  | cons a t =>
    obtain rfl := h3 (by simp)
    have h7 := h5 0 (by simp)
    simp only [List.getElem_cons_zero, Nat.add_zero] at h7
    have h8 : ((((a :: t).length : Nat) : Int) == 0) = false := by rw [Bool.eq_false_iff]; intro h; have := beq_iff_eq.1 h; simp at this; omega
    have h9 : 0 < (a :: t).length := by simp
    show Calls _ _ _ _ fun e w' => e = .returned (.string a) ∧ w' = w
    generalize (a :: t).length = m at *
    clear h3 h4 h5
    go_enter Tryd.func77, Tryd.ntmps77
    go_wp2_with fail
    go_ret
    exact ⟨rfl, rfl⟩
theorem PAt.step {N : Nat} {w : World} {a : ByteArray} {t : List ByteArray} {b off c' : Nat} {ao' : Option Addr} {u : Value} (h5 : StrsAt w b off (a :: t)) (hb : b ≠ N) (h1 : w.cell? ⟨N, 0, none⟩ = some u) (h6 : w.frozen? ⟨N, 0, none⟩ = false) (hc : t.length ≤ c') (hao : 0 < t.length → ao' = some ⟨b, off + 1, none⟩) :
    PAt N (w.setCell ⟨N, 0, none⟩ (.slice ao' t.length c')) t := by
  refine ⟨ao', c', b, off + 1, World.cell?_setCell_same _ _ _ h1, hc, hao, fun _ => hb, fun i hi => ?_, by rw [World.frozen?_setCell]; exact h6⟩
  have := h5 (i + 1) (by simp; omega)
  rw [World.cell?_setCell_other _ _ _ _ (by simp)]
  rw [show off + 1 + i = off + (i + 1) by omega]
  simpa using this
set_option maxRecDepth 100000 in
theorem take_yes (N : Nat) (a : ByteArray) (t : List ByteArray) (hl : (a :: t).length ≤ 1000) (w : World) (h : PAt N w (a :: t)) : Calls Tryd.prog 98 #[.pointer (some ⟨N, 0, none⟩), .string a] w fun e w' => e = .returned (.bool true) ∧ PAt N w' t ∧ GrN N w w' := by
  have hn := next_t N (a :: t) hl w h
  rw [show pkB (a :: t) = a from rfl] at hn
  obtain ⟨ao, c, b, off, h1, h2, h3, h4, h5, h6⟩ := h
  obtain rfl := h3 (by simp)
  have hb := h4 (by simp)
  have H5 := Lib.hid h5
  have hlen : (a :: t).length = t.length + 1 := rfl
  rw [hlen] at h1 h2
  clear h3 h4 h5
  go_enter Tryd.func98, Tryd.ntmps98
  go_wp2_with (go_at_call 77; refine hn.mono ?_; rintro e w1 ⟨rfl, rfl⟩)
  all_goals
    go_ret
    refine ⟨rfl, PAt.step H5.out hb h1 h6 (by omega) ?_, GrX.setCell _ _ rfl⟩
    intro hp
    first | rfl | omega
set_option maxRecDepth 100000 in
theorem take_no (N : Nat) (l : List ByteArray) (s : ByteArray) (hl : l.length ≤ 1000) (w : World) (h : PAt N w l) (hs : pkB l ≠ s) : Calls Tryd.prog 98 #[.pointer (some ⟨N, 0, none⟩), .string s] w fun e w' => e = .returned (.bool false) ∧ w' = w := by
  have hn := next_t N l hl w h
  generalize pkB l = a at *
  have hne : (a.toList == s.toList) = false := by
    rw [Bool.eq_false_iff]
    intro h
    exact hs (bytes_ext (by rw [beq_iff_eq, ByteArray.toList_eq, ByteArray.toList_eq] at h; exact h))
  clear h hs
  go_enter Tryd.func98, Tryd.ntmps98
  go_wp2_with (go_at_call 77; refine hn.mono ?_; rintro e w1 ⟨rfl, rfl⟩)
  go_ret
  exact ⟨rfl, rfl⟩
end Go.Proofs.YthenhglpljdhfaaDoor
