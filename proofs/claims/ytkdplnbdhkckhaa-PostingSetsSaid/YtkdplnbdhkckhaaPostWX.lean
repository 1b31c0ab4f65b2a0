/-
  Contracts of number, seven, Write and WritePlaces.
-/
import Derived.Test.YtkdplnbdhkckhaaPostX
import Derived.Test.YtkdplnbdhkckhaaAux
import Derived.Test.YtkdplnbdhkckhaaPostRX
import Derived.Deep.RegionWith
import Derived.Laws.Concat
import Derived.Maps.AppendAt
namespace Go.Proofs.Ytkdplnbdhkckhaa
open Go Go.RowKit

/-- Of all blocks that are not v's: as they were, and not those of v'. -/
def Moved (v v' : Value) (w w' : World) : Prop := w.heap.size ≤ w'.heap.size ∧ ∀ k, k < w.heap.size → v.ownBlock ≠ some k → v'.ownBlock ≠ some k ∧ ∀ o, w'.cell? ⟨k, o, none⟩ = w.cell? ⟨k, o, none⟩ ∧ w'.frozen? ⟨k, o, none⟩ = w.frozen? ⟨k, o, none⟩
theorem Moved.refl (v : Value) (w : World) : Moved v v w w := ⟨Nat.le_refl _, fun _ _ h => ⟨h, fun _ => ⟨rfl, rfl⟩⟩⟩
theorem Moved.trans {v v' v'' : Value} {w w' w'' : World} (h : Moved v v' w w') (h' : Moved v' v'' w' w'') : Moved v v'' w w'' :=
  ⟨Nat.le_trans h.1 h'.1, fun k hk hv => by
    have a := h.2 k hk hv
    have b := h'.2 k (Nat.lt_of_lt_of_le hk h.1) a.1
    exact ⟨b.1, fun o => ⟨(b.2 o).1.trans (a.2 o).1, (b.2 o).2.trans (a.2 o).2⟩⟩⟩
theorem Moved.keeps {v v' : Value} {w w' : World} (h : Moved v v' w w') {k o : Nat} {u : Value} (hv : v.ownBlock ≠ some k) (hc : w.cell? ⟨k, o, none⟩ = some u) : w'.cell? ⟨k, o, none⟩ = some u :=
  (((h.2 k (lt_of_cell hc) hv).2 o).1).trans hc
/-- 'append_one', and what it leaves as it was, and where the new slice lies not. -/
theorem append_moved {P : Program} {a0 w : World} {ops : Array Oper} {rest : List Oper} {o : Oper} {a : Act} {Q : Exit → Act → World → Prop} (hgd : o.guard = none) (s x : Operand) (t : TypeId)
    (ho : o.op = .call { callee := .builtin .append, args := #[s, x], argTypes := #[t, t] }) (e : TypeId) (i : TypeInfo) (z : Value) (size bytes : Nat) (ht : P.underlying t = some (.slice e)) (hi : P.info? e = some i)
    (hz : i.zero = some z) (hsize : i.size = size) (hby : i.bytes = bytes) (hzs : z.cells.size = size) (hsz : 0 < size) (v : Value) (n : Nat) (xs : List Value) (hs : a.eval s = v) (hown : w.ownsRow a0.heap.size e size v n xs)
    (us : List Value) (hul : us.length = size) (h1 : ∀ u ∈ us, u.oneCell' = true) (hx : a.eval x = .slice (some ⟨w.heap.size, 0, none⟩) 1 1) (hg : Gr a0 w) (h63 : n + 1 ≤ 4611686018427387904) (hbytes : (n + 1) * bytes ≤ 140737488355328)
    (h : ∀ v' w', w'.ownsRow a0.heap.size e size v' (n + 1) (xs ++ us) → Gr a0 w' → Moved v v' w w' → wpList P ops Q rest (a.put o.dst v') w') : wpList P ops Q (o :: rest) a (w.alloc (.cells us.toArray e)) := by
  refine wpList_append_own_at _ hgd s x t ho a0.heap.size e i z size bytes ht hi hz hsize hby hzs hsz v n xs hs (hown.alloc _) ⟨w.heap.size, 0, none⟩ 1 1 us hx (by rw [hul, Nat.one_mul]) ?_ h1 (by unfold maxLen; omega) hbytes (by have := hg.size; simp; omega)
    (fun v' w' h1 h2 _ h4 => h v' w' h1 (gr_grown (hg.alloc _) h2 (ownBlock_ge hown)) ⟨by have := h2.size; simp at this; omega, fun k hk hne => ⟨fun e => by
      rcases h4 with h4 | h4
      · exact hne (h4.symm.trans e)
      · rw [h4] at e
        have := Option.some.inj e
        simp at this
        omega, fun o => by
      have hb : w'.heap[k]? = w.heap[k]? := (h2.block k (by simp; omega) (fun e => hne e.symm)).trans (Below.heap_alloc _ _ _ hk)
      exact ⟨World.cell?_of_block hb, World.frozen?_of_block hb⟩⟩⟩)
  intro j u hj
  have he : (⟨w.heap.size, 0, none⟩ : Addr).add j = ⟨w.heap.size, j, none⟩ := by
    unfold Addr.add
    split
    · rename_i h0; rw [h0]
    · simp
  rw [he, World.cell?_alloc_new]
  simpa using hj

theorem and127 (n : Nat) (h : n < 9223372036854775808) : bits BinOp.and IntKind.i64 (n : Int) 127 = ((n % 128 : Nat) : Int) := by
  show IntKind.i64.wrap ((BitVec.ofInt 64 (n : Int) &&& BitVec.ofInt 64 ((127 : Nat) : Int)).toNat : Int) = _
  rw [BitVec.toNat_and, ofInt_64 _ (by omega), ofInt_64 _ (by omega), Nat.and_two_pow_sub_one_eq_mod n 7]
  rw [IntKind.wrap_i64]
  omega

theorem or128 (m : Nat) : bits BinOp.or IntKind.u8 ((m : Int) % 128) 128 = ((128 + m % 128).toUInt8.toNat : Int) := by
  have h : ∀ r : Fin 128, bits BinOp.or IntKind.u8 ((r.val : Nat) : Int) 128 = ((128 + r.val).toUInt8.toNat : Int) := by decide +kernel
  have := h ⟨m % 128, Nat.mod_lt _ (by omega)⟩
  rw [show ((m : Int) % 128) = ((m % 128 : Nat) : Int) by omega]
  exact this
set_option maxRecDepth 100000 in
set_option maxHeartbeats 800000 in
theorem number_t (a0 w : World) (v : Value) (l : List UInt8) (n : Nat) (hn : n < 1099511627776) (hl : l.length ≤ 100000000000) (hg : Gr a0 w) (ho : OwnB a0 w v l) :
    Calls Try.prog 23 #[v, .int .i64 n] w fun e w' => ∃ v', e = .returned v' ∧ OwnB a0 w' v' (l ++ sevenB n) ∧ Gr a0 w' ∧ Moved v v' w w' := by
  obtain ⟨i0, hi, hz0, hz1, hz2⟩ := info_parts info_u8
  have HO := Lib.hid ho
  clear ho
  go_enter Try.func23, Try.ntmps23
  go_wp2_with fail
  go_loopw [1, 0] (fun i u w' => ∃ (m : Nat) (pre : List UInt8), m ≤ n ∧ i = .int .i64 m ∧ Gr a0 w' ∧ OwnB a0 w' u (l ++ pre) ∧ pre.length + m ≤ n ∧ pre ++ sevenB m = sevenB n ∧ Moved v u w w') (fun i _ _ => (intOf i).toNat)
  case atStart => exact ⟨n, [], Nat.le_refl _, rfl, hg, by simpa using HO.out, by simp, by simp, Moved.refl _ _⟩
  case round =>
    obtain ⟨m, pre, hm, rfl, hg, ho, hpl, hse, hmv⟩ := hrel
    have HO := Lib.hid ho
    have HSE := Lib.hid hse
    clear ho hse
    by_cases h : m < 128
    · go_wp2_with (at_builtin; (refine append_moved (a0 := a0) rfl _ _ 44 rfl 5 i0 (.int .u8 0) 1 1 Try.underlying44 hi hz0 hz1 hz2 rfl (by decide) _ _ _ rfl (OwnB.row HO.out) [_] rfl (by simp; rfl) rfl hg (by simp; omega) (by simp; omega) ?_); intro v4 w4 hown4 hg4 hmv4)
      go_ret
      refine ⟨_, rfl, ?_, hg4, hmv.trans hmv4⟩
      rw [← HSE.out, sevenB_small m h, ← List.append_assoc]
      have e : byteV m.toUInt8 = .int .u8 (m : Int) := by
        unfold byteV
        congr 1
        simp
        omega
      exact own_snoc (by rw [e]; exact hown4)
    · have ha := and127 m (by omega)
      go_wp2_with (at_builtin; (refine append_moved (a0 := a0) rfl _ _ 44 rfl 5 i0 (.int .u8 0) 1 1 Try.underlying44 hi hz0 hz1 hz2 rfl (by decide) _ _ _ rfl (OwnB.row HO.out) [_] rfl (by simp; rfl) rfl hg (by simp; omega) (by simp; omega) ?_); intro v4 w4 hown4 hg4 hmv4)
      refine ⟨⟨m / 128, pre ++ [(128 + m % 128).toUInt8], by omega, by go_num, hg4, ?_, by rw [List.length_append]; simp; omega, ?_, hmv.trans hmv4⟩, by simp [intOf]; omega⟩
      · rw [← List.append_assoc]
        refine own_snoc ?_
        rw [byteV, ← or128]
        exact hown4
      · rw [← HSE.out, sevenB_big m h, List.append_assoc]; rfl
theorem number_i (a0 w : World) (v : Value) (l : List UInt8) (n : Int) (h0 : 0 ≤ n) (hn : n < 1099511627776) (hl : l.length ≤ 100000000000) (hg : Gr a0 w) (ho : OwnB a0 w v l) :
    Calls Try.prog 23 #[v, .int .i64 n] w fun e w' => ∃ v', e = .returned v' ∧ OwnB a0 w' v' (l ++ sevenB n.toNat) ∧ Gr a0 w' ∧ Moved v v' w w' := by
  obtain ⟨m, rfl⟩ := Int.eq_ofNat_of_zero_le h0
  exact number_t a0 w v l m (by omega) hl hg ho
theorem one_drew (c : UInt8) (q : Int) (hq : q = (c.toNat : Int)) (w : World) : (convert 44 9 (.slice (some ⟨w.heap.size, 0, none⟩) 1 1)).run Try.prog (w.alloc (.cells #[.int .u8 q] 5)).drew = .ok (.string ⟨#[c]⟩) (w.alloc (.cells #[.int .u8 q] 5)).drew := by
  subst hq
  refine own_string (a0 := w) (l := [c]) ?_
  exact ownsRow_gr (World.ownsRow_lit w #[.int .u8 (c.toNat : Int)] 1 (Nat.le_refl _) (by decide) rfl) ((Gr.refl _).drew)
theorem one_later {c : UInt8} {q : Int} (hq : q = (c.toNat : Int)) {w w2 : World} (h : Gr (w.alloc (.cells #[.int .u8 q] 5)).drew w2) : (convert 44 9 (.slice (some ⟨w.heap.size, 0, none⟩) 1 1)).run Try.prog w2 = .ok (.string ⟨#[c]⟩) w2 := by
  subst hq
  refine own_string (a0 := w) (l := [c]) ?_
  exact ownsRow_gr (World.ownsRow_lit w #[.int .u8 (c.toNat : Int)] 1 (Nat.le_refl _) (by decide) rfl) (((Gr.refl _).drew).trans h)
end Go.Proofs.Ytkdplnbdhkckhaa
