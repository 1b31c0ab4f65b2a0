/-
  A pager's Mark and Back, and a noted state that is kept.
-/
import Derived.Test.YtcdoeninajpbmaaGreatDoorPagI
import Derived.Test.YtcdoeninajpbmaaGreatDoorPagZ
namespace Go.Proofs.YtcdoeninajpbmaaGreatDoor
open Go Go.RowKit

section
variable {w : World} {PB DB M n : Nat} {c : Ch} {sv : Head} {t : Int} {d : Dk}
set_option maxRecDepth 100000 in
theorem mark_s (h : PgS w PB DB M n c sv t d) : Calls Tryz.prog 7 #[.pointer (some ⟨PB, 0, none⟩)] w fun e w' => ∃ M2 n2, e = .returned (.agg (markCells c.h (some M2) t).toArray) ∧ n2 ≤ n ∧ MapAt w' M2 n2 c.F ∧ w.heap.size ≤ M2 ∧ Gr w w' := by
  obtain ⟨⟨n', h1, h2⟩, _⟩ := h
  refine (mark_pg PB DB M n' c.h sv c.F false t w h2).mono ?_
  rintro e w' ⟨M2, h, hm, hle, g⟩
  exact ⟨M2, n', h, h1, hm, hle, g⟩
set_option maxRecDepth 100000 in
theorem back_s (h : PgS w PB DB M n c sv t d) (h2 : Head) (M2 n2 : Nat) (F2 : Int → Option ByteArray) (hm : MapAt w M2 n2 F2) : Calls Tryz.prog 16 #[.pointer (some ⟨PB, 0, none⟩), .agg (markCells h2 (some M2) t).toArray] w fun e w' => e = .returned .nilIface ∧ ∃ M', PgS w' PB DB M' n2 ⟨h2, F2⟩ sv t d ∧ PgF PB DB M M' w w' := by
  obtain ⟨⟨n', h1, hp⟩, h3, h4, h5⟩ := h
  refine (back_pg PB DB M n' c.h sv c.F t w hp h2 t M2 n2 F2 hm rfl).mono ?_
  rintro e w' ⟨rfl, ⟨M', p, hM⟩, g⟩
  have := h3.lt
  exact ⟨rfl, M', ⟨⟨n2, Nat.le_refl _, p⟩, h3.keepX g (fun e => h4 e.symm), h4, by omega⟩, .inr hM, grX_imp g fun _ e => .inl e⟩
end
/-- A noted state is stored, is loaded. -/
theorem wpList_store_mark {ops : Array Oper} {rest : List Oper} {op : Oper} {a : Act} {w : World} {Q : Exit → Act → World → Prop} (hgd : op.guard = none) (x y : Operand) (ho : op.op = .store 45 x y) (b : Nat) (h : Head) (m : Option Nat) (t : Int) (A : Array Value)
    (hx : a.eval x = .pointer (some ⟨b, 0, none⟩)) (hy : a.eval y = .agg A) (hA : A = (markCells h m t).toArray) (hth : w.there b 0 2018)
    (hk : ∀ w', w'.rangeAt b 0 (markCells h m t) → GrX (fun k => k = b) w w' → wpList Tryz.prog ops Q rest (a.put op.dst undef) w') : wpList Tryz.prog ops Q (op :: rest) a w := by
  subst hA
  refine wpList_store_mid hgd 45 x y ho b 0 _ hx hy (by rw [markCells_size]; exact hth) (by rw [info_mark, markCells_size]) (all_oneCell_toArray (markCells_one _ _ _)) ?_
  exact hk _ (World.rangeAt_setCells_same w b 0 _ (by rw [markCells_len]; exact hth)) (setCells_block b _ 0 w)
theorem wpList_load_mark {ops : Array Oper} {rest : List Oper} {op : Oper} {a : Act} {w : World} {Q : Exit → Act → World → Prop} (hgd : op.guard = none) (x : Operand) (ho : op.op = .load 45 x) (b : Nat) (h : Head) (m : Option Nat) (t : Int)
    (hx : a.eval x = .pointer (some ⟨b, 0, none⟩)) (hr : w.rangeAt b 0 (markCells h m t)) (hk : ∀ A : Array Value, Hid (A = (markCells h m t).toArray) → wpList Tryz.prog ops Q rest (a.put op.dst (.agg A)) w) : wpList Tryz.prog ops Q (op :: rest) a w :=
  wpList_load_mid hgd 45 x ho b 0 hx _ _ hr Tryz.underlying45 rfl (by rw [info_mark, markCells_len]) (hk _ (Lib.hid rfl))
theorem range_kept {S : Nat → Prop} {w w' : World} {b : Nat} {cs : List Value} (h : w.rangeAt b 0 cs) (g : GrX S w w') (hs : ¬ S b) : w'.rangeAt b 0 cs := fun j v hv => g.keeps hs (h j v hv)
theorem range_pg {PB DB M M' : Nat} {w w' : World} {b : Nat} {cs : List Value} (h : w.rangeAt b 0 cs) (g : PgF PB DB M M' w w') (h1 : b ≠ PB) (h2 : b ≠ DB) (h3 : b ≠ M) : w'.rangeAt b 0 cs := range_kept h g.2 fun e => e.elim h1 fun e => e.elim h2 h3
theorem map_pg {PB DB M M' : Nat} {w w' : World} {b n : Nat} {F : Int → Option ByteArray} (h : MapAt w b n F) (g : PgF PB DB M M' w w') (h1 : b ≠ PB) (h2 : b ≠ DB) (h3 : b ≠ M) : MapAt w' b n F := h.keepX g.2 fun e => e.elim h1 fun e => e.elim h2 h3
/-- A noted state that is kept. -/
structure KeepM (w : World) (PB DB M MB MK nK : Nat) (cs : List Value) (F : Int → Option ByteArray) : Prop where
  rng : w.rangeAt MB 0 cs
  map : MapAt w MK nK F
  lt : MB < w.heap.size
  b1 : MB ≠ PB
  b2 : MB ≠ DB
  b3 : MB ≠ M
  k1 : MK ≠ PB
  k2 : MK ≠ DB
  k3 : MK ≠ M
theorem KeepM.step {w w' : World} {PB DB M M' MB MK nK : Nat} {cs : List Value} {F : Int → Option ByteArray} (h : KeepM w PB DB M MB MK nK cs F) (g : PgF PB DB M M' w w') : KeepM w' PB DB M' MB MK nK cs F :=
  ⟨range_pg h.rng g h.b1 h.b2 h.b3, map_pg h.map g h.k1 h.k2 h.k3, Nat.lt_of_lt_of_le h.lt g.size, h.b1, h.b2, g.off h.lt h.b3, h.k1, h.k2, g.off h.map.lt h.k3⟩
theorem PgS.far {w w' : World} {PB DB M n b : Nat} {c : Ch} {sv : Head} {t : Int} {d : Dk} (h : PgS w PB DB M n c sv t d) (g : GrX (fun k => k = b) w w') (h1 : PB ≠ b) (h2 : DB ≠ b) (h3 : M ≠ b) : PgS w' PB DB M n c sv t d := by
  obtain ⟨⟨n', h4, h5⟩, h6, h7, h8⟩ := h
  exact ⟨⟨n', h4, h5.keepX g h1 h3⟩, h6.keepX g h2, h7, h8⟩
end Go.Proofs.YtcdoeninajpbmaaGreatDoor
