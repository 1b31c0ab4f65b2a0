/-
  A pager's head in memory.
-/
import Derived.Test.YtmjkalpjciddbaaMg2
import Derived.Deep.MidRow
import Derived.Deep.WholeRow
import Derived.Lib.QuietBelow
import Derived.BigQuiet
import Derived.Lib.Builder
import Derived.Lib.UnsafeStr
import Derived.Laws.Externs
import Derived.OwnWalk
namespace Go.Proofs.Ytmjkalpjciddbaa
open Go Go.RowKit

/-- A head in block B from offset o on. -/
structure HeadAt (w : World) (B o : Nat) (h : Head) : Prop where
  used : ∀ i, i < 2000 → w.cell? ⟨B, o + i, none⟩ = some (.bool (h.used i))
  root : ∀ i, i < 8 → w.cell? ⟨B, o + 2000 + i, none⟩ = some (.int .i64 (h.roots i))
  note : ∀ i, i < 8 → w.cell? ⟨B, o + 2008 + i, none⟩ = some (.int .i64 (h.notes i))
theorem HeadAt.same {w : World} {B o : Nat} {h g : Head} (a : HeadAt w B o h) (s : h.same g) : HeadAt w B o g :=
  ⟨fun i hi => by rw [a.used i hi, s.1 i hi], fun i hi => by rw [a.root i hi, (s.2 i hi).1], fun i hi => by rw [a.note i hi, (s.2 i hi).2]⟩
theorem HeadAt.gr {w w' : World} {B o : Nat} {h : Head} (a : HeadAt w B o h) (g : Gr w w') : HeadAt w' B o h :=
  ⟨fun i hi => g.keeps (a.used i hi), fun i hi => g.keeps (a.root i hi), fun i hi => g.keeps (a.note i hi)⟩
theorem HeadAt.keepX {S : Nat → Prop} {w w' : World} {B o : Nat} {h : Head} (a : HeadAt w B o h) (g : GrX S w w') (hs : ¬ S B) : HeadAt w' B o h :=
  ⟨fun i hi => g.keeps hs (a.used i hi), fun i hi => g.keeps hs (a.root i hi), fun i hi => g.keeps hs (a.note i hi)⟩
theorem HeadAt.range {w : World} {B o : Nat} {h : Head} (a : HeadAt w B o h) : w.rangeAt B o h.cells := fun j v hv => by
  have hj : j < 2016 := by
    have := (List.getElem?_eq_some_iff.1 hv).1
    rw [h.cells_len] at this
    exact this
  rcases Nat.lt_or_ge j 2000 with h1 | h1
  · rw [h.cells_used h1] at hv
    rw [a.used j h1, hv]
  · rcases Nat.lt_or_ge j 2008 with h2 | h2
    · obtain ⟨i, rfl⟩ : ∃ i, j = 2000 + i := ⟨j - 2000, by omega⟩
      rw [h.cells_root (show i < 8 by omega)] at hv
      rw [← Nat.add_assoc, a.root i (by omega), hv]
    · obtain ⟨i, rfl⟩ : ∃ i, j = 2008 + i := ⟨j - 2008, by omega⟩
      rw [h.cells_note (show i < 8 by omega)] at hv
      rw [← Nat.add_assoc, a.note i (by omega), hv]
theorem HeadAt.of_range {w : World} {B o : Nat} {h : Head} (r : w.rangeAt B o h.cells) : HeadAt w B o h :=
  ⟨fun i hi => r i _ (h.cells_used hi), fun i hi => by rw [Nat.add_assoc]; exact r (2000 + i) _ (h.cells_root hi), fun i hi => by rw [Nat.add_assoc]; exact r (2008 + i) _ (h.cells_note hi)⟩
/-- A head that has just been laid in a block of its own. -/
theorem HeadAt.box (w : World) (h : Head) (t : TypeId) : HeadAt (w.alloc (.cells h.cells.toArray t)) w.heap.size 0 h :=
  .of_range fun j v hv => by
    rw [World.cell?_alloc_new, Nat.zero_add]
    simpa using hv
theorem HeadAt.there {w : World} {B o : Nat} {h : Head} (a : HeadAt w B o h) (hf : ∀ j, w.frozen? ⟨B, j, none⟩ = false) : w.there B o 2016 := fun j hj =>
  ⟨a.range.isSome j (by rw [h.cells_len]; exact hj), hf _⟩
/-- Another cell of the block is written. -/
theorem HeadAt.far {w : World} {B o : Nat} {h : Head} (a : HeadAt w B o h) (p : Nat) (u : Value) (hp : p < o ∨ o + 2016 ≤ p) : HeadAt (w.setCell ⟨B, p, none⟩ u) B o h :=
  ⟨fun i hi => cell_off (by omega) (a.used i hi), fun i hi => cell_off (by omega) (a.root i hi), fun i hi => cell_off (by omega) (a.note i hi)⟩
theorem HeadAt.put {w : World} {B o : Nat} {h : Head} (a : HeadAt w B o h) {k : Nat} (hk : k < 2000) (b : Bool) : HeadAt (w.setCell ⟨B, o + k, none⟩ (.bool b)) B o (h.put k b) :=
  ⟨fun i hi => by
    show _ = some (Value.bool (if i = k then b else h.used i))
    by_cases e : i = k
    · subst e
      rw [if_pos rfl]
      exact World.cell?_setCell_same _ _ _ (a.used i hi)
    · rw [if_neg e]
      exact cell_off (by omega) (a.used i hi), fun i hi => cell_off (by omega) (a.root i hi), fun i hi => cell_off (by omega) (a.note i hi)⟩
/-- A root alone, a note alone. -/
def Head.putRoot (h : Head) (i : Nat) (p : Int) : Head := { h with roots := fun j => if j = i then p else h.roots j }
def Head.putNote (h : Head) (i : Nat) (n : Int) : Head := { h with notes := fun j => if j = i then n else h.notes j }
theorem Head.put_both (h : Head) (i : Nat) (p n : Int) : (h.putRoot i p).putNote i n = h.setRoot i p n := rfl
theorem Head.put_both' (h : Head) (i : Nat) (p n : Int) : (h.putNote i n).putRoot i p = h.setRoot i p n := rfl
theorem HeadAt.putRoot {w : World} {B o : Nat} {h : Head} (a : HeadAt w B o h) {k : Nat} (hk : k < 8) (p : Int) : HeadAt (w.setCell ⟨B, o + 2000 + k, none⟩ (.int .i64 p)) B o (h.putRoot k p) :=
  ⟨fun i hi => cell_off (by omega) (a.used i hi), fun i hi => by
    show _ = some (Value.int .i64 (if i = k then p else h.roots i))
    by_cases e : i = k
    · subst e
      rw [if_pos rfl]
      exact World.cell?_setCell_same _ _ _ (a.root i hi)
    · rw [if_neg e]
      exact cell_off (by omega) (a.root i hi), fun i hi => cell_off (by omega) (a.note i hi)⟩
theorem HeadAt.putNote {w : World} {B o : Nat} {h : Head} (a : HeadAt w B o h) {k : Nat} (hk : k < 8) (p : Int) : HeadAt (w.setCell ⟨B, o + 2008 + k, none⟩ (.int .i64 p)) B o (h.putNote k p) :=
  ⟨fun i hi => cell_off (by omega) (a.used i hi), fun i hi => cell_off (by omega) (a.root i hi), fun i hi => by
    show _ = some (Value.int .i64 (if i = k then p else h.notes i))
    by_cases e : i = k
    · subst e
      rw [if_pos rfl]
      exact World.cell?_setCell_same _ _ _ (a.note i hi)
    · rw [if_neg e]
      exact cell_off (by omega) (a.note i hi)⟩
/-- A head is written over another one. -/
theorem HeadAt.over {w : World} {B o : Nat} {h : Head} (a : HeadAt w B o h) (hf : ∀ j, w.frozen? ⟨B, j, none⟩ = false) (g : Head) : HeadAt (w.setCells B o g.cells) B o g :=
  .of_range (World.rangeAt_setCells_same w B o g.cells (by rw [g.cells_len]; exact a.there hf))
theorem HeadAt.overFar {w : World} {B o : Nat} {h : Head} (a : HeadAt w B o h) (o' : Nat) (g : Head) (hap : o + 2016 ≤ o' ∨ o' + 2016 ≤ o) : HeadAt (w.setCells B o' g.cells) B o h :=
  .of_range (World.rangeAt_setCells_apart a.range B o' g.cells (by rw [h.cells_len, g.cells_len]; omega))
theorem cell_setCells_far {w : World} {B p o : Nat} {v : Value} (hc : w.cell? ⟨B, p, none⟩ = some v) (g : Head) (hap : p < o ∨ o + 2016 ≤ p) : (w.setCells B o g.cells).cell? ⟨B, p, none⟩ = some v := by
  rw [World.cell?_setCells_out B g.cells o w ⟨B, p, none⟩ (fun _ _ => by rw [g.cells_len]; exact hap)]
  exact hc
theorem setCells_block (B : Nat) : ∀ (vs : List Value) (o : Nat) (w : World), GrX (fun k => k = B) w (w.setCells B o vs)
  | [], _, w => GrX.refl _ w
  | v :: vs, o, w => (GrX.setCell (S := fun k => k = B) (p := ⟨B, o, none⟩) w v rfl).trans (setCells_block B vs (o + 1) _)
/-- The head that has nothing. -/
def head0 : Head := ⟨fun _ => false, fun _ => 0, fun _ => 0⟩
theorem zeroHead : Try.zeroCells45 = Array.replicate 2000 (.bool false) ++ Array.replicate 16 (.int .i64 0) := by kernel_rfl
theorem head_new (w : World) : HeadAt (w.alloc (.cells Try.zeroCells45 45)) w.heap.size 0 head0 := by
  rw [zeroHead]
  refine ⟨fun i hi => ?_, fun i hi => ?_, fun i hi => ?_⟩
  · rw [World.cell?_alloc_new, Array.getElem?_append_left (by simpa using hi)]
    simp [hi, head0]
  · rw [World.cell?_alloc_new, Array.getElem?_append_right (by simp), Array.getElem?_eq_getElem (by simp; omega), Array.getElem_replicate]
    rfl
  · rw [World.cell?_alloc_new, Array.getElem?_append_right (by simp; omega), Array.getElem?_eq_getElem (by simp; omega), Array.getElem_replicate]
    rfl
/-- A head is loaded, as the walk spells it. -/
theorem HeadAt.loads {P : Program} {w : World} {B o : Nat} {h : Head} (a : HeadAt w B o h) : (loadCellsFrom ⟨B, o, none⟩ 0 2016 #[]).run P w = .ok h.cells.toArray w := by
  have := run_loadCells_list (P := P) w ⟨B, o, none⟩ h.cells (fun j v hv => by rw [Addr.add_mid]; exact a.range j v hv)
  rw [h.cells_len] at this
  exact this
/-- In a region that only reads: a struct is loaded. -/
theorem quiet_load_mid {P : Program} {C : World → Prop} {K : Act → Prop} {a : Act} {o : Oper} (ty : TypeId) (x : Operand) (ho : o.op = .load ty x) (b off : Nat) (hx : a.eval x = .pointer (some ⟨b, off, none⟩)) (cs : List Value) (d : TypeDesc) (hc : ∀ w, C w → w.rangeAt b off cs)
    (hu : P.underlying ty = some d) (hd : d.isRow = true) (hi : (P.info? ty).map (·.size) = some cs.length) (hk : K (a.put o.dst (.agg cs.toArray))) : o.quiet P a C K :=
  ⟨_, fun w hw => by
    unfold Oper.quietAt execOp
    simp only [ho, hx, Instr.loadAt, Instr.sureAddr, Sem.run_bind, Sem.run_pure, Result.andThen_ok, run_loadVar_mid w b off ty cs d (hc w hw) hu hd hi]
    exact ⟨rfl, rfl⟩, hk⟩
/-- One result that lies in memory. -/
theorem results_cell {P : Program} {fn : Func} {a : Nat} {t : TypeId} {tmps : Array Value} {w : World} {p : Addr} {v : Value} (hr : fn.results = #[ResultVar.cell a t]) (ht : tmps.getD a undef = .pointer (some p)) (hl : (loadVar t p).run P w = .ok v w) :
    (results fn tmps).run P w = .ok v w := by
  have ht' : tmps[a]?.getD undef = .pointer (some p) := by simpa using ht
  simp [results, hr, ht', asAddr, hl]
theorem Head.arr_len (h : Head) : h.cells.toArray.size = 2016 := by rw [List.size_toArray, Head.cells_len]
theorem info_head : (Try.prog.info? 45).map (·.size) = some 2016 := by kernel_rfl
end Go.Proofs.Ytmjkalpjciddbaa

/-
  The contract of pager.reads.
-/
namespace Go.Proofs.Ytmjkalpjciddbaa
open Go Go.RowKit

theorem and_one8 (n : Nat) (h : n < 256) : bits BinOp.and IntKind.u8 (n : Int) 1 = ((n % 2 : Nat) : Int) := by
  show IntKind.u8.wrap ((BitVec.ofInt 8 (n : Int) &&& BitVec.ofInt 8 ((1 : Nat) : Int)).toNat : Int) = _
  have e : ∀ m : Nat, m < 256 → (BitVec.ofInt 8 (m : Int)).toNat = m := fun m hm => by
    rw [BitVec.toNat_ofInt]
    omega
  rw [BitVec.toNat_and, e n h, e 1 (by omega), Nat.and_two_pow_sub_one_eq_mod n 1]
  show ((n % 2 ^ 1 : Nat) : Int) % 256 = _
  omega
def bitF (l : List UInt8) (i : Nat) : Bool := (l.getD (i / 8) 0).toNat / 2 ^ (i % 8) % 2 == 1
def readsTo (l : List UInt8) (i : Nat) : Head := ⟨fun j => decide (j < i) && bitF l j, fun _ => 0, fun _ => 0⟩
theorem readsTo_next (l : List UInt8) (i : Nat) : ((readsTo l i).put i (bitF l i)).same (readsTo l (i + 1)) :=
  ⟨fun j hj => by
    show (if j = i then bitF l i else decide (j < i) && bitF l j) = (decide (j < i + 1) && bitF l j)
    by_cases e : j = i
    · subst e
      rw [if_pos rfl, decide_eq_true (Nat.lt_succ_self j), Bool.true_and]
    · rw [if_neg e]
      congr 1
      rw [decide_eq_decide]
      omega, fun _ _ => ⟨rfl, rfl⟩⟩
theorem extract_drop (s : ByteArray) (a b : Nat) (hb : s.size ≤ b) : (s.extract a b).data.toList = s.data.toList.drop a := by
  rw [Lib.extract_data, List.take_of_length_le]
  rw [List.length_drop, ← size_data]
  omega
theorem fromF_drop (l : List UInt8) (k i : Nat) : fromF (l.drop k) i = fromF l (k + i) := by
  unfold fromF
  simp only [List.getD_eq_getElem?_getD, List.getElem?_drop]
  rw [Nat.add_assoc]
def readsOn (l : List UInt8) (n : Nat) : Head := ⟨fun j => bitF l j, fun j => if j < n then fromF l (250 + 4 * j) else 0, fun j => if j < n then fromF l (252 + 4 * j) else 0⟩
theorem readsOn_next (l : List UInt8) (n : Nat) : ((readsOn l n).setRoot n (fromF l (250 + 4 * n)) (fromF l (252 + 4 * n))).same (readsOn l (n + 1)) :=
  ⟨fun _ _ => rfl, fun j hj => by
    constructor
    · show (if j = n then fromF l (250 + 4 * n) else if j < n then fromF l (250 + 4 * j) else 0) = if j < n + 1 then fromF l (250 + 4 * j) else 0
      by_cases e : j = n
      · subst e
        rw [if_pos rfl, if_pos (by omega)]
      · rw [if_neg e]
        by_cases e2 : j < n
        · rw [if_pos e2, if_pos (by omega)]
        · rw [if_neg e2, if_neg (by omega)]
    · show (if j = n then fromF l (252 + 4 * n) else if j < n then fromF l (252 + 4 * j) else 0) = if j < n + 1 then fromF l (252 + 4 * j) else 0
      by_cases e : j = n
      · subst e
        rw [if_pos rfl, if_pos (by omega)]
      · rw [if_neg e]
        by_cases e2 : j < n
        · rw [if_pos e2, if_pos (by omega)]
        · rw [if_neg e2, if_neg (by omega)]⟩
theorem readsOn_all (l : List UInt8) : ((readsOn l 8).put 0 true).same (readsF l) :=
  ⟨fun j hj => by
    show (if j = 0 then true else bitF l j) = (j == 0 || bitF l j)
    by_cases e : j = 0
    · subst e
      rfl
    · rw [if_neg e, show (j == 0) = false by simpa using e, Bool.false_or], fun j hj => by
    constructor
    · show (if j < 8 then fromF l (250 + 4 * j) else 0) = fromF l (250 + 4 * j)
      rw [if_pos hj]
    · show (if j < 8 then fromF l (252 + 4 * j) else 0) = fromF l (252 + 4 * j)
      rw [if_pos hj]⟩
set_option maxRecDepth 100000 in
set_option maxHeartbeats 1600000 in
theorem reads_g (s : ByteArray) (hs : s.size = 1024) (w : World) : Calls Try.prog 20 #[.string s] w (Ret w (.agg (readsF s.data.toList).cells.toArray)) := by
  go_enter Try.func20, Try.ntmps20
  go_wp2_with fail
  have z0 : HeadAt ((w.alloc (.cells Try.zeroCells45 45)).alloc (.cells Try.zeroCells45 45)) w.heap.size 0 head0 := (head_new w).gr ((Gr.refl _).alloc _)
  have z1 : HeadAt ((w.alloc (.cells Try.zeroCells45 45)).alloc (.cells Try.zeroCells45 45)) (w.heap.size + 1) 0 head0 := by
    have := head_new (w.alloc (.cells Try.zeroCells45 45))
    simpa using this
  have f0 : ∀ j, ((w.alloc (.cells Try.zeroCells45 45)).alloc (.cells Try.zeroCells45 45)).frozen? ⟨w.heap.size, j, none⟩ = false := fun j => by simp
  have f1 : ∀ j, ((w.alloc (.cells Try.zeroCells45 45)).alloc (.cells Try.zeroCells45 45)).frozen? ⟨w.heap.size + 1, j, none⟩ = false := fun j => by simp
  have hg0 : Gr w ((w.alloc (.cells Try.zeroCells45 45)).alloc (.cells Try.zeroCells45 45)) := ((Gr.refl w).alloc _).alloc _
  generalize ((w.alloc (.cells Try.zeroCells45 45)).alloc (.cells Try.zeroCells45 45)) = w0 at *
  have HS := Lib.hid hs
  go_loopw [7] (fun kv w' => ∃ i : Nat, i ≤ 2000 ∧ kv = .int .i64 i ∧ HeadAt w' (w.heap.size + 1) 0 (readsTo s.data.toList i) ∧ HeadAt w' w.heap.size 0 head0 ∧ (∀ j, w'.frozen? ⟨w.heap.size, j, none⟩ = false) ∧ (∀ j, w'.frozen? ⟨w.heap.size + 1, j, none⟩ = false) ∧ Gr w w') (fun kv _ => 2000 - (intOf kv).toNat)
  case atStart => exact ⟨0, Nat.zero_le _, rfl, z1.same ⟨fun j _ => by simp [readsTo, head0], fun _ _ => ⟨rfl, rfl⟩⟩, z0, f0, f1, hg0⟩
  case round =>
    obtain ⟨i, hi, rfl, ha, hb, hfa, hfb, hg⟩ := hrel
    by_cases hlt : i < 2000
    · have c0 := ha.used i hlt
      have c1 := hfb i
      rw [Nat.zero_add] at c0
      have hq : i / 8 < s.size := by omega
      have hbv : (bits BinOp.and IntKind.u8 ((s[i / 8].toNat : Int) / 2 ^ (i % 8)) 1 == 1) = bitF s.data.toList i := by
        have e0 : s[i / 8] = s.data.toList.getD (i / 8) 0 := by
          rw [get_data s (i / 8) hq, List.getD_eq_getElem?_getD, List.getElem?_eq_getElem (by rw [← size_data]; exact hq)]
          rfl
        have e1 : ((s[i / 8].toNat : Int) / 2 ^ (i % 8)) = ((s[i / 8].toNat / 2 ^ (i % 8) : Nat) : Int) := by push_cast; rfl
        rw [e1, and_one8 _ (Nat.lt_of_le_of_lt (Nat.div_le_self _ _) s[i / 8].toNat_lt), e0]
        unfold bitF
        generalize (s.data.toList.getD (i / 8) 0).toNat / 2 ^ (i % 8) = x
        rcases Nat.mod_two_eq_zero_or_one x with h | h <;> rw [h] <;> rfl
      have HB := Lib.hid hbv
      clear hbv
      go_wp2_with fail
      refine ⟨⟨i + 1, by omega, by go_num, ?_, hb.keepX (GrX.setCell (S := fun k => k = w.heap.size + 1) wr _ rfl) (by omega), fun j => by simpa using hfa j, fun j => by simpa using hfb j, hg.setCell (by simp) _⟩, by simp [intOf]; omega⟩
      rw [HB.out]
      have := ha.put hlt (bitF s.data.toList i)
      rw [Nat.zero_add] at this
      exact this.same (readsTo_next _ _)
    · have hi2 : i = 2000 := by omega
      subst hi2
      go_wp2_with fail
      go_loopw [23] (fun kv w' => ∃ i : Nat, i ≤ 8 ∧ kv = .int .i64 i ∧ HeadAt w' (w.heap.size + 1) 0 (readsOn s.data.toList i) ∧ HeadAt w' w.heap.size 0 head0 ∧ (∀ j, w'.frozen? ⟨w.heap.size, j, none⟩ = false) ∧ (∀ j, w'.frozen? ⟨w.heap.size + 1, j, none⟩ = false) ∧ Gr w w') (fun kv _ => 8 - (intOf kv).toNat)
      case atStart => exact ⟨0, Nat.zero_le _, rfl, ha.same ⟨fun j hj => by simp [readsTo, readsOn, hj], fun _ _ => by simp [readsTo, readsOn]⟩, hb, hfa, hfb, hg⟩
      case round =>
        obtain ⟨i, hi, rfl, ha, hb, hfa, hfb, hg⟩ := hrel
        by_cases hlt : i < 8
        · have c0 := ha.root i hlt
          have c1 := ha.note i hlt
          have z0 := hfb (2000 + i)
          have z1 := hfb (2008 + i)
          rw [Nat.zero_add] at c0 c1
          have hsz : (s.extract (250 + 4 * i) 1024).size = 774 - 4 * i := by rw [ByteArray.size_extract]; omega
          have hbd : 250 + 4 * (i : Int) ≤ (s.size : Int) := by omega
          go_wp2_with fail
          obtain ⟨t, hT⟩ : ∃ t, s.extract (250 + 4 * i) 1024 = t := ⟨_, rfl⟩
          have e1 : fromF t.data.toList 0 = fromF s.data.toList (250 + 4 * i) := by
            rw [← hT, extract_drop s _ _ (by omega), fromF_drop, Nat.add_zero]
          have e2 : fromF (t.extract 2 t.size).data.toList 0 = fromF s.data.toList (252 + 4 * i) := by
            rw [extract_drop t _ _ (Nat.le_refl _), ← hT, extract_drop s _ _ (by omega), List.drop_drop, fromF_drop]
            congr 1
            omega
          rw [hT] at hsz ⊢
          have ht2 : (2 : Int) ≤ (t.size : Int) := by omega
          have r1 := fun w => from_g t (by omega) w
          rw [e1] at r1
          have r2 := fun w => from_g (t.extract 2 t.size) (by rw [ByteArray.size_extract]; omega) w
          rw [e2] at r2
          clear hsz hT e1 e2
          generalize hq0 : fromF s.data.toList (250 + 4 * i) = q0 at r1
          generalize hq1 : fromF s.data.toList (252 + 4 * i) = q1 at r2
          have HQ0 := Lib.hid hq0
          have HQ1 := Lib.hid hq1
          clear hq0 hq1
          go_region_with (first
            | (go_at_call_of 38 (Value.string t); refine (r1 _).mono ?_; rintro e w2 ⟨rfl, rfl⟩)
            | (go_at_call 38; refine (r2 _).mono ?_; rintro e w2 ⟨rfl, rfl⟩))
          all_goals
            go_wp2_with fail
            go_roundw
            case rel =>
              refine ⟨_, _, _, _, _, _, _, _, _, _, _, _, _, _, _, _, _, _, _, _, _, _, ?_, rfl⟩
              have g3 : ∀ W : World, Gr W W.drew.drew.drew := fun W => (((Gr.refl W).drew).drew).drew
              have ha1 := (ha.putRoot hlt q0).putNote hlt q1
              rw [Nat.zero_add, Nat.zero_add, Head.put_both] at ha1
              have hx := (GrX.setCell (S := fun k => k = w.heap.size + 1) (p := ⟨w.heap.size + 1, 2000 + i, none⟩) wr (.int .i64 q0) rfl).trans (GrX.setCell (p := ⟨w.heap.size + 1, 2008 + i, none⟩) _ (.int .i64 q1) rfl)
              refine ⟨i + 1, by omega, by go_num, ?_, (hb.keepX hx (by omega)).gr (g3 _), fun j => by simpa using hfa j, fun j => by simpa using hfb j, (hx.gr hg (fun k hk => by omega)).trans (g3 _)⟩
              rw [← HQ0.out, ← HQ1.out] at ha1
              rw [← HQ0.out, ← HQ1.out]
              exact (ha1.same (readsOn_next _ _)).gr (g3 _)
            case measure =>
              simp [intOf]
              omega
        · have hi8 : i = 8 := by omega
          subst hi8
          have c0 := ha.used 0 (by omega)
          have z0 := hfb 0
          rw [Nat.zero_add] at c0
          have ha2 := (ha.put (show 0 < 2000 by omega) true).same (readsOn_all s.data.toList)
          rw [Nat.zero_add] at ha2
          have hx := GrX.setCell (S := fun k => k = w.heap.size + 1) (p := ⟨w.heap.size + 1, 0, none⟩) wr (.bool true) rfl
          have hb2 := hb.keepX hx (by omega)
          have hf2 : ∀ j, (wr.setCell ⟨w.heap.size + 1, 0, none⟩ (.bool true)).frozen? ⟨w.heap.size, j, none⟩ = false := fun j => by simpa using hfa j
          have hgx := hx.gr hg (fun k hk => by omega)
          have hth : (wr.setCell ⟨w.heap.size + 1, 0, none⟩ (.bool true)).there w.heap.size 0 (readsF s.data.toList).cells.toArray.size := by
            rw [Head.arr_len]
            exact hb2.there hf2
          have HRG := Lib.hid ha2.range
          have HTH := Lib.hid hth
          clear hth
          have ho := hb2.over hf2 (readsF s.data.toList)
          have hgy := (setCells_block w.heap.size (readsF s.data.toList).cells 0 (wr.setCell ⟨w.heap.size + 1, 0, none⟩ (.bool true))).gr hgx (fun k hk => by omega)
          have HO := Lib.hid ho
          have HGY := Lib.hid hgy
          clear ha2 hb2 ho hgy ha hb hfa hfb hf2
          go_wp2_with (first
            | (refine wpList_load_mid rfl 45 _ rfl (w.heap.size + 1) 0 rfl _ _ HRG.out Try.underlying45 rfl (by rw [info_head, Head.cells_len]) ?_)
            | (refine wpList_store_mid rfl 45 _ _ rfl w.heap.size 0 _ rfl rfl HTH.out (by rw [info_head, Head.arr_len]) (all_oneCell_toArray (Head.cells_one _)) ?_))
          refine bodyPost_ret (v := .agg (readsF s.data.toList).cells.toArray) ?_ rfl ⟨rfl, HGY.out⟩
          have hld := run_loadVar_mid (P := Try.prog) ((wr.setCell ⟨w.heap.size + 1, 0, none⟩ (.bool true)).setCells w.heap.size 0 (readsF s.data.toList).cells) w.heap.size 0 45 _ _ HO.out.range Try.underlying45 rfl (by rw [info_head, Head.cells_len])
          exact results_cell rfl rfl hld
end Go.Proofs.Ytmjkalpjciddbaa

/-
  The writing methods of strings.Builder at this program.
-/
namespace Go.Proofs.Ytmjkalpjciddbaa
open Go Go.RowKit

/-- A builder in block b that holds these bytes. -/
def Bld (B b : Nat) (l : List UInt8) (w : World) : Prop := Lib.IsBuilder 115 5 B b (Lib.byteCells l) w
theorem Bld.gr {B b : Nat} {l : List UInt8} {w w' : World} (h : Bld B b l w) (g : Gr w w') : Bld B b l w' := by
  rcases h with ⟨h1, v, h2, h3, h4⟩ | ⟨h1, v, h2, h3, h4⟩
  · exact .inl ⟨h1, v, (g.block _ (Array.getElem?_eq_some_iff.1 h2).1).trans h2, ownsRow_gr h3 g, h4⟩
  · exact .inr ⟨h1, v, (g.block _ (Array.getElem?_eq_some_iff.1 h2).1).trans h2, ownsRow_gr h3 g, h4⟩
theorem bld_info : (Try.prog.info? 115).map (·.size) = some 2 := by kernel_rfl
theorem bld_lies : liesAt Try.prog Try.prog.depth 115 (2 / Try.prog.cellsOf 115) 0 115 1 = true := by kernel_rfl
theorem Bld.new (w : World) : Bld w.heap.size w.heap.size [] (w.alloc (.cells #[.pointer none, .slice none 0 0] 115)) := Lib.fresh_isBuilder _ _ w
set_option maxRecDepth 100000 in
set_option maxHeartbeats 1000000 in
/-- It notes where it lies. -/
theorem copyCheck_b (B b : Nat) (bs : List Value) (w : World) (h : Lib.IsBuilder 115 5 B b bs w) :
    Calls Try.prog 72 #[.pointer (some ⟨b, 0, none⟩)] w fun e w' => e = .returned (.tuple #[]) ∧ Lib.BuilderAt 115 5 B b (.pointer (some ⟨b, 0, none⟩)) bs w' ∧ Below B w w' := by
  obtain ⟨j, hj, hjs⟩ := Option.map_eq_some_iff.1 bld_info
  rcases h with h | h
  · have h0 := h.cell0
    have hf := h.frozen0
    have hu := Lib.run_to_unsafe (P := Try.prog) (w := w) ⟨b, 0, none⟩ Try.underlying113 Try.underlying138 hj (by rw [hjs]; decide) h.shape (Nat.zero_lt_succ 1)
    have hv := Lib.run_from_unsafe (P := Try.prog) (w := w) ⟨b, 0, none⟩ Try.underlying138 Try.underlying113 hj h.shape bld_lies
    have H := Lib.hid h
    clear h
    go_enter Try.func72, Try.ntmps72
    go_wp2_with fail
    rw [run_callFunc_extern Try.func81 (by kernel_rfl) (by kernel_rfl) (by kernel_rfl) (e := Extern.AbiNoEscape.same) (by kernel_rfl), Lib.run_noEscape]
    simp only [Result.andThen]
    rw [Oper.upon_value]
    go_wp2_with fail
    refine bodyPost_end (v := .tuple #[]) (by simp [results, Try.results72, go_sem]) rfl ?_
    exact ⟨rfl, H.out.used _, (Below.refl B w).setCell (p := ⟨b, 0, none⟩) H.out.1 _⟩
  · have h0 := h.cell0
    have hn := Lib.run_neq_ptr_same (P := Try.prog) (w := w) ⟨b, 0, none⟩ Try.underlying113 hj
    have H := Lib.hid h
    clear h
    go_enter Try.func72, Try.ntmps72
    go_wp2_with fail
    refine bodyPost_end (v := .tuple #[]) (by simp [results, Try.results72, go_sem]) rfl ?_
    exact ⟨rfl, H.out, Below.refl B _⟩
theorem info_u8b : (Try.prog.info? 5).map (fun i => (i.zero, i.size, i.bytes)) = some (some (.int .u8 0), 1, 1) := by kernel_rfl
theorem bld_ne : (115 : TypeId) ≠ 5 := by decide
theorem bld_old {w w2 : World} {b : Nat} {o : Obj} {row : Option Nat} {v : Value} (hb : w.heap[b]? = some o) (hg : w.grownBy w2 row) (hr : row = v.ownBlock) (hne : v.ownBlock ≠ some b) : w2.heap[b]? = some o := by
  rw [hg.block b (Array.getElem?_eq_some_iff.1 hb).1 (fun e => hne (by rw [← hr, ← e]))]
  exact hb
set_option maxRecDepth 100000 in
set_option maxHeartbeats 1000000 in
theorem writeString_b (B b : Nat) (l : List UInt8) (s : ByteArray) (w : World) (h : Bld B b l w) (hl : l.length + s.size ≤ 1000000) (hB : B ≤ w.heap.size) :
    Calls Try.prog 57 #[.pointer (some ⟨b, 0, none⟩), .string s] w fun e w' => e = .returned (.tuple #[.int .i64 s.size, .nilIface]) ∧ Bld B b (l ++ s.data.toList) w' ∧ Below B w w' := by
  obtain ⟨i0, hi, hz0, hz1, hz2⟩ := info_parts info_u8b
  have H := Lib.hid h
  clear h
  go_enter Try.func57, Try.ntmps57
  go_wp2_with fail
  refine (copyCheck_b B b _ w H.out).mono ?_
  rintro e w1 ⟨rfl, h1, hb1⟩
  have H1 := Lib.hid h1
  obtain ⟨hBb, v, hbk, hown, hne⟩ := h1
  have hlen : (Lib.byteCells l).length = l.length := Lib.byteCells_length l
  have c0 : w1.cell? ⟨b, 0, none⟩ = some (.pointer (some ⟨b, 0, none⟩)) := by rw [Lib.cell_of_heap hbk]; rfl
  have c1 : w1.cell? ⟨b, 1, none⟩ = some v := by rw [Lib.cell_of_heap hbk]; rfl
  have hsz := hb1.size
  go_wp2_with (at_builtin; refine Lib.wpList_append_own_string _ rfl _ _ 79 9 rfl B 5 i0 Try.underlying79 Try.underlying9 hi hz0 hz1 hz2 _ _ _ rfl hown s rfl (by unfold maxLen; omega) (by omega) (by omega) ?_)
  intro v' w2 hown' hgrow _
  have hb2 := bld_old hbk hgrow rfl hne
  have d0 : w2.cell? ⟨b, 0, none⟩ = some (.pointer (some ⟨b, 0, none⟩)) := by rw [Lib.cell_of_heap hb2]; rfl
  have d1 : w2.cell? ⟨b, 1, none⟩ = some v := by rw [Lib.cell_of_heap hb2]; rfl
  have f1 : w2.frozen? ⟨b, 1, none⟩ = false := Lib.frozen_of_heap hb2 1
  have hput : Lib.BuilderAt 115 5 B b (.pointer (some ⟨b, 0, none⟩)) (Lib.byteCells (l ++ s.data.toList)) (w2.setCell ⟨b, 1, none⟩ v') := by
    refine Lib.BuilderAt.put hBb hb2 ?_ bld_ne
    rw [Lib.byteCells_append, List.length_append, Lib.byteCells_length s.data.toList, Lib.byteCells_length l, ← size_data]
    exact hown'
  have hbel := (hb1.grown hgrow (by omega) (fun k hk => (hown.lt k hk).1)).setCell (p := ⟨b, 1, none⟩) hBb v'
  have HP := Lib.hid hput
  have HB := Lib.hid hbel
  clear hput hbel
  obtain ⟨ao, n', cap, rfl⟩ : ∃ ao n' cap, v' = .slice ao n' cap := by
    rcases hown'.2 with ⟨hv, _⟩ | ⟨g, cap, cur, hv, _⟩
    · exact ⟨_, _, _, hv⟩
    · exact ⟨_, _, _, hv⟩
  clear hown hown' hgrow hb2 hbk
  go_wp2_with fail
  go_ret2
  exact ⟨rfl, .inr HP.out, HB.out⟩
set_option maxRecDepth 100000 in
set_option maxHeartbeats 1000000 in
theorem writeByte_b (B b : Nat) (l : List UInt8) (c : UInt8) (w : World) (h : Bld B b l w) (hl : l.length + 1 ≤ 1000000) (hB : B ≤ w.heap.size) :
    Calls Try.prog 68 #[.pointer (some ⟨b, 0, none⟩), .int .u8 (c.toNat : Int)] w fun e w' => e = .returned .nilIface ∧ Bld B b (l ++ [c]) w' ∧ Below B w w' := by
  obtain ⟨i0, hi, hz0, hz1, hz2⟩ := info_parts info_u8b
  have H := Lib.hid h
  clear h
  generalize hq : ((c.toNat : Nat) : Int) = q
  have HQ := Lib.hid hq
  clear hq
  go_enter Try.func68, Try.ntmps68
  go_wp2_with fail
  refine (copyCheck_b B b _ w H.out).mono ?_
  rintro e w1 ⟨rfl, h1, hb1⟩
  have H1 := Lib.hid h1
  obtain ⟨hBb, v, hbk, hown, hne⟩ := h1
  have hlen : (Lib.byteCells l).length = l.length := Lib.byteCells_length l
  have c0 : w1.cell? ⟨b, 0, none⟩ = some (.pointer (some ⟨b, 0, none⟩)) := by rw [Lib.cell_of_heap hbk]; rfl
  have c1 : w1.cell? ⟨b, 1, none⟩ = some v := by rw [Lib.cell_of_heap hbk]; rfl
  have hsz := hb1.size
  have hnew : ∀ j u, ([Value.int .u8 q])[j]? = some u → (w1.alloc (.cells #[.int .u8 q] 5)).cell? ((⟨w1.heap.size, 0, none⟩ : Addr).add j) = some u := by
    intro j u hj
    match j, hj with
    | 0, hj => simp at hj; subst hj; simp [Addr.add]
  go_wp2_with (at_builtin; refine wpList_append_own _ rfl _ _ 79 rfl B 5 i0 (.int .u8 0) 1 1 Try.underlying79 hi hz0 hz1 hz2 rfl (by decide) _ _ _ rfl (hown.alloc _) ⟨w1.heap.size, 0, none⟩ 1 1 [.int .u8 q] rfl rfl hnew (by intro u hu; simp at hu; subst hu; rfl) (by unfold maxLen; omega) (by omega) (by simp; omega) ?_)
  intro v' w2 hown' hgrow _
  have hb2 := bld_old (v := v) ((Below.heap_alloc w1 (.cells #[.int .u8 q] 5) b (Array.getElem?_eq_some_iff.1 hbk).1).trans hbk) hgrow rfl hne
  have d0 : w2.cell? ⟨b, 0, none⟩ = some (.pointer (some ⟨b, 0, none⟩)) := by rw [Lib.cell_of_heap hb2]; rfl
  have d1 : w2.cell? ⟨b, 1, none⟩ = some v := by rw [Lib.cell_of_heap hb2]; rfl
  have f1 : w2.frozen? ⟨b, 1, none⟩ = false := Lib.frozen_of_heap hb2 1
  have hput : Lib.BuilderAt 115 5 B b (.pointer (some ⟨b, 0, none⟩)) (Lib.byteCells (l ++ [c])) (w2.setCell ⟨b, 1, none⟩ v') := by
    refine Lib.BuilderAt.put hBb hb2 ?_ bld_ne
    rw [Lib.byteCells_append, List.length_append, Lib.byteCells_length [c]]
    have e : Lib.byteCells [c] = [.int .u8 q] := by
      rw [← HQ.out]
      rfl
    rw [e, Lib.byteCells_length l]
    exact hown'
  have hbel := ((hb1.alloc (by omega) (.cells #[.int .u8 q] 5)).grown hgrow (by simp; omega) (fun k hk => (hown.lt k hk).1)).setCell (p := ⟨b, 1, none⟩) hBb v'
  have HP := Lib.hid hput
  have HB := Lib.hid hbel
  clear hput hbel
  obtain ⟨ao, n', cap, rfl⟩ : ∃ ao n' cap, v' = .slice ao n' cap := by
    rcases hown'.2 with ⟨hv, _⟩ | ⟨g, cap, cur, hv, _⟩
    · exact ⟨_, _, _, hv⟩
    · exact ⟨_, _, _, hv⟩
  clear hown hown' hgrow hb2 hbk
  go_wp2_with fail
  go_ret
  exact ⟨rfl, .inr HP.out, HB.out⟩
end Go.Proofs.Ytmjkalpjciddbaa
