/-
  The keys of a map from numbers to texts, sorted; a map's copy.
-/
import Derived.Test.YtmjkalpjciddbaaPGen
import Derived.Test.YtmjkalpjciddbaaMg4
import Derived.Test.YtmjkalpjciddbaaMg2
import Derived.Maps.AppendAt
import Derived.Test.YtmjkalpjciddbaaMg8
namespace Go.Proofs.Ytmjkalpjciddbaa
open Go Go.RowKit Go.Maps Go.Sort Go.Shelf

theorem MapAt.keys {w : World} {M n : Nat} {F : Int → Option ByteArray} (h : MapAt w M n F) (hF : fineF F) :
    ∃ D : DataW Unit, w.ownsMap Try.prog 3 (plainElem Try.prog 9) M n D ∧ ((ksF F).map fun (k : Nat) => (k : Int)).Perm (intKeys D) := by
  obtain ⟨D, h1, h2⟩ := h
  refine ⟨D, h1, ?_⟩
  obtain ⟨es, hD, hpw, _⟩ := h1.entries keyI
  obtain ⟨es', hD', hko⟩ := h1.keysOf
  obtain rfl : es = es' := by rw [hD] at hD'; simpa using hD'
  subst hD
  have hint : ∀ p ∈ es, ∃ x : Int, p.1 = .int .i64 x ∧ (Lit.int .i64 x).wf = true := fun p hp => by
    obtain ⟨v, hv⟩ := hko p hp
    obtain ⟨x, _, hx, hw⟩ := Maps.keyOf_i64 Try.underlying3 hv
    exact ⟨x, hx, hw⟩
  have hnd : ((ksF F).map fun (k : Nat) => (k : Int)).Nodup := by
    show List.Pairwise _ _
    rw [List.pairwise_map]
    refine List.Pairwise.imp (fun {a b} (hab : a ≠ b) => ?_) (List.Pairwise.filter _ List.nodup_range)
    show (a : Int) ≠ (b : Int)
    omega
  refine perm_intKeys hpw (fun p hp => by obtain ⟨x, hx, _⟩ := hint p hp; exact ⟨x, hx⟩) hnd fun x => ?_
  constructor
  · intro hx
    obtain ⟨k, hk, rfl⟩ := List.mem_map.1 hx
    obtain ⟨hk1, hk2⟩ := ksF_mem.1 hk
    rw [(h2 (k : Int) (wfI (by omega))).1]
    exact hk2
  · intro hx
    have hx2 := hx
    rw [has_eq, List.any_eq_true] at hx2
    obtain ⟨p, hp, hs⟩ := hx2
    obtain ⟨a, ha, hw⟩ := hint p hp
    rw [ha] at hs
    have hax : x = a := by simpa [Lit.sameKey, eq_comm] using hs
    subst hax
    rw [(h2 x hw).1] at hx
    obtain ⟨s, hs⟩ := Option.isSome_iff_exists.1 hx
    obtain ⟨f1, f2, _⟩ := hF _ _ hs
    refine List.mem_map.2 ⟨x.toNat, ksF_mem.2 ⟨by omega, ?_⟩, by omega⟩
    rw [show ((x.toNat : Nat) : Int) = x by omega, hs]
    rfl
theorem ksF_sorted (F : Int → Option ByteArray) : ((ksF F).map fun (k : Nat) => (k : Int)).mergeSort (fun x y => decide (x ≤ y)) = (ksF F).map fun (k : Nat) => (k : Int) := by
  apply List.mergeSort_of_pairwise
  rw [List.pairwise_map]
  refine List.Pairwise.imp (fun {a b} (hab : a < b) => ?_) (List.Pairwise.filter _ List.pairwise_lt_range)
  simp
  omega
theorem slice_inj {a b : Option Addr} {n m c d : Nat} (h : Value.slice a n c = Value.slice b m d) : a = b := by injection h
end Go.Proofs.Ytmjkalpjciddbaa

/-
  An append to one of a call's own slices leaves the others as they were, and apart.
-/
namespace Go.Proofs.Ytmjkalpjciddbaa
open Go Go.RowKit

/-- Of all blocks that are not v's: as they were, and not those of v'. -/
def MovedB (v v' : Value) (w w' : World) : Prop := w.heap.size ≤ w'.heap.size ∧ ∀ k, k < w.heap.size → v.ownBlock ≠ some k → v'.ownBlock ≠ some k ∧ w'.heap[k]? = w.heap[k]?
theorem OwnV.moved {α : Type} {enc : α → Value} {e : TypeId} {a0 w w' : World} {u v v' : Value} {ys : List α} (h : OwnV enc e a0 w u ys) (hd : ∀ b, u.ownBlock = some b → v.ownBlock ≠ some b) (m : MovedB v v' w w') : OwnV enc e a0 w' u ys ∧ ∀ b, u.ownBlock = some b → v'.ownBlock ≠ some b := by
  have hlt := ownBlock_lt h
  obtain ⟨h1, h2⟩ := h
  constructor
  · refine ⟨h1, ?_⟩
    rcases h2 with h2 | ⟨b, cap, cur, hv, hb, hh, r⟩
    · exact .inl h2
    · have e : u.ownBlock = some b := by rw [hv]; rfl
      exact .inr ⟨b, cap, cur, hv, hb, by rw [(m.2 b (hlt b e) (hd b e)).2]; exact hh, r⟩
  · intro b e
    exact (m.2 b (hlt b e) (hd b e)).1
/-- 'append(s, x)', s the call's own, x just laid. -/
theorem append_v {α : Type} {enc : α → Value} {a0 w : World} {ops : Array Oper} {rest : List Oper} {o : Oper} {a : Act} {Q : Exit → Act → World → Prop} (hgd : o.guard = none) (s x : Operand) (t e : TypeId) (z : Value) (nb : Nat)
    (ht : Try.prog.underlying t = some (.slice e)) (hinf : (Try.prog.info? e).map (fun i => (i.zero, i.size, i.bytes)) = some (some z, 1, nb)) (hzs : z.cells.size = 1) (hnb : nb ≤ 16)
    (ho : o.op = .call { callee := .builtin .append, args := #[s, x], argTypes := #[t, t] }) (v : Value) (us : List α) (hs : a.eval s = v) (hown : OwnV enc e a0 w v us) (y : α) (h1 : (enc y).oneCell' = true)
    (hx : a.eval x = .slice (some ⟨w.heap.size, 0, none⟩) 1 1) (hl : us.length ≤ 1000000) (hg : Gr a0 w)
    (h : ∀ v' w', OwnV enc e a0 w' v' (us ++ [y]) → Gr a0 w' → MovedB v v' w w' → wpList Try.prog ops Q rest (a.put o.dst v') w') : wpList Try.prog ops Q (o :: rest) a (w.alloc (.cells #[enc y] e)) := by
  obtain ⟨i0, hinf, hz0, hz1, hz2⟩ := info_parts hinf
  have hbytes : (us.length + 1) * nb ≤ 140737488355328 := by
    have := Nat.mul_le_mul (show us.length + 1 ≤ 1000001 by omega) hnb
    omega
  refine wpList_append_own_at _ hgd s x t ho a0.heap.size e i0 z 1 nb ht hinf hz0 hz1 hz2 hzs (by decide) v us.length (us.map enc) hs (World.ownsRow.alloc hown _) ⟨w.heap.size, 0, none⟩ 1 1 [enc y] hx rfl ?_ (by simpa using h1) (by unfold maxLen; omega) hbytes (by have := hg.size; simp; omega)
    (fun v' w' h1 h2 _ h4 => h v' w' (OwnV.snoc h1) (gr_grown (hg.alloc _) h2 (ownBlock_ge hown)) ⟨by have := h2.size; simp at this; omega, fun k hk hne => ⟨fun e => by
      rcases h4 with h4 | h4
      · exact hne (h4.symm.trans e)
      · rw [h4] at e
        have := Option.some.inj e
        simp at this
        omega, (h2.block k (by simp; omega) (fun e => hne e.symm)).trans (Below.heap_alloc _ _ _ hk)⟩⟩)
  intro j u hj
  have he : (⟨w.heap.size, 0, none⟩ : Addr).add j = ⟨w.heap.size, j, none⟩ := by
    unfold Addr.add
    split
    · rename_i h0; rw [h0]
    · simp
  rw [he, World.cell?_alloc_new]
  simpa using hj
end Go.Proofs.Ytmjkalpjciddbaa

/-
  The contract of pager.logged.
-/
namespace Go.Proofs.Ytmjkalpjciddbaa
open Go Go.RowKit

def psTo (s : ByteArray) (i : Nat) : List Nat := (List.range i).filter (logBit s.data.toList)
def lsTo (pg : Nat → ByteArray) (s : ByteArray) (i : Nat) : List ByteArray := (List.range (psTo s i).length).map fun j => pgGet pg (2001 + j)
theorem psTo_len (s : ByteArray) (i : Nat) : (psTo s i).length ≤ i := by
  have := List.length_filter_le (logBit s.data.toList) (List.range i)
  simpa [psTo] using this
theorem lsTo_len (pg : Nat → ByteArray) (s : ByteArray) (i : Nat) : (lsTo pg s i).length = (psTo s i).length := by simp [lsTo]
theorem psTo_yes {s : ByteArray} {i : Nat} (h : logBit s.data.toList i = true) : psTo s (i + 1) = psTo s i ++ [i] := by
  unfold psTo
  rw [List.range_succ, List.filter_append, List.filter_cons_of_pos h]
  rfl
theorem psTo_no {s : ByteArray} {i : Nat} (h : logBit s.data.toList i = false) : psTo s (i + 1) = psTo s i := by
  unfold psTo
  rw [List.range_succ, List.filter_append, List.filter_cons_of_neg (by rw [h]; decide)]
  simp
theorem lsTo_yes {pg : Nat → ByteArray} {s : ByteArray} {i : Nat} (h : logBit s.data.toList i = true) : lsTo pg s (i + 1) = lsTo pg s i ++ [pgGet pg (2001 + (psTo s i).length)] := by
  unfold lsTo
  rw [psTo_yes h, List.length_append, List.length_singleton, List.range_succ, List.map_append]
  rfl
theorem lsTo_no {pg : Nat → ByteArray} {s : ByteArray} {i : Nat} (h : logBit s.data.toList i = false) : lsTo pg s (i + 1) = lsTo pg s i := by
  unfold lsTo
  rw [psTo_no h]
theorem lsTo_sz {d : Dk} (hw : d.whole) (s : ByteArray) : ∀ t ∈ lsTo d.pg s 2000, t.size = 1024 := by
  intro t ht
  obtain ⟨i, hi, rfl⟩ := List.mem_map.1 ht
  have := List.mem_range.1 hi
  have := psTo_len s 2000
  exact hw _ (by omega)
theorem logged_is {pg : Nat → ByteArray} {s : ByteArray} (hs : pgGet pg 2000 = s) : (noteB (psTo s 2000) (lsTo pg s 2000) = s → loggedP pg = psTo s 2000 ∧ loggedL pg = lsTo pg s 2000) ∧ (¬ noteB (psTo s 2000) (lsTo pg s 2000) = s → loggedP pg = [] ∧ loggedL pg = []) := by
  have e1 : logPs pg = psTo s 2000 := by
    unfold logPs psTo
    rw [hs]
  have e2 : logLs pg = lsTo pg s 2000 := by
    unfold logLs lsTo
    rw [e1]
  unfold loggedP loggedL
  rw [e1, e2, hs]
  exact ⟨fun h => by rw [if_pos h, if_pos h]; exact ⟨rfl, rfl⟩, fun h => by rw [if_neg h, if_neg h]; exact ⟨rfl, rfl⟩⟩
set_option maxRecDepth 100000 in
set_option maxHeartbeats 3200000 in
theorem logged_g (B : Nat) (d : Dk) (w : World) (hd : DkAt w B d) (hw : d.whole) :
    Calls Try.prog 17 #[.pointer (some ⟨B, 0, none⟩)] w fun e w' => ∃ pv lv, e = .returned (.tuple #[pv, lv]) ∧ RowV natV w' pv (loggedP d.pg) ∧ RowV Value.string w' lv (loggedL d.pg) ∧ OffV pv B ∧ OffV lv B ∧ Gr w w' := by
  have HD := Lib.hid hd
  have HW := Lib.hid hw
  have hlt := hd.lt
  clear hd hw
  obtain ⟨s, hs⟩ : ∃ s, pgGet d.pg 2000 = s := ⟨_, rfl⟩
  have hsz : s.size = 1024 := by rw [← hs]; exact HW.out 2000 (by omega)
  have HS := Lib.hid hs
  have hrd := fun w (h : DkAt w B d) => read_d B d.pg d.cut d.left d.torn 2000 (by omega) w h
  rw [hs] at hrd
  clear hs
  go_enter Try.func17, Try.ntmps17
  go_wp2_with fail
  refine (hrd _ HD.out).mono ?_
  rintro e w1 ⟨rfl, hg1⟩
  clear hrd
  go_wp2_with fail
  go_loopw [16, 6, 7] (fun kv pv lv w' => ∃ i : Nat, i ≤ 2000 ∧ kv = .int .i64 i ∧ OwnV natV 3 w w' pv (psTo s i) ∧ OwnV Value.string 9 w w' lv (lsTo d.pg s i) ∧ (∀ b, pv.ownBlock = some b → lv.ownBlock ≠ some b) ∧ Gr w w') (fun kv _ _ _ => 2000 - (intOf kv).toNat)
  case atStart => exact ⟨0, Nat.zero_le _, rfl, ownV_nil _ _ _ _, ownV_nil _ _ _ _, (fun b h => by cases h), hg1⟩
  case round =>
    obtain ⟨i, hi, rfl, hp, hl, hpl, hg⟩ := hrel
    obtain ⟨po, pc, rfl⟩ := hp.row.form
    obtain ⟨lo, lc, rfl⟩ := hl.row.form
    have hpn := psTo_len s i
    have hln := lsTo_len d.pg s i
    rw [hln] at hl hpl ⊢
    have HP := Lib.hid hp
    have HL := Lib.hid hl
    have HPL := Lib.hid hpl
    have HG := Lib.hid hg
    clear hp hl hpl hln
    by_cases hlt2 : i < 2000
    · have hq : 2 + i / 8 < s.size := by omega
      have hbv : (bits BinOp.and IntKind.u8 ((s[2 + i / 8].toNat : Int) / 2 ^ (i % 8)) 1 == 1) = logBit s.data.toList i := by
        have e0 : s[2 + i / 8] = s.data.toList.getD (2 + i / 8) 0 := by
          rw [get_data s (2 + i / 8) hq, List.getD_eq_getElem?_getD, List.getElem?_eq_getElem (by rw [← size_data]; exact hq)]
          rfl
        have e1 : ((s[2 + i / 8].toNat : Int) / 2 ^ (i % 8)) = ((s[2 + i / 8].toNat / 2 ^ (i % 8) : Nat) : Int) := by push_cast; rfl
        rw [e1, and_one8 _ (Nat.lt_of_le_of_lt (Nat.div_le_self _ _) s[2 + i / 8].toNat_lt), e0]
        unfold logBit
        generalize (s.data.toList.getD (2 + i / 8) 0).toNat / 2 ^ (i % 8) = x
        rcases Nat.mod_two_eq_zero_or_one x with h | h <;> rw [h] <;> rfl
      have hrd := fun w (h : DkAt w B d) => read_d B d.pg d.cut d.left d.torn (2001 + (psTo s i).length) (by omega) w h
      have HY : Hid (logBit s.data.toList i = true → psTo s (i + 1) = psTo s i ++ [i] ∧ lsTo d.pg s (i + 1) = lsTo d.pg s i ++ [pgGet d.pg (2001 + (psTo s i).length)]) := Lib.hid fun h => ⟨psTo_yes h, lsTo_yes h⟩
      have HN : Hid (logBit s.data.toList i = false → psTo s (i + 1) = psTo s i ∧ lsTo d.pg s (i + 1) = lsTo d.pg s i) := Lib.hid fun h => ⟨psTo_no h, lsTo_no h⟩
      rw [show ((2001 + (psTo s i).length : Nat) : Int) = 2001 + ((psTo s i).length : Int) by omega] at hrd
      cases hlb : logBit s.data.toList i
      · rw [hlb] at hbv
        obtain ⟨e1, e2⟩ := HN.out hlb
        have HP' : Hid (OwnV natV 3 w wr (.slice po (psTo s i).length pc) (psTo s (i + 1))) := Lib.hid (by rw [e1]; exact HP.out)
        have HL' : Hid (OwnV Value.string 9 w wr (.slice lo (psTo s i).length lc) (lsTo d.pg s (i + 1))) := Lib.hid (by rw [e2]; exact HL.out)
        clear hrd HY HN hlb e1 e2
        go_wp2_with fail
        refine ⟨⟨i + 1, by omega, by go_num, ?_, ?_, HPL.out, HG.out⟩, by simp [intOf]; omega⟩
        · exact HP'.out
        · exact HL'.out
      · rw [hlb] at hbv
        obtain ⟨e1, e2⟩ := HY.out hlb
        have E1 := Lib.hid e1
        have E2 := Lib.hid e2
        clear HY HN hlb e1 e2
        generalize pgGet d.pg (2001 + (psTo s i).length) = t at *
        go_wp2_with fail
        refine (hrd _ (HD.out.gr HG.out)).mono ?_
        rintro e w2 ⟨rfl, hg2⟩
        have HP2 := Lib.hid (HP.out.gr hg2)
        have HL2 := Lib.hid (HL.out.gr hg2)
        have HG2 := Lib.hid (HG.out.trans hg2)
        clear hrd
        go_wp2_with (first
          | (at_builtin; refine append_v (a0 := w) (enc := natV) rfl _ _ 59 3 _ 8 Try.underlying59 info_int1 rfl (by omega) rfl _ _ rfl HP2.out i rfl rfl (by omega) HG2.out ?_; intro pv3 w3 hp3 hg3 hm3
             obtain ⟨hl3, hd3⟩ := HL2.out.moved (fun b e1 e2 => HPL.out b e2 e1) hm3)
          | (at_builtin; refine append_v (a0 := w) (enc := Value.string) rfl _ _ 60 9 _ 16 Try.underlying60 info_str rfl (by omega) rfl _ _ rfl hl3 t rfl rfl (by rw [lsTo_len]; omega) hg3 ?_; intro lv4 w4 hl4 hg4 hm4))
        obtain ⟨hp4, hd4⟩ := hp3.moved (fun b e1 e2 => hd3 b e2 e1) hm4
        refine ⟨⟨i + 1, by omega, by go_num, ?_, ?_, hd4, hg4⟩, by simp [intOf]; omega⟩
        · rw [E1.out]
          exact hp4
        · rw [E2.out]
          exact hl4
    · obtain rfl : i = 2000 := by omega
      have HNB : Hid ((⟨(noteF (psTo s 2000) (datas (lsTo d.pg s 2000))).toArray⟩ : ByteArray) = noteB (psTo s 2000) (lsTo d.pg s 2000)) := Lib.hid rfl
      have hnt := note_g (psTo s 2000) (lsTo d.pg s 2000) (.slice po (psTo s 2000).length pc) (.slice lo (psTo s 2000).length lc) wr HP.out.row HL.out.row (by omega) (fun i h => by
        have := List.mem_range.1 (List.mem_filter.1 (List.getElem_mem h)).1
        exact this) (by rw [lsTo_len]; omega) (fun i h => by
        have := lsTo_sz HW.out s _ (List.getElem_mem h)
        omega)
      rw [HNB.out] at hnt
      have HL1 := Lib.hid (logged_is (pg := d.pg) HS.out)
      have hoff : ∀ {v : Value} {n : Nat} {xs : List Value} {e : TypeId}, wr.ownsRow w.heap.size e 1 v n xs → OffV v B := fun h b off n c e e2 => by
        have := ownBlock_ge h b (by rw [e]; rfl)
        omega
      have HOF := Lib.hid (And.intro (hoff HP.out) (hoff HL.out))
      clear hoff
      by_cases heq : noteB (psTo s 2000) (lsTo d.pg s 2000) = s
      · have HE := Lib.hid (HL1.out.1 heq)
        rw [heq] at hnt
        clear heq
        go_wp2_with fail
        refine hnt.mono ?_
        rintro e w5 ⟨rfl, hg5⟩
        clear hnt
        go_wp2_with fail
        go_ret2
        refine ⟨_, _, rfl, ?_, ?_, HOF.out.1, HOF.out.2, HG.out.trans hg5⟩
        · rw [HE.out.1]
          exact HP.out.row.gr hg5
        · rw [HE.out.2]
          exact HL.out.row.gr hg5
      · have HE := Lib.hid (HL1.out.2 heq)
        clear HL1 HNB
        generalize noteB (psTo s 2000) (lsTo d.pg s 2000) = nb at *
        have hb : (nb.toList == s.toList) = false := by
          rw [beq_eq_false_iff_ne]
          intro e
          rw [ByteArray.toList_eq, ByteArray.toList_eq] at e
          exact heq (data_ext e)
        have hb2 : (!nb.toList == s.toList) = true := by rw [hb]; rfl
        clear heq
        go_wp2_with fail
        refine hnt.mono ?_
        rintro e w5 ⟨rfl, hg5⟩
        clear hnt
        go_wp2_with fail
        go_ret2
        refine ⟨_, _, rfl, ?_, ?_, ?_, ?_, HG.out.trans hg5⟩
        · rw [HE.out.1]
          exact .inl ⟨rfl, rfl⟩
        · rw [HE.out.2]
          exact .inl ⟨rfl, rfl⟩
        · intro b off n c e
          cases e
        · intro b off n c e
          cases e
end Go.Proofs.Ytmjkalpjciddbaa

/-
  The contract of a pager's Commit.
-/
namespace Go.Proofs.Ytmjkalpjciddbaa
open Go Go.RowKit

/-- 'v[1:]', v a slice of numbers of the call's own. -/
theorem tail_nats {a0 w : World} {x : Nat} {xs : List Nat} {ao : Option Addr} {n c : Nat} (h : OwnV natV 3 a0 w (.slice ao n c) (x :: xs)) :
    ∃ ao2 c2, (∀ W, (Instr.slice 59 (.slice ao n c) (some (.int .i64 1)) none none).run Try.prog W = .ok (.slice ao2 xs.length c2) W) ∧ RowV natV w (.slice ao2 xs.length c2) xs ∧ ∀ b off, ao2 = some ⟨b, off, none⟩ → a0.heap.size ≤ b := by
  have hrow := h.row
  rcases h.2 with ⟨_, h0⟩ | ⟨g, cap, cur, hv, hb, _, hcap, _⟩
  · simp at h0
  · injection hv with e1 e2 e3
    subst e1 e2 e3
    simp only [List.length_cons] at hcap
    refine ⟨(if c = 1 then some ⟨g, 0, none⟩ else some ⟨g, 1, none⟩), c - 1, fun W => ?_, ?_, ?_⟩
    · have hr := run_slice_l (P := Try.prog) (w := W) 59 (some ⟨g, 0, none⟩) (xs.length + 1) c (by kernel_rfl) .i64 1 (by omega) (by omega)
      refine hr.trans ?_
      rw [show (Go.sizeOf (Try.prog.elem 59)).run Try.prog W = .ok 1 W by kernel_rfl]
      simp [Result.andThen, sliced, Addr.add]
    · rcases hrow with ⟨h1, _⟩ | ⟨b, off, c', h1, h2, h3⟩
      · cases h1
      · injection h1 with e1 e2 e3
        injection e1 with e1
        injection e1 with e1 e4
        subst e1 e4
        by_cases hc : c = 1
        · have hx : xs = [] := List.length_eq_zero_iff.1 (by omega)
          subst hx
          rw [if_pos hc]
          exact .inr ⟨g, 0, _, rfl, h2, fun i hi => absurd hi (by simp)⟩
        · rw [if_neg hc]
          refine .inr ⟨g, 1, _, rfl, h2, fun i hi => ?_⟩
          have := h3 (i + 1) (by simp; omega)
          rw [Nat.zero_add] at this
          rw [Nat.add_comm 1 i]
          simpa using this
    · intro b off e
      split at e <;> (injection e with e; injection e with e; omega)
theorem off_own {α : Type} {enc : α → Value} {e : TypeId} {a0 w : World} {v : Value} {xs : List α} (h : OwnV enc e a0 w v xs) {B : Nat} (hB : B < a0.heap.size) : OffV v B := fun b off n c e1 e2 => by
  have := ownBlock_ge h b (by rw [e1]; rfl)
  omega
def txF (F : Int → Option ByteArray) (ks : List Nat) (t : ByteArray) (i : Nat) : List ByteArray := t :: (ks.take i).map fun (k : Nat) => (F k).getD ⟨#[]⟩
theorem txF_next {F : Int → Option ByteArray} {ks : List Nat} {t : ByteArray} {i : Nat} (h : i < ks.length) : txF F ks t (i + 1) = txF F ks t i ++ [(F ks[i]).getD ⟨#[]⟩] := by
  unfold txF
  rw [List.take_succ_eq_append_getElem h, List.map_append]
  rfl
theorem txF_len (F : Int → Option ByteArray) (ks : List Nat) (t : ByteArray) (i : Nat) : (txF F ks t i).length ≤ ks.length + 1 := by
  simp [txF]
  omega
theorem sorted_off {w W : World} {v : Value} (h : ∀ b off n c, v = .slice (some ⟨b, off, none⟩) n c → W.heap.size ≤ b) (hle : w.heap.size ≤ W.heap.size) {B : Nat} (hB : B < w.heap.size) : OffV v B := fun b off n c e e2 => by
  have := h b off n c e
  omega
theorem grX_imp {S T : Nat → Prop} {w w' : World} (h : GrX S w w') (i : ∀ k, S k → T k) : GrX T w w' := ⟨h.1, h.2.1, h.2.2.1, h.2.2.2.1, fun k hk hs => h.2.2.2.2 k hk fun h' => hs (i k h')⟩
/-- What a commit leaves. -/
def Committed (PB DB M n : Nat) (h sv : Head) (F : Int → Option ByteArray) (times : Int) (w w' : World) (b : Bool) : Prop :=
  if b then ∃ M', PagerAt w' PB DB M' 0 h h (fun _ => none) false (times + 1) ∧ w.heap.size ≤ M' else PagerAt w' PB DB M n h sv F true times
end Go.Proofs.Ytmjkalpjciddbaa
