/-
  The contract of pager.reads.
-/
import Derived.Test.YtcdoeninajpbmaaGreatDoorPagW
import Derived.Test.YtcdoeninajpbmaaGreatDoorPagH
namespace Go.Proofs.YtcdoeninajpbmaaGreatDoor
open Go Go.RowKit

theorem and_one8 (n : Nat) (h : n < 256) : bits BinOp.and IntKind.u8 (n : Int) 1 = ((n % 2 : Nat) : Int) := by
  show IntKind.u8.wrap ((BitVec.ofInt 8 (n : Int) &&& BitVec.ofInt 8 ((1 : Nat) : Int)).toNat : Int) = _
  have e : ∀ m : Nat, m < 256 → (BitVec.ofInt 8 (m : Int)).toNat = m := fun m hm => by
    rw [BitVec.toNat_ofInt]
    omega
  rw [BitVec.toNat_and, e n h, e 1 (by omega), Nat.and_two_pow_sub_one_eq_mod n 1]
  show ((n % 2 ^ 1 : Nat) : Int) % 256 = _
  omega
def bitF (l : List UInt8) (i : Nat) : Bool := (l.getD (i / 8) 0).toNat / 2 ^ (i % 8) % 2 == 1
def readsTo (l : List UInt8) (i : Nat) : Head := ⟨fun j => decide (j < i) && bitF l j, fun _ => 0, fun _ => 0⟩
theorem readsTo_next (l : List UInt8) (i : Nat) : ((readsTo l i).put i (bitF l i)).same (readsTo l (i + 1)) :=
  ⟨fun j hj => by
    show (if j = i then bitF l i else decide (j < i) && bitF l j) = (decide (j < i + 1) && bitF l j)
    by_cases e : j = i
    · subst e
      rw [if_pos rfl, decide_eq_true (Nat.lt_succ_self j), Bool.true_and]
    · rw [if_neg e]
      congr 1
      rw [decide_eq_decide]
      omega, fun _ _ => ⟨rfl, rfl⟩⟩
theorem extract_drop (s : ByteArray) (a b : Nat) (hb : s.size ≤ b) : (s.extract a b).data.toList = s.data.toList.drop a := by
  rw [Lib.extract_data, List.take_of_length_le]
  rw [List.length_drop, ← size_data]
  omega
theorem fromF_drop (l : List UInt8) (k i : Nat) : fromF (l.drop k) i = fromF l (k + i) := by
  unfold fromF
  simp only [List.getD_eq_getElem?_getD, List.getElem?_drop]
  rw [Nat.add_assoc]
def readsOn (l : List UInt8) (n : Nat) : Head := ⟨fun j => bitF l j, fun j => if j < n then fromF l (250 + 4 * j) else 0, fun j => if j < n then fromF l (252 + 4 * j) else 0⟩
theorem readsOn_next (l : List UInt8) (n : Nat) : ((readsOn l n).setRoot n (fromF l (250 + 4 * n)) (fromF l (252 + 4 * n))).same (readsOn l (n + 1)) :=
  ⟨fun _ _ => rfl, fun j hj => by
    constructor
    · show (if j = n then fromF l (250 + 4 * n) else if j < n then fromF l (250 + 4 * j) else 0) = if j < n + 1 then fromF l (250 + 4 * j) else 0
      by_cases e : j = n
      · subst e
        rw [if_pos rfl, if_pos (by omega)]
      · rw [if_neg e]
        by_cases e2 : j < n
        · rw [if_pos e2, if_pos (by omega)]
        · rw [if_neg e2, if_neg (by omega)]
    · show (if j = n then fromF l (252 + 4 * n) else if j < n then fromF l (252 + 4 * j) else 0) = if j < n + 1 then fromF l (252 + 4 * j) else 0
      by_cases e : j = n
      · subst e
        rw [if_pos rfl, if_pos (by omega)]
      · rw [if_neg e]
        by_cases e2 : j < n
        · rw [if_pos e2, if_pos (by omega)]
        · rw [if_neg e2, if_neg (by omega)]⟩
theorem readsOn_all (l : List UInt8) : ((readsOn l 8).put 0 true).same (readsF l) :=
  ⟨fun j hj => by
    show (if j = 0 then true else bitF l j) = (j == 0 || bitF l j)
    by_cases e : j = 0
    · subst e
      rfl
    · rw [if_neg e, show (j == 0) = false by simpa using e, Bool.false_or], fun j hj => by
    constructor
    · show (if j < 8 then fromF l (250 + 4 * j) else 0) = fromF l (250 + 4 * j)
      rw [if_pos hj]
    · show (if j < 8 then fromF l (252 + 4 * j) else 0) = fromF l (252 + 4 * j)
      rw [if_pos hj]⟩
set_option maxRecDepth 100000 in
set_option maxHeartbeats 1600000 in
theorem reads_g (s : ByteArray) (hs : s.size = 1024) (w : World) : Calls Tryz.prog 24 #[.string s] w (Ret w (.agg (readsF s.data.toList).cells.toArray)) := by
  go_enter Tryz.func24, Tryz.ntmps24
  go_wp2_with fail
  have z0 : HeadAt ((w.alloc (.cells Tryz.zeroCells43 43)).alloc (.cells Tryz.zeroCells43 43)) w.heap.size 0 head0 := (head_new w).gr ((Gr.refl _).alloc _)
  have z1 : HeadAt ((w.alloc (.cells Tryz.zeroCells43 43)).alloc (.cells Tryz.zeroCells43 43)) (w.heap.size + 1) 0 head0 := by
    have := head_new (w.alloc (.cells Tryz.zeroCells43 43))
    simpa using this
  have f0 : ∀ j, ((w.alloc (.cells Tryz.zeroCells43 43)).alloc (.cells Tryz.zeroCells43 43)).frozen? ⟨w.heap.size, j, none⟩ = false := fun j => by simp
  have f1 : ∀ j, ((w.alloc (.cells Tryz.zeroCells43 43)).alloc (.cells Tryz.zeroCells43 43)).frozen? ⟨w.heap.size + 1, j, none⟩ = false := fun j => by simp
  have hg0 : Gr w ((w.alloc (.cells Tryz.zeroCells43 43)).alloc (.cells Tryz.zeroCells43 43)) := ((Gr.refl w).alloc _).alloc _
  generalize ((w.alloc (.cells Tryz.zeroCells43 43)).alloc (.cells Tryz.zeroCells43 43)) = w0 at *
  have HS := Lib.hid hs
  go_loopw [7] (fun kv w' => ∃ i : Nat, i ≤ 2000 ∧ kv = .int .i64 i ∧ HeadAt w' (w.heap.size + 1) 0 (readsTo s.data.toList i) ∧ HeadAt w' w.heap.size 0 head0 ∧ (∀ j, w'.frozen? ⟨w.heap.size, j, none⟩ = false) ∧ (∀ j, w'.frozen? ⟨w.heap.size + 1, j, none⟩ = false) ∧ Gr w w') (fun kv _ => 2000 - (intOf kv).toNat)
  case atStart => exact ⟨0, Nat.zero_le _, rfl, z1.same ⟨fun j _ => by simp [readsTo, head0], fun _ _ => ⟨rfl, rfl⟩⟩, z0, f0, f1, hg0⟩
  case round =>
    obtain ⟨i, hi, rfl, ha, hb, hfa, hfb, hg⟩ := hrel
    by_cases hlt : i < 2000
    · have c0 := ha.used i hlt
      have c1 := hfb i
      rw [Nat.zero_add] at c0
      have hq : i / 8 < s.size := by omega
      have hbv : (bits BinOp.and IntKind.u8 ((s[i / 8].toNat : Int) / 2 ^ (i % 8)) 1 == 1) = bitF s.data.toList i := by
        have e0 : s[i / 8] = s.data.toList.getD (i / 8) 0 := by
          rw [get_data s (i / 8) hq, List.getD_eq_getElem?_getD, List.getElem?_eq_getElem (by rw [← size_data]; exact hq)]
          rfl
        have e1 : ((s[i / 8].toNat : Int) / 2 ^ (i % 8)) = ((s[i / 8].toNat / 2 ^ (i % 8) : Nat) : Int) := by push_cast; rfl
        rw [e1, and_one8 _ (Nat.lt_of_le_of_lt (Nat.div_le_self _ _) s[i / 8].toNat_lt), e0]
        unfold bitF
        generalize (s.data.toList.getD (i / 8) 0).toNat / 2 ^ (i % 8) = x
        rcases Nat.mod_two_eq_zero_or_one x with h | h <;> rw [h] <;> rfl
      have HB := Lib.hid hbv
      clear hbv
      go_wp2_with fail
      refine ⟨⟨i + 1, by omega, by go_num, ?_, hb.keepX (GrX.setCell (S := fun k => k = w.heap.size + 1) wr _ rfl) (by omega), fun j => by simpa using hfa j, fun j => by simpa using hfb j, hg.setCell (by simp) _⟩, by simp [intOf]; omega⟩
      rw [HB.out]
      have := ha.put hlt (bitF s.data.toList i)
      rw [Nat.zero_add] at this
      exact this.same (readsTo_next _ _)
    · have hi2 : i = 2000 := by omega
      subst hi2
      go_wp2_with fail
      go_loopw [23] (fun kv w' => ∃ i : Nat, i ≤ 8 ∧ kv = .int .i64 i ∧ HeadAt w' (w.heap.size + 1) 0 (readsOn s.data.toList i) ∧ HeadAt w' w.heap.size 0 head0 ∧ (∀ j, w'.frozen? ⟨w.heap.size, j, none⟩ = false) ∧ (∀ j, w'.frozen? ⟨w.heap.size + 1, j, none⟩ = false) ∧ Gr w w') (fun kv _ => 8 - (intOf kv).toNat)
      case atStart => exact ⟨0, Nat.zero_le _, rfl, ha.same ⟨fun j hj => by simp [readsTo, readsOn, hj], fun _ _ => by simp [readsTo, readsOn]⟩, hb, hfa, hfb, hg⟩
      case round =>
        obtain ⟨i, hi, rfl, ha, hb, hfa, hfb, hg⟩ := hrel
        by_cases hlt : i < 8
        · have c0 := ha.root i hlt
          have c1 := ha.note i hlt
          have z0 := hfb (2000 + i)
          have z1 := hfb (2008 + i)
          rw [Nat.zero_add] at c0 c1
          have hsz : (s.extract (250 + 4 * i) 1024).size = 774 - 4 * i := by rw [ByteArray.size_extract]; omega
          have hbd : 250 + 4 * (i : Int) ≤ (s.size : Int) := by omega
          go_wp2_with fail
          obtain ⟨t, hT⟩ : ∃ t, s.extract (250 + 4 * i) 1024 = t := ⟨_, rfl⟩
          have e1 : fromF t.data.toList 0 = fromF s.data.toList (250 + 4 * i) := by
            rw [← hT, extract_drop s _ _ (by omega), fromF_drop, Nat.add_zero]
          have e2 : fromF (t.extract 2 t.size).data.toList 0 = fromF s.data.toList (252 + 4 * i) := by
            rw [extract_drop t _ _ (Nat.le_refl _), ← hT, extract_drop s _ _ (by omega), List.drop_drop, fromF_drop]
            congr 1
            omega
          rw [hT] at hsz ⊢
          have ht2 : (2 : Int) ≤ (t.size : Int) := by omega
          have r1 := fun w => from_g t (by omega) w
          rw [e1] at r1
          have r2 := fun w => from_g (t.extract 2 t.size) (by rw [ByteArray.size_extract]; omega) w
          rw [e2] at r2
          clear hsz hT e1 e2
          generalize hq0 : fromF s.data.toList (250 + 4 * i) = q0 at r1
          generalize hq1 : fromF s.data.toList (252 + 4 * i) = q1 at r2
          have HQ0 := Lib.hid hq0
          have HQ1 := Lib.hid hq1
          clear hq0 hq1
          go_region_with (first
            | (go_at_call_of 38 (Value.string t); refine (r1 _).mono ?_; rintro e w2 ⟨rfl, rfl⟩)
            | (go_at_call 38; refine (r2 _).mono ?_; rintro e w2 ⟨rfl, rfl⟩))
          all_goals
            go_wp2_with fail
            go_roundw
            case rel =>
              refine ⟨_, _, _, _, _, _, _, _, _, _, _, _, _, _, _, _, _, _, _, _, _, _, ?_, rfl⟩
              have g3 : ∀ W : World, Gr W W.drew.drew.drew := fun W => (((Gr.refl W).drew).drew).drew
              have ha1 := (ha.putRoot hlt q0).putNote hlt q1
              rw [Nat.zero_add, Nat.zero_add, Head.put_both] at ha1
              have hx := (GrX.setCell (S := fun k => k = w.heap.size + 1) (p := ⟨w.heap.size + 1, 2000 + i, none⟩) wr (.int .i64 q0) rfl).trans (GrX.setCell (p := ⟨w.heap.size + 1, 2008 + i, none⟩) _ (.int .i64 q1) rfl)
              refine ⟨i + 1, by omega, by go_num, ?_, (hb.keepX hx (by omega)).gr (g3 _), fun j => by simpa using hfa j, fun j => by simpa using hfb j, (hx.gr hg (fun k hk => by omega)).trans (g3 _)⟩
              rw [← HQ0.out, ← HQ1.out] at ha1
              rw [← HQ0.out, ← HQ1.out]
              exact (ha1.same (readsOn_next _ _)).gr (g3 _)
            case measure =>
              simp [intOf]
              omega
        · have hi8 : i = 8 := by omega
          subst hi8
          have c0 := ha.used 0 (by omega)
          have z0 := hfb 0
          rw [Nat.zero_add] at c0
          have ha2 := (ha.put (show 0 < 2000 by omega) true).same (readsOn_all s.data.toList)
          rw [Nat.zero_add] at ha2
          have hx := GrX.setCell (S := fun k => k = w.heap.size + 1) (p := ⟨w.heap.size + 1, 0, none⟩) wr (.bool true) rfl
          have hb2 := hb.keepX hx (by omega)
          have hf2 : ∀ j, (wr.setCell ⟨w.heap.size + 1, 0, none⟩ (.bool true)).frozen? ⟨w.heap.size, j, none⟩ = false := fun j => by simpa using hfa j
          have hgx := hx.gr hg (fun k hk => by omega)
          have hth : (wr.setCell ⟨w.heap.size + 1, 0, none⟩ (.bool true)).there w.heap.size 0 (readsF s.data.toList).cells.toArray.size := by
            rw [Head.arr_len]
            exact hb2.there hf2
          have HRG := Lib.hid ha2.range
          have HTH := Lib.hid hth
          clear hth
          have ho := hb2.over hf2 (readsF s.data.toList)
          have hgy := (setCells_block w.heap.size (readsF s.data.toList).cells 0 (wr.setCell ⟨w.heap.size + 1, 0, none⟩ (.bool true))).gr hgx (fun k hk => by omega)
          have HO := Lib.hid ho
          have HGY := Lib.hid hgy
          clear ha2 hb2 ho hgy ha hb hfa hfb hf2
          go_wp2_with (first
            | (refine wpList_load_mid rfl 43 _ rfl (w.heap.size + 1) 0 rfl _ _ HRG.out Tryz.underlying43 rfl (by rw [info_head, Head.cells_len]) ?_)
            | (refine wpList_store_mid rfl 43 _ _ rfl w.heap.size 0 _ rfl rfl HTH.out (by rw [info_head, Head.arr_len]) (all_oneCell_toArray (Head.cells_one _)) ?_))
          refine bodyPost_ret (v := .agg (readsF s.data.toList).cells.toArray) ?_ rfl ⟨rfl, HGY.out⟩
          have hld := run_loadVar_mid (P := Tryz.prog) ((wr.setCell ⟨w.heap.size + 1, 0, none⟩ (.bool true)).setCells w.heap.size 0 (readsF s.data.toList).cells) w.heap.size 0 43 _ _ HO.out.range Tryz.underlying43 rfl (by rw [info_head, Head.cells_len])
          exact results_cell rfl rfl hld
end Go.Proofs.YtcdoeninajpbmaaGreatDoor
