/-
  The contract of pager.logged.
-/
import Derived.Test.YtcdoeninajpbmaaGreatDoorPagD
import Derived.Test.YtcdoeninajpbmaaGreatDoorMov
namespace Go.Proofs.YtcdoeninajpbmaaGreatDoor
open Go Go.RowKit

def psTo (s : ByteArray) (i : Nat) : List Nat := (List.range i).filter (logBit s.data.toList)
def lsTo (pg : Nat → ByteArray) (s : ByteArray) (i : Nat) : List ByteArray := (List.range (psTo s i).length).map fun j => pgGet pg (2001 + j)
theorem psTo_len (s : ByteArray) (i : Nat) : (psTo s i).length ≤ i := by
  have := List.length_filter_le (logBit s.data.toList) (List.range i)
  simpa [psTo] using this
theorem lsTo_len (pg : Nat → ByteArray) (s : ByteArray) (i : Nat) : (lsTo pg s i).length = (psTo s i).length := by simp [lsTo]
theorem psTo_yes {s : ByteArray} {i : Nat} (h : logBit s.data.toList i = true) : psTo s (i + 1) = psTo s i ++ [i] := by
  unfold psTo
  rw [List.range_succ, List.filter_append, List.filter_cons_of_pos h]
  rfl
theorem psTo_no {s : ByteArray} {i : Nat} (h : logBit s.data.toList i = false) : psTo s (i + 1) = psTo s i := by
  unfold psTo
  rw [List.range_succ, List.filter_append, List.filter_cons_of_neg (by rw [h]; decide)]
  simp
theorem lsTo_yes {pg : Nat → ByteArray} {s : ByteArray} {i : Nat} (h : logBit s.data.toList i = true) : lsTo pg s (i + 1) = lsTo pg s i ++ [pgGet pg (2001 + (psTo s i).length)] := by
  unfold lsTo
  rw [psTo_yes h, List.length_append, List.length_singleton, List.range_succ, List.map_append]
  rfl
theorem lsTo_no {pg : Nat → ByteArray} {s : ByteArray} {i : Nat} (h : logBit s.data.toList i = false) : lsTo pg s (i + 1) = lsTo pg s i := by
  unfold lsTo
  rw [psTo_no h]
theorem lsTo_sz {d : Dk} (hw : d.whole) (s : ByteArray) : ∀ t ∈ lsTo d.pg s 2000, t.size = 1024 := by
  intro t ht
  obtain ⟨i, hi, rfl⟩ := List.mem_map.1 ht
  have := List.mem_range.1 hi
  have := psTo_len s 2000
  exact hw _ (by omega)
theorem logged_is {pg : Nat → ByteArray} {s : ByteArray} (hs : pgGet pg 2000 = s) : (noteB (psTo s 2000) (lsTo pg s 2000) = s → loggedP pg = psTo s 2000 ∧ loggedL pg = lsTo pg s 2000) ∧ (¬ noteB (psTo s 2000) (lsTo pg s 2000) = s → loggedP pg = [] ∧ loggedL pg = []) := by
  have e1 : logPs pg = psTo s 2000 := by
    unfold logPs psTo
    rw [hs]
  have e2 : logLs pg = lsTo pg s 2000 := by
    unfold logLs lsTo
    rw [e1]
  unfold loggedP loggedL
  rw [e1, e2, hs]
  exact ⟨fun h => by rw [if_pos h, if_pos h]; exact ⟨rfl, rfl⟩, fun h => by rw [if_neg h, if_neg h]; exact ⟨rfl, rfl⟩⟩
set_option maxRecDepth 100000 in
set_option maxHeartbeats 3200000 in
theorem logged_g (B : Nat) (d : Dk) (w : World) (hd : DkAt w B d) (hw : d.whole) :
    Calls Tryz.prog 21 #[.pointer (some ⟨B, 0, none⟩)] w fun e w' => ∃ pv lv, e = .returned (.tuple #[pv, lv]) ∧ RowV natV w' pv (loggedP d.pg) ∧ RowV Value.string w' lv (loggedL d.pg) ∧ OffV pv B ∧ OffV lv B ∧ Gr w w' := by
  have HD := Lib.hid hd
  have HW := Lib.hid hw
  have hlt := hd.lt
  clear hd hw
  obtain ⟨s, hs⟩ : ∃ s, pgGet d.pg 2000 = s := ⟨_, rfl⟩
  have hsz : s.size = 1024 := by rw [← hs]; exact HW.out 2000 (by omega)
  have HS := Lib.hid hs
  have hrd := fun w (h : DkAt w B d) => read_d B d.pg d.cut d.left d.torn 2000 (by omega) w h
  rw [hs] at hrd
  clear hs
  go_enter Tryz.func21, Tryz.ntmps21
  go_wp2_with fail
  refine (hrd _ HD.out).mono ?_
  rintro e w1 ⟨rfl, hg1⟩
  clear hrd
  go_wp2_with fail
  go_loopw [16, 6, 7] (fun kv pv lv w' => ∃ i : Nat, i ≤ 2000 ∧ kv = .int .i64 i ∧ OwnV natV 3 w w' pv (psTo s i) ∧ OwnV Value.string 9 w w' lv (lsTo d.pg s i) ∧ (∀ b, pv.ownBlock = some b → lv.ownBlock ≠ some b) ∧ Gr w w') (fun kv _ _ _ => 2000 - (intOf kv).toNat)
  case atStart => exact ⟨0, Nat.zero_le _, rfl, ownV_nil _ _ _ _, ownV_nil _ _ _ _, (fun b h => by cases h), hg1⟩
  case round =>
    obtain ⟨i, hi, rfl, hp, hl, hpl, hg⟩ := hrel
    obtain ⟨po, pc, rfl⟩ := hp.row.form
    obtain ⟨lo, lc, rfl⟩ := hl.row.form
    have hpn := psTo_len s i
    have hln := lsTo_len d.pg s i
    rw [hln] at hl hpl ⊢
    have HP := Lib.hid hp
    have HL := Lib.hid hl
    have HPL := Lib.hid hpl
    have HG := Lib.hid hg
    clear hp hl hpl hln
    by_cases hlt2 : i < 2000
    · have hq : 2 + i / 8 < s.size := by omega
      have hbv : (bits BinOp.and IntKind.u8 ((s[2 + i / 8].toNat : Int) / 2 ^ (i % 8)) 1 == 1) = logBit s.data.toList i := by
        have e0 : s[2 + i / 8] = s.data.toList.getD (2 + i / 8) 0 := by
          rw [get_data s (2 + i / 8) hq, List.getD_eq_getElem?_getD, List.getElem?_eq_getElem (by rw [← size_data]; exact hq)]
          rfl
        have e1 : ((s[2 + i / 8].toNat : Int) / 2 ^ (i % 8)) = ((s[2 + i / 8].toNat / 2 ^ (i % 8) : Nat) : Int) := by push_cast; rfl
        rw [e1, and_one8 _ (Nat.lt_of_le_of_lt (Nat.div_le_self _ _) s[2 + i / 8].toNat_lt), e0]
        unfold logBit
        generalize (s.data.toList.getD (2 + i / 8) 0).toNat / 2 ^ (i % 8) = x
        rcases Nat.mod_two_eq_zero_or_one x with h | h <;> rw [h] <;> rfl
      have hrd := fun w (h : DkAt w B d) => read_d B d.pg d.cut d.left d.torn (2001 + (psTo s i).length) (by omega) w h
      have HY : Hid (logBit s.data.toList i = true → psTo s (i + 1) = psTo s i ++ [i] ∧ lsTo d.pg s (i + 1) = lsTo d.pg s i ++ [pgGet d.pg (2001 + (psTo s i).length)]) := Lib.hid fun h => ⟨psTo_yes h, lsTo_yes h⟩
      have HN : Hid (logBit s.data.toList i = false → psTo s (i + 1) = psTo s i ∧ lsTo d.pg s (i + 1) = lsTo d.pg s i) := Lib.hid fun h => ⟨psTo_no h, lsTo_no h⟩
      rw [show ((2001 + (psTo s i).length : Nat) : Int) = 2001 + ((psTo s i).length : Int) by omega] at hrd
      cases hlb : logBit s.data.toList i
      · rw [hlb] at hbv
        obtain ⟨e1, e2⟩ := HN.out hlb
        have HP' : Hid (OwnV natV 3 w wr (.slice po (psTo s i).length pc) (psTo s (i + 1))) := Lib.hid (by rw [e1]; exact HP.out)
        have HL' : Hid (OwnV Value.string 9 w wr (.slice lo (psTo s i).length lc) (lsTo d.pg s (i + 1))) := Lib.hid (by rw [e2]; exact HL.out)
        clear hrd HY HN hlb e1 e2
        go_wp2_with fail
        refine ⟨⟨i + 1, by omega, by go_num, ?_, ?_, HPL.out, HG.out⟩, by simp [intOf]; omega⟩
        · exact HP'.out
        · exact HL'.out
      · rw [hlb] at hbv
        obtain ⟨e1, e2⟩ := HY.out hlb
        have E1 := Lib.hid e1
        have E2 := Lib.hid e2
        clear HY HN hlb e1 e2
        generalize pgGet d.pg (2001 + (psTo s i).length) = t at *
        go_wp2_with fail
        refine (hrd _ (HD.out.gr HG.out)).mono ?_
        rintro e w2 ⟨rfl, hg2⟩
        have HP2 := Lib.hid (HP.out.gr hg2)
        have HL2 := Lib.hid (HL.out.gr hg2)
        have HG2 := Lib.hid (HG.out.trans hg2)
        clear hrd
        go_wp2_with (first
          | (at_builtin; refine append_v (a0 := w) (enc := natV) rfl _ _ 67 3 _ 8 Tryz.underlying67 info_int1 rfl (by omega) rfl _ _ rfl HP2.out i rfl rfl (by omega) HG2.out ?_; intro pv3 w3 hp3 hg3 hm3
             obtain ⟨hl3, hd3⟩ := HL2.out.moved (fun b e1 e2 => HPL.out b e2 e1) hm3)
          | (at_builtin; refine append_v (a0 := w) (enc := Value.string) rfl _ _ 68 9 _ 16 Tryz.underlying68 info_str rfl (by omega) rfl _ _ rfl hl3 t rfl rfl (by rw [lsTo_len]; omega) hg3 ?_; intro lv4 w4 hl4 hg4 hm4))
        obtain ⟨hp4, hd4⟩ := hp3.moved (fun b e1 e2 => hd3 b e2 e1) hm4
        refine ⟨⟨i + 1, by omega, by go_num, ?_, ?_, hd4, hg4⟩, by simp [intOf]; omega⟩
        · rw [E1.out]
          exact hp4
        · rw [E2.out]
          exact hl4
    · obtain rfl : i = 2000 := by omega
      have HNB : Hid ((⟨(noteF (psTo s 2000) (datas (lsTo d.pg s 2000))).toArray⟩ : ByteArray) = noteB (psTo s 2000) (lsTo d.pg s 2000)) := Lib.hid rfl
      have hnt := note_g (psTo s 2000) (lsTo d.pg s 2000) (.slice po (psTo s 2000).length pc) (.slice lo (psTo s 2000).length lc) wr HP.out.row HL.out.row (by omega) (fun i h => by
        have := List.mem_range.1 (List.mem_filter.1 (List.getElem_mem h)).1
        exact this) (by rw [lsTo_len]; omega) (fun i h => by
        have := lsTo_sz HW.out s _ (List.getElem_mem h)
        omega)
      rw [HNB.out] at hnt
      have HL1 := Lib.hid (logged_is (pg := d.pg) HS.out)
      have hoff : ∀ {v : Value} {n : Nat} {xs : List Value} {e : TypeId}, wr.ownsRow w.heap.size e 1 v n xs → OffV v B := fun h b off n c e e2 => by
        have := ownBlock_ge h b (by rw [e]; rfl)
        omega
      have HOF := Lib.hid (And.intro (hoff HP.out) (hoff HL.out))
      clear hoff
      by_cases heq : noteB (psTo s 2000) (lsTo d.pg s 2000) = s
      · have HE := Lib.hid (HL1.out.1 heq)
        rw [heq] at hnt
        clear heq
        go_wp2_with fail
        refine hnt.mono ?_
        rintro e w5 ⟨rfl, hg5⟩
        clear hnt
        go_wp2_with fail
        go_ret2
        refine ⟨_, _, rfl, ?_, ?_, HOF.out.1, HOF.out.2, HG.out.trans hg5⟩
        · rw [HE.out.1]
          exact HP.out.row.gr hg5
        · rw [HE.out.2]
          exact HL.out.row.gr hg5
      · have HE := Lib.hid (HL1.out.2 heq)
        clear HL1 HNB
        generalize noteB (psTo s 2000) (lsTo d.pg s 2000) = nb at *
        have hb : (nb.toList == s.toList) = false := by
          rw [beq_eq_false_iff_ne]
          intro e
          rw [ByteArray.toList_eq, ByteArray.toList_eq] at e
          exact heq (data_ext e)
        have hb2 : (!nb.toList == s.toList) = true := by rw [hb]; rfl
        clear heq
        go_wp2_with fail
        refine hnt.mono ?_
        rintro e w5 ⟨rfl, hg5⟩
        clear hnt
        go_wp2_with fail
        go_ret2
        refine ⟨_, _, rfl, ?_, ?_, ?_, ?_, HG.out.trans hg5⟩
        · rw [HE.out.1]
          exact .inl ⟨rfl, rfl⟩
        · rw [HE.out.2]
          exact .inl ⟨rfl, rfl⟩
        · intro b off n c e
          cases e
        · intro b off n c e
          cases e
end Go.Proofs.YtcdoeninajpbmaaGreatDoor
