/-
  The contract of all, of the laws on pagers: all that a pager has, as one text.
-/
import Derived.Test.YtcdoeninajpbmaaDoorKpB
namespace Go.Proofs.YtcdoeninajpbmaaDoor
open Go Go.RowKit

theorem pageNow_size {c : Ch} (hc : c.fine) {d : Dk} (hw : d.whole) (k : Nat) (hk : k < 2000) : (pageNow d.pg c.F k).size = 1024 := by
  unfold pageNow
  split
  · rename_i s e
    exact (hc.dirty _ _ e).2.2
  · exact hw k (by omega)
theorem four_string (a b c d : UInt8) (w : World) : (convert 73 9 (.slice (some ⟨w.heap.size, 0, none⟩) 4 4)).run Tryd.prog (w.alloc (.cells #[.int .u8 (a.toNat : Int), .int .u8 (b.toNat : Int), .int .u8 (c.toNat : Int), .int .u8 (d.toNat : Int)] 5)) = .ok (.string ⟨#[a, b, c, d]⟩) (w.alloc (.cells #[.int .u8 (a.toNat : Int), .int .u8 (b.toNat : Int), .int .u8 (c.toNat : Int), .int .u8 (d.toNat : Int)] 5)) := by
  refine own_string (a0 := w) (l := [a, b, c, d]) ?_
  exact World.ownsRow_lit w #[.int .u8 (a.toNat : Int), .int .u8 (b.toNat : Int), .int .u8 (c.toNat : Int), .int .u8 (d.toNat : Int)] 4 (Nat.le_refl _) (by decide) rfl
theorem ba_list (s : ByteArray) : s = ⟨s.data.toList.toArray⟩ := data_ext (by simp)
set_option maxRecDepth 100000 in
set_option maxHeartbeats 4000000 in
theorem all_k (PB DB M n : Nat) (c : Ch) (sv : Head) (t : Int) (d : Dk) (w : World) (hp : PgS w PB DB M n c sv t d) (hc : c.fine) (hw : d.whole) :
    Calls Tryd.prog 8 #[.pointer (some ⟨PB, 0, none⟩)] w (Ret w (.string ⟨(allT c d.pg).toArray⟩)) := by
  have HP := Lib.hid hp
  have HSZ := Lib.hid (fun k hk => pageNow_size hc hw k hk)
  have HLN := Lib.hid (allP_len (c := c) (pg := d.pg) HSZ.out)
  have HRT := Lib.hid hc.head
  clear hp hc hw
  go_enter Tryd.func8, Tryd.ntmps8
  go_wp2_with fail
  go_loopw [4, 3] (fun kv sv' w' => ∃ i : Nat, i ≤ 59 ∧ kv = .int .i64 ((i : Int) + 1) ∧ sv' = .string ⟨(allP c d.pg i).toArray⟩ ∧ Gr w w') (fun kv _ _ => 60 - (intOf kv).toNat)
  case atStart => exact ⟨0, Nat.zero_le _, rfl, rfl, Gr.refl _⟩
  case round =>
    obtain ⟨i, hi, rfl, rfl, hg⟩ := hrel
    by_cases hlt : i < 59
    · have HNX := Lib.hid (allP_next c d.pg i)
      have hln := HLN.out i (by omega)
      have hps := HSZ.out (i + 1) (by omega)
      have hrd := fun w' (g : Gr w w') => read_s (HP.out.gr g) ((i : Int) + 1)
      rw [show ((i : Int) + 1).toNat = i + 1 by omega] at hrd
      generalize allP c d.pg i = l0 at *
      generalize pageNow d.pg c.F (i + 1) = pgB at *
      cases hu : inUse c.h ((i : Int) + 1)
      · rw [hu] at hrd HNX
        simp only [Bool.false_eq_true, if_false] at hrd
        have HNX2 : Hid (allP c d.pg (i + 1) = l0) := Lib.hid (by rw [HNX.out]; simp)
        clear hu HNX
        go_wp2_with fail
        refine (hrd _ hg).mono ?_
        rintro e w1 ⟨rfl, hg1⟩
        go_wp2_with fail
        refine ⟨⟨i + 1, by omega, by go_num, by rw [HNX2.out], hg.trans hg1⟩, by simp [intOf]; omega⟩
      · rw [hu] at hrd HNX
        simp only [if_true] at hrd
        have HNX2 : Hid (allP c d.pg (i + 1) = l0 ++ ((i + 1).toUInt8 :: pgB.data.toList)) := Lib.hid (by rw [HNX.out]; rfl)
        have hcb : (((i + 1).toUInt8).toNat : Int) = (i : Int) + 1 := by
          show (((i + 1) % 256 : Nat) : Int) = _
          omega
        have hon := fun w => one_string ((i + 1).toUInt8) ((i : Int) + 1) hcb.symm w
        have hpl : pgB.data.toList.length = 1024 := by rw [← size_data]; exact hps
        have ha1 := add_bytes [(i + 1).toUInt8] pgB.data.toList (by rw [hpl]; simp)
        have ha2 := add_bytes l0 ([(i + 1).toUInt8] ++ pgB.data.toList) (by rw [List.length_append, hpl]; simp; omega)
        rw [← ba_list pgB] at ha1
        clear hu HNX hcb hps
        generalize (i + 1).toUInt8 = cb at *
        go_wp2_with fail
        refine (hrd _ hg).mono ?_
        rintro e w1 ⟨rfl, hg1⟩
        have hgg := hg.trans hg1
        go_wp2_with fail
        refine ⟨⟨i + 1, by omega, by go_num, by rw [HNX2.out]; rfl, ?_⟩, by simp [intOf]; omega⟩
        exact hgg.alloc _
    · obtain rfl : i = 59 := by omega
      have hl59 := HLN.out 59 (by omega)
      generalize hA59 : allP c d.pg 59 = l59 at *
      have HA59 := Lib.hid hA59
      have hgw := hg
      clear hA59 hg
      rw [show (((59 : Nat) : Int) + 1) = 60 from rfl]
      go_wp2_with fail
      go_loopw [7, 3] (fun kv sv' w' => ∃ i : Nat, i ≤ 8 ∧ kv = .int .i64 i ∧ sv' = .string ⟨(l59 ++ rootsF c.h i).toArray⟩ ∧ Gr w w') (fun kv _ _ => 8 - (intOf kv).toNat)
      case atStart => exact ⟨0, Nat.zero_le _, rfl, by simp [rootsF], hgw⟩
      case round =>
        obtain ⟨i, hi, rfl, rfl, hg⟩ := hrel
        have hrl := rootsF_len c.h i
        by_cases hlt2 : i < 8
        · have HNX := Lib.hid (rootsF_next c.h i)
          have hrt := fun w' (g : Gr w w') => root_s (HP.out.gr g) i hlt2
          obtain ⟨q1, q2⟩ := HRT.out.root i hlt2
          obtain ⟨q3, q4⟩ := HRT.out.note i hlt2
          generalize rootsF c.h i = l0 at *
          generalize c.h.roots i = r at *
          generalize c.h.notes i = m at *
          have h1 : IntKind.u8.wrap (r / 256) = ((((r / 256) % 256).toNat.toUInt8.toNat : Nat) : Int) := by rw [IntKind.wrap_u8]; simp; omega
          have h2 : IntKind.u8.wrap r = (((r % 256).toNat.toUInt8.toNat : Nat) : Int) := by rw [IntKind.wrap_u8]; simp; omega
          have h3 : IntKind.u8.wrap (m / 256) = ((((m / 256) % 256).toNat.toUInt8.toNat : Nat) : Int) := by rw [IntKind.wrap_u8]; simp; omega
          have h4 : IntKind.u8.wrap m = (((m % 256).toNat.toUInt8.toNat : Nat) : Int) := by rw [IntKind.wrap_u8]; simp; omega
          have hz : Hid (rootsF c.h (i + 1) = l0 ++ [((r / 256) % 256).toNat.toUInt8, (r % 256).toNat.toUInt8, ((m / 256) % 256).toNat.toUInt8, (m % 256).toNat.toUInt8]) := Lib.hid (by rw [HNX.out]; rfl)
          generalize ((r / 256) % 256).toNat.toUInt8 = x1 at *
          generalize (r % 256).toNat.toUInt8 = x2 at *
          generalize ((m / 256) % 256).toNat.toUInt8 = x3 at *
          generalize (m % 256).toNat.toUInt8 = x4 at *
          have hfs := fun w => four_string x1 x2 x3 x4 w
          have ha := add_bytes (l59 ++ l0) [x1, x2, x3, x4] (by rw [List.length_append]; simp; omega)
          clear HNX
          go_wp2_with fail
          refine (hrt _ hg).mono ?_
          rintro e w1 ⟨rfl, hg1⟩
          have hgg := hg.trans hg1
          go_wp2_with fail
          refine ⟨⟨i + 1, by omega, by go_num, by rw [hz.out], hgg.alloc _⟩, by simp [intOf]; omega⟩
        · obtain rfl : i = 8 := by omega
          have hus := fun w' (g : Gr w w') => used_s (HP.out.gr g)
          have HUL := usedN_le c.h 2000
          have hcb : IntKind.u8.wrap ((usedN c.h 2000 : Nat) : Int) = (((usedN c.h 2000).toUInt8.toNat : Nat) : Int) := by
            rw [IntKind.wrap_u8]
            show _ = (((usedN c.h 2000) % 256 : Nat) : Int)
            omega
          have hon := fun w => one_string ((usedN c.h 2000).toUInt8) _ rfl w
          have ha := add_bytes (l59 ++ rootsF c.h 8) [(usedN c.h 2000).toUInt8] (by rw [List.length_append]; simp; omega)
          have HT : Hid ((⟨(allT c d.pg).toArray⟩ : ByteArray) = ⟨(l59 ++ rootsF c.h 8 ++ [(usedN c.h 2000).toUInt8]).toArray⟩) := Lib.hid (by unfold allT; rw [HA59.out])
          generalize rootsF c.h 8 = r8 at *
          generalize usedN c.h 2000 = un at *
          generalize un.toUInt8 = ub at *
          go_wp2_with fail
          refine (hus _ hg).mono ?_
          rintro e w1 ⟨rfl, hg1⟩
          have hgg := hg.trans hg1
          go_wp2_with fail
          go_ret
          rw [HT.out]
          refine Ret.mk ?_ (hgg.alloc _)
          show Value.string ⟨(l59 ++ (r8 ++ [ub])).toArray⟩ = _
          rw [List.append_assoc]
end Go.Proofs.YtcdoeninajpbmaaDoor
