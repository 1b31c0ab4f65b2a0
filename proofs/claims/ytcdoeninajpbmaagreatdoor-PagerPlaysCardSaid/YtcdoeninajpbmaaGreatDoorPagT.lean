/-
  The contract of a head's text.
-/
import Derived.Test.YtcdoeninajpbmaaGreatDoorPagR
import Derived.Test.YtcdoeninajpbmaaGreatDoorBld
namespace Go.Proofs.YtcdoeninajpbmaaGreatDoor
open Go Go.RowKit

theorem below_head {b : Nat} {w w' : World} {h : Head} (a : HeadAt w b 0 h) (g : Below (b + 1) w w') : HeadAt w' b 0 h :=
  ⟨fun i hi => by rw [Below.cell (p := ⟨b, 0 + i, none⟩) g (Nat.lt_succ_self b)]; exact a.used i hi, fun i hi => by rw [Below.cell (p := ⟨b, 0 + 2000 + i, none⟩) g (Nat.lt_succ_self b)]; exact a.root i hi, fun i hi => by rw [Below.cell (p := ⟨b, 0 + 2008 + i, none⟩) g (Nat.lt_succ_self b)]; exact a.note i hi⟩
theorem or_pow8 (x k : Nat) (hx : x < 2 ^ k) (hk : k < 8) : bits BinOp.or IntKind.u8 (x : Int) ((2 ^ k : Nat) : Int) = ((x + 2 ^ k : Nat) : Int) := by
  show IntKind.u8.wrap ((BitVec.ofInt 8 (x : Int) ||| BitVec.ofInt 8 ((2 ^ k : Nat) : Int)).toNat : Int) = _
  have hp : 2 ^ k ≤ 128 := by
    have : (2 : Nat) ^ k ≤ 2 ^ 7 := Nat.pow_le_pow_right (by omega) (by omega)
    omega
  have e : ∀ m : Nat, m < 256 → (BitVec.ofInt 8 (m : Int)).toNat = m := fun m hm => by
    rw [BitVec.toNat_ofInt]
    omega
  rw [BitVec.toNat_or, e x (by omega), e _ (by omega)]
  have h := Nat.two_pow_add_eq_or_of_lt (i := k) (b := x) hx 1
  rw [Nat.mul_one] at h
  rw [Nat.or_comm, ← h]
  show ((2 ^ k + x : Nat) : Int) % 256 = _
  omega
theorem mapF_next (u : Nat → Bool) {m : Nat} (hm : m < 250) : (mapF u).take (m + 1) = (mapF u).take m ++ [(bits8 u (8 * m) 8).toUInt8] := by
  rw [List.take_succ_eq_append_getElem (by rw [mapF_len]; exact hm)]
  simp [mapF]
theorem rootsF_next (h : Head) (n : Nat) : rootsF h (n + 1) = rootsF h n ++ (two8 (h.roots n) ++ two8 (h.notes n)) := by
  unfold rootsF
  rw [List.range_succ, List.flatMap_append]
  simp
theorem index_root0 (f : Nat → Int) (W : World) : (Instr.index 41 (.agg #[.int .i64 (f 0), .int .i64 (f 1), .int .i64 (f 2), .int .i64 (f 3), .int .i64 (f 4), .int .i64 (f 5), .int .i64 (f 6), .int .i64 (f 7)]) (.int .i64 0)).run Tryz.prog W = .ok (.int .i64 (f 0)) W := by kernel_rfl
theorem index_root1 (f : Nat → Int) (W : World) : (Instr.index 41 (.agg #[.int .i64 (f 0), .int .i64 (f 1), .int .i64 (f 2), .int .i64 (f 3), .int .i64 (f 4), .int .i64 (f 5), .int .i64 (f 6), .int .i64 (f 7)]) (.int .i64 1)).run Tryz.prog W = .ok (.int .i64 (f 1)) W := by kernel_rfl
theorem index_root2 (f : Nat → Int) (W : World) : (Instr.index 41 (.agg #[.int .i64 (f 0), .int .i64 (f 1), .int .i64 (f 2), .int .i64 (f 3), .int .i64 (f 4), .int .i64 (f 5), .int .i64 (f 6), .int .i64 (f 7)]) (.int .i64 2)).run Tryz.prog W = .ok (.int .i64 (f 2)) W := by kernel_rfl
theorem index_root3 (f : Nat → Int) (W : World) : (Instr.index 41 (.agg #[.int .i64 (f 0), .int .i64 (f 1), .int .i64 (f 2), .int .i64 (f 3), .int .i64 (f 4), .int .i64 (f 5), .int .i64 (f 6), .int .i64 (f 7)]) (.int .i64 3)).run Tryz.prog W = .ok (.int .i64 (f 3)) W := by kernel_rfl
theorem index_root4 (f : Nat → Int) (W : World) : (Instr.index 41 (.agg #[.int .i64 (f 0), .int .i64 (f 1), .int .i64 (f 2), .int .i64 (f 3), .int .i64 (f 4), .int .i64 (f 5), .int .i64 (f 6), .int .i64 (f 7)]) (.int .i64 4)).run Tryz.prog W = .ok (.int .i64 (f 4)) W := by kernel_rfl
theorem index_root5 (f : Nat → Int) (W : World) : (Instr.index 41 (.agg #[.int .i64 (f 0), .int .i64 (f 1), .int .i64 (f 2), .int .i64 (f 3), .int .i64 (f 4), .int .i64 (f 5), .int .i64 (f 6), .int .i64 (f 7)]) (.int .i64 5)).run Tryz.prog W = .ok (.int .i64 (f 5)) W := by kernel_rfl
theorem index_root6 (f : Nat → Int) (W : World) : (Instr.index 41 (.agg #[.int .i64 (f 0), .int .i64 (f 1), .int .i64 (f 2), .int .i64 (f 3), .int .i64 (f 4), .int .i64 (f 5), .int .i64 (f 6), .int .i64 (f 7)]) (.int .i64 6)).run Tryz.prog W = .ok (.int .i64 (f 6)) W := by kernel_rfl
theorem index_root7 (f : Nat → Int) (W : World) : (Instr.index 41 (.agg #[.int .i64 (f 0), .int .i64 (f 1), .int .i64 (f 2), .int .i64 (f 3), .int .i64 (f 4), .int .i64 (f 5), .int .i64 (f 6), .int .i64 (f 7)]) (.int .i64 7)).run Tryz.prog W = .ok (.int .i64 (f 7)) W := by kernel_rfl
theorem index_roots (f : Nat → Int) (m : Nat) (hm : m < 8) : ∀ W, (Instr.index 41 (.agg #[.int .i64 (f 0), .int .i64 (f 1), .int .i64 (f 2), .int .i64 (f 3), .int .i64 (f 4), .int .i64 (f 5), .int .i64 (f 6), .int .i64 (f 7)]) (.int .i64 (m : Int))).run Tryz.prog W = .ok (.int .i64 (f m)) W := by
  intro W
  have : m = 0 ∨ m = 1 ∨ m = 2 ∨ m = 3 ∨ m = 4 ∨ m = 5 ∨ m = 6 ∨ m = 7 := by omega
  rcases this with rfl | rfl | rfl | rfl | rfl | rfl | rfl | rfl
  · exact index_root0 f W
  · exact index_root1 f W
  · exact index_root2 f W
  · exact index_root3 f W
  · exact index_root4 f W
  · exact index_root5 f W
  · exact index_root6 f W
  · exact index_root7 f W
theorem text_round {w wr W w4 : World} {h : Head} (hg : Gr w wr) (hsz : w.heap.size + 1 ≤ wr.heap.size) (ha : HeadAt wr w.heap.size 0 h) (g : Gr wr W) (hb : Below (w.heap.size + 1) W w4) : HeadAt w4 w.heap.size 0 h ∧ w.heap.size + 1 ≤ w4.heap.size ∧ Gr w w4 :=
  ⟨below_head (ha.gr g) hb, Nat.le_trans hsz (Nat.le_trans g.size hb.size), Below.trans (hg.trans g) (hb.mono (by omega))⟩
set_option maxRecDepth 100000 in
set_option maxHeartbeats 1600000 in
theorem text_g (h : Head) (w : World) : Calls Tryz.prog 34 #[.agg h.cells.toArray] w (Ret w (.string ⟨(textF h).toArray⟩)) := by
  go_enter Tryz.func34, Tryz.ntmps34
  go_wp2_with fail
  have z0 : HeadAt ((w.alloc (.cells h.cells.toArray 43)).alloc (.cells #[.pointer none, .slice none 0 0] 101)) w.heap.size 0 h := (HeadAt.box w h _).gr ((Gr.refl _).alloc _)
  have z1 : Bld (w.heap.size + 1) (w.heap.size + 1) [] ((w.alloc (.cells h.cells.toArray 43)).alloc (.cells #[.pointer none, .slice none 0 0] 101)) := by
    have := Bld.new (w.alloc (.cells h.cells.toArray 43))
    simpa using this
  have hg0 : Gr w ((w.alloc (.cells h.cells.toArray 43)).alloc (.cells #[.pointer none, .slice none 0 0] 101)) := ((Gr.refl w).alloc _).alloc _
  have hs0 : w.heap.size + 1 ≤ ((w.alloc (.cells h.cells.toArray 43)).alloc (.cells #[.pointer none, .slice none 0 0] 101)).heap.size := by simp
  generalize ((w.alloc (.cells h.cells.toArray 43)).alloc (.cells #[.pointer none, .slice none 0 0] 101)) = w0 at *
  go_loopw [4] (fun kv w' => ∃ m : Nat, m ≤ 250 ∧ kv = .int .i64 (8 * (m : Int)) ∧ Bld (w.heap.size + 1) (w.heap.size + 1) ((mapF h.used).take m) w' ∧ HeadAt w' w.heap.size 0 h ∧ w.heap.size + 1 ≤ w'.heap.size ∧ Gr w w') (fun kv _ => 2000 - (intOf kv).toNat)
  case atStart => exact ⟨0, Nat.zero_le _, rfl, z1, z0, hs0, hg0⟩
  case round =>
    obtain ⟨m, hm, rfl, hb, ha, hsz, hg⟩ := hrel
    have HB := Lib.hid hb
    clear hb
    by_cases hlt : m < 250
    · have hlt2 : 8 * (m : Int) < 2000 := by omega
      go_wp2_with fail
      go_loopw [13, 5] (fun kv cv w' => ∃ k : Nat, k ≤ 8 ∧ kv = .int .i64 k ∧ cv = .int .u8 (bits8 h.used (8 * m) k : Nat) ∧ w' = wr) (fun kv _ _ => 8 - (intOf kv).toNat)
      case atStart => exact ⟨0, Nat.zero_le _, rfl, rfl, rfl⟩
      case round =>
        obtain ⟨k, hk, rfl, rfl, rfl⟩ := hrel
        by_cases hlk : k < 8
        · have c0 := ha.used (8 * m + k) (by omega)
          rw [Nat.zero_add] at c0
          have hlt8 := bits8_lt h.used (8 * m) k
          have ho := or_pow8 _ k hlt8 hlk
          have hp : ((2 : Int) ^ k) % 256 = ((2 ^ k : Nat) : Int) := by
            have h1 : (2 : Nat) ^ k ≤ 2 ^ 7 := Nat.pow_le_pow_right (by omega) (by omega)
            have h2 : ((2 ^ k : Nat) : Int) = (2 : Int) ^ k := by push_cast; rfl
            rw [← h2]
            omega
          rw [← hp] at ho
          have HO := Lib.hid ho
          have hn : bits8 h.used (8 * m) (k + 1) = bits8 h.used (8 * m) k + if h.used (8 * m + k) then 2 ^ k else 0 := rfl
          have HN := Lib.hid hn
          clear ho hn hp
          cases hu : h.used (8 * m + k)
          · rw [hu] at c0
            have HU := Lib.hid hu
            clear hu
            go_wp2_with fail
            refine ⟨⟨k + 1, by omega, by go_num, ?_, trivial⟩, by simp [intOf]; omega⟩
            rw [HN.out, HU.out]
            rfl
          · rw [hu] at c0
            have HU := Lib.hid hu
            clear hu
            go_wp2_with fail
            refine ⟨⟨k + 1, by omega, by go_num, ?_, trivial⟩, by simp [intOf]; omega⟩
            rw [HN.out, HU.out, HO.out]
            rfl
        · obtain rfl : k = 8 := by omega
          have hcv : ((bits8 h.used (8 * m) 8 : Nat) : Int) = (((bits8 h.used (8 * m) 8).toUInt8.toNat : Nat) : Int) := by
            have := bits8_lt h.used (8 * m) 8
            show _ = ((bits8 h.used (8 * m) 8 % 256 : Nat) : Int)
            omega
          have hnx := mapF_next h.used hlt
          generalize hbb : (bits8 h.used (8 * m) 8).toUInt8 = c at *
          rw [hcv]
          have HNX := Lib.hid hnx
          clear hnx hcv hbb
          have hln : ((mapF h.used).take m).length = m := by rw [List.length_take, mapF_len]; omega
          go_wp2_with fail
          refine (writeByte_b _ _ _ c wr HB.out (by omega) hsz).mono ?_
          rintro e w2 ⟨rfl, hb2, hbl⟩
          rw [← HNX.out] at hb2
          have ha2 := below_head ha hbl
          have hg2 : Gr w w2 := Below.trans hg (hbl.mono (by omega))
          have hsz2 : w.heap.size + 1 ≤ w2.heap.size := Nat.le_trans hsz hbl.size
          have HB2 := Lib.hid hb2
          clear hbl hb2 HNX
          go_wp2_with fail
          exact ⟨⟨m + 1, by omega, by go_num, HB2.out, ha2, hsz2, hg2⟩, by simp [intOf]; omega⟩
    · obtain rfl : m = 250 := by omega
      have hrg : wr.rangeAt w.heap.size 2000 ((List.range 8).map (fun i => Value.int .i64 (h.roots i))) := fun j v hv => by
        have hj : j < 8 := by simpa using (List.getElem?_eq_some_iff.1 hv).1
        have hv2 : v = .int .i64 (h.roots j) := by simpa [hj] using hv.symm
        rw [hv2]
        have := ha.root j hj
        rw [Nat.zero_add] at this
        exact this
      have HRG := Lib.hid hrg
      clear hrg
      go_wp2_with (refine wpList_load_mid rfl 41 _ rfl w.heap.size 2000 rfl _ _ HRG.out Tryz.underlying41 rfl (by kernel_rfl) ?_)
      try go_frame
      go_loopw [31] (fun kv w' => ∃ m : Nat, m ≤ 8 ∧ kv = .int .i64 m ∧ Bld (w.heap.size + 1) (w.heap.size + 1) (mapF h.used ++ rootsF h m) w' ∧ HeadAt w' w.heap.size 0 h ∧ w.heap.size + 1 ≤ w'.heap.size ∧ Gr w w') (fun kv _ => 8 - (intOf kv).toNat)
      case atStart =>
        refine ⟨0, Nat.zero_le _, rfl, ?_, ha, hsz, hg⟩
        have := HB.out
        rw [List.take_of_length_le (by rw [mapF_len]; exact Nat.le_refl _)] at this
        simpa [rootsF] using this
      case round =>
        obtain ⟨m, hm, rfl, hb, ha, hsz, hg⟩ := hrel
        have HB := Lib.hid hb
        clear hb
        by_cases hlt : m < 8
        · have hix := index_roots h.roots m hlt
          have c0 := ha.note m hlt
          rw [Nat.zero_add] at c0
          have HNX := Lib.hid (rootsF_next h m)
          generalize h.roots m = q0 at *
          generalize h.notes m = q1 at *
          have hln : (mapF h.used ++ rootsF h m).length = 250 + 4 * m := by rw [List.length_append, mapF_len, rootsF_len]
          have hadd := add_bytes (two8 q0) (two8 q1) (by simp [two8])
          have hl8 : (two8 q0 ++ two8 q1).length = 8 - 4 := by simp [two8]
          have hz8 : (⟨(two8 q0 ++ two8 q1).toArray⟩ : ByteArray).size = 4 := by rw [ba_len, hl8]
          have hws := fun (W : World) (g : Gr wr W) => writeString_b (w.heap.size + 1) (w.heap.size + 1) (mapF h.used ++ rootsF h m) ⟨(two8 q0 ++ two8 q1).toArray⟩ W (HB.out.gr g) (by omega) (Nat.le_trans hsz g.size)
          clear hl8
          have hw0 := two_g q0
          have hw1 := two_g q1
          generalize two8 q0 = t0 at *
          generalize two8 q1 = t1 at *
          go_wp2_with fail
          go_region_with (first
            | (go_at_call_of 51 (Value.int IntKind.i64 q0); refine (hw0 _).mono ?_; rintro e w2 ⟨rfl, hga⟩; first | (have k0 := hga.keeps (show World.cell? _ _ = some (.int .i64 q1) by simpa using c0)) | skip)
            | (go_at_call_of 51 (Value.int IntKind.i64 q1); refine (hw1 _).mono ?_; rintro e w3 ⟨rfl, hgb⟩)
            | (go_at_call 44; refine (hws _ (by
              first
                | (refine Gr.trans ?_ hgb; repeat (with_reducible first | refine Gr.drew ?_ | refine Gr.alloc ?_ _)
                   refine Gr.trans ?_ hga; repeat (with_reducible first | refine Gr.drew ?_ | refine Gr.alloc ?_ _)
                   exact Gr.refl _)
                | (refine Gr.trans ?_ hga; repeat (with_reducible first | refine Gr.drew ?_ | refine Gr.alloc ?_ _)
                   refine Gr.trans ?_ hgb; repeat (with_reducible first | refine Gr.drew ?_ | refine Gr.alloc ?_ _)
                   exact Gr.refl _))).mono ?_; rintro e w4 ⟨rfl, hb4, hbl4⟩))
          all_goals
            obtain ⟨ha4, hsz4, hg4⟩ := text_round hg hsz ha (by
              first
                | (refine Gr.trans ?_ hgb; repeat (with_reducible first | refine Gr.drew ?_ | refine Gr.alloc ?_ _)
                   refine Gr.trans ?_ hga; repeat (with_reducible first | refine Gr.drew ?_ | refine Gr.alloc ?_ _)
                   exact Gr.refl _)
                | (refine Gr.trans ?_ hga; repeat (with_reducible first | refine Gr.drew ?_ | refine Gr.alloc ?_ _)
                   refine Gr.trans ?_ hgb; repeat (with_reducible first | refine Gr.drew ?_ | refine Gr.alloc ?_ _)
                   exact Gr.refl _)) hbl4
            rw [List.append_assoc, ← HNX.out] at hb4
            clear hbl4 hga hgb
            go_wp2_with fail
            go_roundw
            case rel =>
              exact ⟨m + 1, by omega, by go_num, hb4, ha4, hsz4, hg4⟩
            case measure =>
              simp [intOf]
              omega
        · obtain rfl : m = 8 := by omega
          have hln : (mapF h.used ++ rootsF h 8).length = 282 := by rw [List.length_append, mapF_len, rootsF_len]
          have hst := Tryz.Builder_String_any (w.heap.size + 1) (w.heap.size + 1) _ wr HB.out hsz
          have HTX : Hid (textF h = fillF (mapF h.used ++ rootsF h 8)) := Lib.hid rfl
          generalize mapF h.used ++ rootsF h 8 = l at *
          go_wp2_with fail
          refine hst.mono ?_
          rintro e w2 ⟨rfl, hbl⟩
          have hg2 : Gr w w2 := Below.trans hg (hbl.mono (by omega))
          have hfl := fill_g ⟨l.toArray⟩ (by rw [ba_len]; omega)
          rw [ba_eta, ← HTX.out] at hfl
          clear hbl
          go_wp2_with fail
          refine (hfl w2).mono ?_
          rintro e w3 ⟨rfl, hg3⟩
          go_wp2_with fail
          go_ret
          exact Ret.mk rfl (hg2.trans hg3)
end Go.Proofs.YtcdoeninajpbmaaGreatDoor
