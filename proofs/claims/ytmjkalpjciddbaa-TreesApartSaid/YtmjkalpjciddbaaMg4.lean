/-
  The contract of a head's text.
-/
import Derived.Test.YtmjkalpjciddbaaMg3
import Derived.Test.YtmjkalpjciddbaaMg2
import Derived.Deep.RegionHeld3
import Derived.Maps.OwnOps
namespace Go.Proofs.Ytmjkalpjciddbaa
open Go Go.RowKit

theorem below_head {b : Nat} {w w' : World} {h : Head} (a : HeadAt w b 0 h) (g : Below (b + 1) w w') : HeadAt w' b 0 h :=
  ⟨fun i hi => by rw [Below.cell (p := ⟨b, 0 + i, none⟩) g (Nat.lt_succ_self b)]; exact a.used i hi, fun i hi => by rw [Below.cell (p := ⟨b, 0 + 2000 + i, none⟩) g (Nat.lt_succ_self b)]; exact a.root i hi, fun i hi => by rw [Below.cell (p := ⟨b, 0 + 2008 + i, none⟩) g (Nat.lt_succ_self b)]; exact a.note i hi⟩
theorem or_pow8 (x k : Nat) (hx : x < 2 ^ k) (hk : k < 8) : bits BinOp.or IntKind.u8 (x : Int) ((2 ^ k : Nat) : Int) = ((x + 2 ^ k : Nat) : Int) := by
  show IntKind.u8.wrap ((BitVec.ofInt 8 (x : Int) ||| BitVec.ofInt 8 ((2 ^ k : Nat) : Int)).toNat : Int) = _
  have hp : 2 ^ k ≤ 128 := by
    have : (2 : Nat) ^ k ≤ 2 ^ 7 := Nat.pow_le_pow_right (by omega) (by omega)
    omega
  have e : ∀ m : Nat, m < 256 → (BitVec.ofInt 8 (m : Int)).toNat = m := fun m hm => by
    rw [BitVec.toNat_ofInt]
    omega
  rw [BitVec.toNat_or, e x (by omega), e _ (by omega)]
  have h := Nat.two_pow_add_eq_or_of_lt (i := k) (b := x) hx 1
  rw [Nat.mul_one] at h
  rw [Nat.or_comm, ← h]
  show ((2 ^ k + x : Nat) : Int) % 256 = _
  omega
theorem mapF_next (u : Nat → Bool) {m : Nat} (hm : m < 250) : (mapF u).take (m + 1) = (mapF u).take m ++ [(bits8 u (8 * m) 8).toUInt8] := by
  rw [List.take_succ_eq_append_getElem (by rw [mapF_len]; exact hm)]
  simp [mapF]
theorem rootsF_next (h : Head) (n : Nat) : rootsF h (n + 1) = rootsF h n ++ (two8 (h.roots n) ++ two8 (h.notes n)) := by
  unfold rootsF
  rw [List.range_succ, List.flatMap_append]
  simp
theorem index_root0 (f : Nat → Int) (W : World) : (Instr.index 43 (.agg #[.int .i64 (f 0), .int .i64 (f 1), .int .i64 (f 2), .int .i64 (f 3), .int .i64 (f 4), .int .i64 (f 5), .int .i64 (f 6), .int .i64 (f 7)]) (.int .i64 0)).run Try.prog W = .ok (.int .i64 (f 0)) W := by kernel_rfl
theorem index_root1 (f : Nat → Int) (W : World) : (Instr.index 43 (.agg #[.int .i64 (f 0), .int .i64 (f 1), .int .i64 (f 2), .int .i64 (f 3), .int .i64 (f 4), .int .i64 (f 5), .int .i64 (f 6), .int .i64 (f 7)]) (.int .i64 1)).run Try.prog W = .ok (.int .i64 (f 1)) W := by kernel_rfl
theorem index_root2 (f : Nat → Int) (W : World) : (Instr.index 43 (.agg #[.int .i64 (f 0), .int .i64 (f 1), .int .i64 (f 2), .int .i64 (f 3), .int .i64 (f 4), .int .i64 (f 5), .int .i64 (f 6), .int .i64 (f 7)]) (.int .i64 2)).run Try.prog W = .ok (.int .i64 (f 2)) W := by kernel_rfl
theorem index_root3 (f : Nat → Int) (W : World) : (Instr.index 43 (.agg #[.int .i64 (f 0), .int .i64 (f 1), .int .i64 (f 2), .int .i64 (f 3), .int .i64 (f 4), .int .i64 (f 5), .int .i64 (f 6), .int .i64 (f 7)]) (.int .i64 3)).run Try.prog W = .ok (.int .i64 (f 3)) W := by kernel_rfl
theorem index_root4 (f : Nat → Int) (W : World) : (Instr.index 43 (.agg #[.int .i64 (f 0), .int .i64 (f 1), .int .i64 (f 2), .int .i64 (f 3), .int .i64 (f 4), .int .i64 (f 5), .int .i64 (f 6), .int .i64 (f 7)]) (.int .i64 4)).run Try.prog W = .ok (.int .i64 (f 4)) W := by kernel_rfl
theorem index_root5 (f : Nat → Int) (W : World) : (Instr.index 43 (.agg #[.int .i64 (f 0), .int .i64 (f 1), .int .i64 (f 2), .int .i64 (f 3), .int .i64 (f 4), .int .i64 (f 5), .int .i64 (f 6), .int .i64 (f 7)]) (.int .i64 5)).run Try.prog W = .ok (.int .i64 (f 5)) W := by kernel_rfl
theorem index_root6 (f : Nat → Int) (W : World) : (Instr.index 43 (.agg #[.int .i64 (f 0), .int .i64 (f 1), .int .i64 (f 2), .int .i64 (f 3), .int .i64 (f 4), .int .i64 (f 5), .int .i64 (f 6), .int .i64 (f 7)]) (.int .i64 6)).run Try.prog W = .ok (.int .i64 (f 6)) W := by kernel_rfl
theorem index_root7 (f : Nat → Int) (W : World) : (Instr.index 43 (.agg #[.int .i64 (f 0), .int .i64 (f 1), .int .i64 (f 2), .int .i64 (f 3), .int .i64 (f 4), .int .i64 (f 5), .int .i64 (f 6), .int .i64 (f 7)]) (.int .i64 7)).run Try.prog W = .ok (.int .i64 (f 7)) W := by kernel_rfl
theorem index_roots (f : Nat → Int) (m : Nat) (hm : m < 8) : ∀ W, (Instr.index 43 (.agg #[.int .i64 (f 0), .int .i64 (f 1), .int .i64 (f 2), .int .i64 (f 3), .int .i64 (f 4), .int .i64 (f 5), .int .i64 (f 6), .int .i64 (f 7)]) (.int .i64 (m : Int))).run Try.prog W = .ok (.int .i64 (f m)) W := by
  intro W
  have : m = 0 ∨ m = 1 ∨ m = 2 ∨ m = 3 ∨ m = 4 ∨ m = 5 ∨ m = 6 ∨ m = 7 := by omega
  rcases this with rfl | rfl | rfl | rfl | rfl | rfl | rfl | rfl
  · exact index_root0 f W
  · exact index_root1 f W
  · exact index_root2 f W
  · exact index_root3 f W
  · exact index_root4 f W
  · exact index_root5 f W
  · exact index_root6 f W
  · exact index_root7 f W
theorem text_round {w wr W w4 : World} {h : Head} (hg : Gr w wr) (hsz : w.heap.size + 1 ≤ wr.heap.size) (ha : HeadAt wr w.heap.size 0 h) (g : Gr wr W) (hb : Below (w.heap.size + 1) W w4) : HeadAt w4 w.heap.size 0 h ∧ w.heap.size + 1 ≤ w4.heap.size ∧ Gr w w4 :=
  ⟨below_head (ha.gr g) hb, Nat.le_trans hsz (Nat.le_trans g.size hb.size), Below.trans (hg.trans g) (hb.mono (by omega))⟩
set_option maxRecDepth 100000 in
set_option maxHeartbeats 1600000 in
theorem text_g (h : Head) (w : World) : Calls Try.prog 51 #[.agg h.cells.toArray] w (Ret w (.string ⟨(textF h).toArray⟩)) := by
  go_enter Try.func51, Try.ntmps51
  go_wp2_with fail
  have z0 : HeadAt ((w.alloc (.cells h.cells.toArray 45)).alloc (.cells #[.pointer none, .slice none 0 0] 115)) w.heap.size 0 h := (HeadAt.box w h _).gr ((Gr.refl _).alloc _)
  have z1 : Bld (w.heap.size + 1) (w.heap.size + 1) [] ((w.alloc (.cells h.cells.toArray 45)).alloc (.cells #[.pointer none, .slice none 0 0] 115)) := by
    have := Bld.new (w.alloc (.cells h.cells.toArray 45))
    simpa using this
  have hg0 : Gr w ((w.alloc (.cells h.cells.toArray 45)).alloc (.cells #[.pointer none, .slice none 0 0] 115)) := ((Gr.refl w).alloc _).alloc _
  have hs0 : w.heap.size + 1 ≤ ((w.alloc (.cells h.cells.toArray 45)).alloc (.cells #[.pointer none, .slice none 0 0] 115)).heap.size := by simp
  generalize ((w.alloc (.cells h.cells.toArray 45)).alloc (.cells #[.pointer none, .slice none 0 0] 115)) = w0 at *
  go_loopw [4] (fun kv w' => ∃ m : Nat, m ≤ 250 ∧ kv = .int .i64 (8 * (m : Int)) ∧ Bld (w.heap.size + 1) (w.heap.size + 1) ((mapF h.used).take m) w' ∧ HeadAt w' w.heap.size 0 h ∧ w.heap.size + 1 ≤ w'.heap.size ∧ Gr w w') (fun kv _ => 2000 - (intOf kv).toNat)
  case atStart => exact ⟨0, Nat.zero_le _, rfl, z1, z0, hs0, hg0⟩
  case round =>
    obtain ⟨m, hm, rfl, hb, ha, hsz, hg⟩ := hrel
    have HB := Lib.hid hb
    clear hb
    by_cases hlt : m < 250
    · have hlt2 : 8 * (m : Int) < 2000 := by omega
      go_wp2_with fail
      go_loopw [13, 5] (fun kv cv w' => ∃ k : Nat, k ≤ 8 ∧ kv = .int .i64 k ∧ cv = .int .u8 (bits8 h.used (8 * m) k : Nat) ∧ w' = wr) (fun kv _ _ => 8 - (intOf kv).toNat)
      case atStart => exact ⟨0, Nat.zero_le _, rfl, rfl, rfl⟩
      case round =>
        obtain ⟨k, hk, rfl, rfl, rfl⟩ := hrel
        by_cases hlk : k < 8
        · have c0 := ha.used (8 * m + k) (by omega)
          rw [Nat.zero_add] at c0
          have hlt8 := bits8_lt h.used (8 * m) k
          have ho := or_pow8 _ k hlt8 hlk
          have hp : ((2 : Int) ^ k) % 256 = ((2 ^ k : Nat) : Int) := by
            have h1 : (2 : Nat) ^ k ≤ 2 ^ 7 := Nat.pow_le_pow_right (by omega) (by omega)
            have h2 : ((2 ^ k : Nat) : Int) = (2 : Int) ^ k := by push_cast; rfl
            rw [← h2]
            omega
          rw [← hp] at ho
          have HO := Lib.hid ho
          have hn : bits8 h.used (8 * m) (k + 1) = bits8 h.used (8 * m) k + if h.used (8 * m + k) then 2 ^ k else 0 := rfl
          have HN := Lib.hid hn
          clear ho hn hp
          cases hu : h.used (8 * m + k)
          · rw [hu] at c0
            have HU := Lib.hid hu
            clear hu
            go_wp2_with fail
            refine ⟨⟨k + 1, by omega, by go_num, ?_, trivial⟩, by simp [intOf]; omega⟩
            rw [HN.out, HU.out]
            rfl
          · rw [hu] at c0
            have HU := Lib.hid hu
            clear hu
            go_wp2_with fail
            refine ⟨⟨k + 1, by omega, by go_num, ?_, trivial⟩, by simp [intOf]; omega⟩
            rw [HN.out, HU.out, HO.out]
            rfl
        · obtain rfl : k = 8 := by omega
          have hcv : ((bits8 h.used (8 * m) 8 : Nat) : Int) = (((bits8 h.used (8 * m) 8).toUInt8.toNat : Nat) : Int) := by
            have := bits8_lt h.used (8 * m) 8
            show _ = ((bits8 h.used (8 * m) 8 % 256 : Nat) : Int)
            omega
          have hnx := mapF_next h.used hlt
          generalize hbb : (bits8 h.used (8 * m) 8).toUInt8 = c at *
          rw [hcv]
          have HNX := Lib.hid hnx
          clear hnx hcv hbb
          have hln : ((mapF h.used).take m).length = m := by rw [List.length_take, mapF_len]; omega
          go_wp2_with fail
          refine (writeByte_b _ _ _ c wr HB.out (by omega) hsz).mono ?_
          rintro e w2 ⟨rfl, hb2, hbl⟩
          rw [← HNX.out] at hb2
          have ha2 := below_head ha hbl
          have hg2 : Gr w w2 := Below.trans hg (hbl.mono (by omega))
          have hsz2 : w.heap.size + 1 ≤ w2.heap.size := Nat.le_trans hsz hbl.size
          have HB2 := Lib.hid hb2
          clear hbl hb2 HNX
          go_wp2_with fail
          exact ⟨⟨m + 1, by omega, by go_num, HB2.out, ha2, hsz2, hg2⟩, by simp [intOf]; omega⟩
    · obtain rfl : m = 250 := by omega
      have hrg : wr.rangeAt w.heap.size 2000 ((List.range 8).map (fun i => Value.int .i64 (h.roots i))) := fun j v hv => by
        have hj : j < 8 := by simpa using (List.getElem?_eq_some_iff.1 hv).1
        have hv2 : v = .int .i64 (h.roots j) := by simpa [hj] using hv.symm
        rw [hv2]
        have := ha.root j hj
        rw [Nat.zero_add] at this
        exact this
      have HRG := Lib.hid hrg
      clear hrg
      go_wp2_with (refine wpList_load_mid rfl 43 _ rfl w.heap.size 2000 rfl _ _ HRG.out Try.underlying43 rfl (by kernel_rfl) ?_)
      try go_frame
      go_loopw [31] (fun kv w' => ∃ m : Nat, m ≤ 8 ∧ kv = .int .i64 m ∧ Bld (w.heap.size + 1) (w.heap.size + 1) (mapF h.used ++ rootsF h m) w' ∧ HeadAt w' w.heap.size 0 h ∧ w.heap.size + 1 ≤ w'.heap.size ∧ Gr w w') (fun kv _ => 8 - (intOf kv).toNat)
      case atStart =>
        refine ⟨0, Nat.zero_le _, rfl, ?_, ha, hsz, hg⟩
        have := HB.out
        rw [List.take_of_length_le (by rw [mapF_len]; exact Nat.le_refl _)] at this
        simpa [rootsF] using this
      case round =>
        obtain ⟨m, hm, rfl, hb, ha, hsz, hg⟩ := hrel
        have HB := Lib.hid hb
        clear hb
        by_cases hlt : m < 8
        · have hix := index_roots h.roots m hlt
          have c0 := ha.note m hlt
          rw [Nat.zero_add] at c0
          have HNX := Lib.hid (rootsF_next h m)
          generalize h.roots m = q0 at *
          generalize h.notes m = q1 at *
          have hln : (mapF h.used ++ rootsF h m).length = 250 + 4 * m := by rw [List.length_append, mapF_len, rootsF_len]
          have hadd := add_bytes (two8 q0) (two8 q1) (by simp [two8])
          have hl8 : (two8 q0 ++ two8 q1).length = 8 - 4 := by simp [two8]
          have hz8 : (⟨(two8 q0 ++ two8 q1).toArray⟩ : ByteArray).size = 4 := by rw [ba_len, hl8]
          have hws := fun (W : World) (g : Gr wr W) => writeString_b (w.heap.size + 1) (w.heap.size + 1) (mapF h.used ++ rootsF h m) ⟨(two8 q0 ++ two8 q1).toArray⟩ W (HB.out.gr g) (by omega) (Nat.le_trans hsz g.size)
          clear hl8
          have hw0 := two_g q0
          have hw1 := two_g q1
          generalize two8 q0 = t0 at *
          generalize two8 q1 = t1 at *
          go_wp2_with fail
          go_region_with (first
            | (go_at_call_of 50 (Value.int IntKind.i64 q0); refine (hw0 _).mono ?_; rintro e w2 ⟨rfl, hga⟩; first | (have k0 := hga.keeps (show World.cell? _ _ = some (.int .i64 q1) by simpa using c0)) | skip)
            | (go_at_call_of 50 (Value.int IntKind.i64 q1); refine (hw1 _).mono ?_; rintro e w3 ⟨rfl, hgb⟩)
            | (go_at_call 57; refine (hws _ (by
              first
                | (refine Gr.trans ?_ hgb; repeat (with_reducible first | refine Gr.drew ?_ | refine Gr.alloc ?_ _)
                   refine Gr.trans ?_ hga; repeat (with_reducible first | refine Gr.drew ?_ | refine Gr.alloc ?_ _)
                   exact Gr.refl _)
                | (refine Gr.trans ?_ hga; repeat (with_reducible first | refine Gr.drew ?_ | refine Gr.alloc ?_ _)
                   refine Gr.trans ?_ hgb; repeat (with_reducible first | refine Gr.drew ?_ | refine Gr.alloc ?_ _)
                   exact Gr.refl _))).mono ?_; rintro e w4 ⟨rfl, hb4, hbl4⟩))
          all_goals
            obtain ⟨ha4, hsz4, hg4⟩ := text_round hg hsz ha (by
              first
                | (refine Gr.trans ?_ hgb; repeat (with_reducible first | refine Gr.drew ?_ | refine Gr.alloc ?_ _)
                   refine Gr.trans ?_ hga; repeat (with_reducible first | refine Gr.drew ?_ | refine Gr.alloc ?_ _)
                   exact Gr.refl _)
                | (refine Gr.trans ?_ hga; repeat (with_reducible first | refine Gr.drew ?_ | refine Gr.alloc ?_ _)
                   refine Gr.trans ?_ hgb; repeat (with_reducible first | refine Gr.drew ?_ | refine Gr.alloc ?_ _)
                   exact Gr.refl _)) hbl4
            rw [List.append_assoc, ← HNX.out] at hb4
            clear hbl4 hga hgb
            go_wp2_with fail
            go_roundw
            case rel =>
              exact ⟨m + 1, by omega, by go_num, hb4, ha4, hsz4, hg4⟩
            case measure =>
              simp [intOf]
              omega
        · obtain rfl : m = 8 := by omega
          have hln : (mapF h.used ++ rootsF h 8).length = 282 := by rw [List.length_append, mapF_len, rootsF_len]
          have hst := Try.Builder_String_any (w.heap.size + 1) (w.heap.size + 1) _ wr HB.out hsz
          have HTX : Hid (textF h = fillF (mapF h.used ++ rootsF h 8)) := Lib.hid rfl
          generalize mapF h.used ++ rootsF h 8 = l at *
          go_wp2_with fail
          refine hst.mono ?_
          rintro e w2 ⟨rfl, hbl⟩
          have hg2 : Gr w w2 := Below.trans hg (hbl.mono (by omega))
          have hfl := fill_g ⟨l.toArray⟩ (by rw [ba_len]; omega)
          rw [ba_eta, ← HTX.out] at hfl
          clear hbl
          go_wp2_with fail
          refine (hfl w2).mono ?_
          rintro e w3 ⟨rfl, hg3⟩
          go_wp2_with fail
          go_ret
          exact Ret.mk rfl (hg2.trans hg3)
end Go.Proofs.Ytmjkalpjciddbaa

/-
  The contract of pager.note.
-/
namespace Go.Proofs.Ytmjkalpjciddbaa
open Go Go.RowKit

def usedOf (ps : List Nat) : Head := ⟨fun j => ps.contains j, fun _ => 0, fun _ => 0⟩
theorem usedOf_next (ps : List Nat) (i : Nat) (h : i < ps.length) : ((usedOf (ps.take i)).put ps[i] true).same (usedOf (ps.take (i + 1))) := by
  have hm : ∀ j, j ∈ ps.take (i + 1) ↔ j ∈ ps.take i ∨ j = ps[i] := fun j => by rw [List.take_succ_eq_append_getElem h, List.mem_append, List.mem_singleton]
  refine ⟨fun j _ => ?_, fun _ _ => ⟨rfl, rfl⟩⟩
  show (if j = ps[i] then true else (ps.take i).contains j) = (ps.take (i + 1)).contains j
  by_cases e : j = ps[i]
  · rw [if_pos e, eq_comm, List.contains_iff_mem, hm]
    exact .inr e
  · rw [if_neg e, Bool.eq_iff_iff, List.contains_iff_mem, List.contains_iff_mem, hm]
    exact ⟨.inl, fun h => h.elim id (fun h => absurd h e)⟩
theorem textF_take (h : Head) : (textF h).take 250 = mapF h.used := by
  unfold textF fillF
  rw [List.append_assoc, List.take_append_of_le_length (by rw [mapF_len]; exact Nat.le_refl _), List.take_of_length_le (by rw [mapF_len]; exact Nat.le_refl _)]
set_option maxRecDepth 100000 in
set_option maxHeartbeats 3200000 in
theorem note_g (ps : List Nat) (l : List ByteArray) (pv lv : Value) (w : World) (hp : RowV natV w pv ps) (hl : RowV Value.string w lv l) (hpl : ps.length ≤ 100000) (hps : ∀ i (h : i < ps.length), ps[i] < 2000) (hll : l.length ≤ 100000) (hls : ∀ i (h : i < l.length), l[i].size ≤ 1000000) :
    Calls Try.prog 34 #[pv, lv] w (Ret w (.string ⟨(noteF ps (datas l)).toArray⟩)) := by
  have HP := Lib.hid hp
  have HL := Lib.hid hl
  have HPS := Lib.hid hps
  have HLS := Lib.hid hls
  obtain ⟨po, pc, rfl⟩ := hp.form
  obtain ⟨lo, lc, rfl⟩ := hl.form
  clear hp hl hps hls
  go_enter Try.func34, Try.ntmps34
  go_wp2_with fail
  have z0 := head_new w
  have f0 : ∀ j, (w.alloc (.cells Try.zeroCells45 45)).frozen? ⟨w.heap.size, j, none⟩ = false := fun j => by simp
  have hg0 : Gr w (w.alloc (.cells Try.zeroCells45 45)) := (Gr.refl w).alloc _
  generalize (w.alloc (.cells Try.zeroCells45 45)) = w0 at *
  go_loopw [11] (fun kv w' => ∃ i : Nat, i ≤ ps.length ∧ kv = .int .i64 i ∧ HeadAt w' w.heap.size 0 (usedOf (ps.take i)) ∧ (∀ j, w'.frozen? ⟨w.heap.size, j, none⟩ = false) ∧ Gr w w') (fun kv _ => ps.length - (intOf kv).toNat)
  case atStart => exact ⟨0, Nat.zero_le _, rfl, z0.same ⟨fun j _ => by simp [usedOf, head0], fun _ _ => ⟨rfl, rfl⟩⟩, f0, hg0⟩
  case round =>
    obtain ⟨i, hi, rfl, ha, hf, hg⟩ := hrel
    by_cases hlt : i < ps.length
    · obtain ⟨b, off, rfl, hc⟩ := (HP.out.gr hg).at hlt
      have c0 := hc i hlt
      have hk := HPS.out i hlt
      have HNX := Lib.hid (usedOf_next ps i hlt)
      clear hc
      generalize ps[i] = k at *
      unfold natV at c0
      have d0 := ha.used k hk
      have d1 := hf k
      rw [Nat.zero_add] at d0
      go_wp2_with fail
      refine ⟨⟨i + 1, by omega, by go_num, ?_, fun j => by simpa using hf j, hg.setCell (by simp) _⟩, by simp [intOf]; omega⟩
      have := ha.put hk true
      rw [Nat.zero_add] at this
      exact this.same HNX.out
    · obtain rfl : i = ps.length := by omega
      rw [List.take_length] at ha
      have htx := text_g (usedOf ps)
      have htw := two_g (ps.length : Int)
      have hrg := ha.range
      have hld : ∀ W, (∃ p : Regrown, W = Sort.grow (redrawn wr p.d) p.os) → W.rangeAt w.heap.size 0 (usedOf ps).cells := fun W h => (ha.gr (gr_regrown h)).range
      have HLD := Lib.hid hld
      clear hld
      have hadd := add_bytes (two8 (ps.length : Int)) (mapF (usedOf ps).used) (by rw [mapF_len]; simp [two8])
      have hsl : (⟨(textF (usedOf ps)).toArray⟩ : ByteArray).size = 1024 := by rw [ba_len, textF_len]
      have hex : (⟨(textF (usedOf ps)).toArray⟩ : ByteArray).extract 0 250 = ⟨(mapF (usedOf ps).used).toArray⟩ := by
        apply data_ext
        rw [Lib.extract_data, ba_eta, ba_eta, List.drop_zero, textF_take]
      go_wp2_with fail
      have hnh : Hid (noteHead ps = two8 (ps.length : Int) ++ mapF (usedOf ps).used) := Lib.hid rfl
      generalize two8 (ps.length : Int) = t0 at *
      generalize mapF (usedOf ps).used = t1 at *
      generalize (⟨(textF (usedOf ps)).toArray⟩ : ByteArray) = tx at *
      clear hrg
      refine wp_region_quiet_below (by kernel_rfl) (by kernel_rfl) ?_
      repeat (first
        | (go_big_quiet_want; refine quiet_load_mid 45 _ rfl w.heap.size 0 rfl _ _ HLD.out Try.underlying45 rfl (by rw [info_head, Head.cells_len]) ?_; (try simp only [Act.put, List.setIfInBounds_toArray, List.set_cons_zero, List.set_cons_succ]); go_big_quiet_on)
        | go_big_quiet_step (first | (go_at_call 50; exact Ret.regrown (htw _)) | (go_at_call 51; exact Ret.regrown (htx _))))
      refine wpQuiet_nil ?_
      intro w3 hw3
      have hg3 := hg.trans (gr_regrown hw3)
      have HL3 := Lib.hid ((HL.out.gr hg3).gr ((Gr.refl w3).alloc (.cells #[.string ⟨(t0 ++ t1).toArray⟩] 9)))
      have HO3 := Lib.hid (ownV_box Value.string w3 ⟨(t0 ++ t1).toArray⟩ 9)
      clear hw3 HLD
      have hla : (t0 ++ t1).length = 252 := by rw [← hnh.out, noteHead_len]
      have HSM : Hid (∀ (v' : Value) (w' : World), OwnV Value.string 9 w3 w' v' ([⟨(t0 ++ t1).toArray⟩] ++ l) → Calls Try.prog 52 #[v'] w' (Ret w' (.string ⟨(sumF ((t0 ++ t1) :: datas l)).toArray⟩))) := Lib.hid fun v' w' ho => by
        have := sum_g ([⟨(t0 ++ t1).toArray⟩] ++ l) v' w' ho.row (by simp; omega) (fun i hi => by
          cases i with
          | zero =>
            show (⟨(t0 ++ t1).toArray⟩ : ByteArray).size ≤ _
            rw [ba_len, hla]
            omega
          | succ i =>
            have := HLS.out i (by simpa using hi)
            simpa using this)
        have e : datas ([⟨(t0 ++ t1).toArray⟩] ++ l) = (t0 ++ t1) :: datas l := by
          show (⟨(t0 ++ t1).toArray⟩ : ByteArray).data.toList :: datas l = _
          rw [ba_eta]
        rw [e] at this
        exact this
      have hsl8 : (sumF ((t0 ++ t1) :: datas l)).length = 8 := low8_len _ 8
      have hnf : Hid (noteF ps (datas l) = fillF ((t0 ++ t1) ++ sumF ((t0 ++ t1) :: datas l))) := Lib.hid (by rw [← hnh.out]; rfl)
      generalize sumF ((t0 ++ t1) :: datas l) = sm at *
      have hadd2 := add_bytes (t0 ++ t1) sm (by omega)
      have hfl := fill_g ⟨((t0 ++ t1) ++ sm).toArray⟩ (by rw [ba_len, List.length_append]; omega)
      rw [ba_eta, ← hnf.out] at hfl
      generalize (⟨((t0 ++ t1) ++ sm).toArray⟩ : ByteArray) = u2 at *
      generalize (⟨(t0 ++ t1).toArray⟩ : ByteArray) = u1 at *
      go_wp2_with (at_builtin; refine append_row (a0 := w3) rfl _ _ 60 9 (.string ⟨#[]⟩) 16 Try.underlying60 info_str rfl (fun _ => rfl) (by omega) rfl _ [u1] rfl HO3.out _ l rfl HL3.out (by simp; omega) ((Gr.refl w3).alloc _) ?_)
      intro v' w4 ho4 hg4 _
      go_wp2_with fail
      refine (HSM.out v' w4 ho4).mono ?_
      rintro e w5 ⟨rfl, hg5⟩
      go_wp2_with fail
      refine (hfl _).mono ?_
      rintro e w6 ⟨rfl, hg6⟩
      go_wp2_with fail
      go_ret
      exact Ret.mk rfl (((hg3.trans hg4).trans hg5).trans hg6)
end Go.Proofs.Ytmjkalpjciddbaa

/-
  A disk's writes one after another, and what a pager writes, as plain data.
-/
namespace Go.Proofs.Ytmjkalpjciddbaa
open Go Go.RowKit

/-- A disk as plain data. -/
structure Dk where
  pg : Nat → ByteArray
  cut : Bool
  left : Int
  torn : Int
def Dk.on (d : Dk) : Bool := onB d.cut d.left
/-- Every page has its size. -/
def Dk.whole (d : Dk) : Prop := ∀ k, k < 4001 → (pgGet d.pg k).size = 1024
theorem zerosB_sz : zerosB.size = 1024 := by
  show (List.toArray _).size = 1024
  rw [List.size_toArray, Lib.repeatL_length]
  rfl
theorem pgGet_pgPut {pg : Nat → ByteArray} {k : Nat} {s : ByteArray} (hs : s.size = 1024) (i : Nat) : pgGet (pgPut pg k s) i = if i = k then s else pgGet pg i := by
  unfold pgGet pgPut
  by_cases e : i = k
  · rw [if_pos e, if_pos e, if_neg]
    intro h
    rw [ByteArray.toList_eq] at h
    have h2 : s.data.toList.length = 1024 := by rw [← size_data]; exact hs
    rw [List.isEmpty_iff] at h
    rw [h] at h2
    simp at h2
  · rw [if_neg e, if_neg e]
theorem tearS_sz {s old : ByteArray} (hs : s.size = 1024) (ho : old.size = 1024) (n : Nat) (hn : n ≤ 1024) : (tearS s old n).size = 1024 := by
  have h1 : s.data.toList.length = 1024 := by rw [← size_data]; exact hs
  have h2 : old.data.toList.length = 1024 := by rw [← size_data]; exact ho
  rw [size_data]
  show (tearB s old n).toArray.toList.length = 1024
  simp only [tearB, List.toList_toArray, List.length_append, List.length_take, List.length_drop]
  omega
theorem clampT_le (t : Int) : clampT t ≤ 1024 := by unfold clampT; omega
/-- One write. -/
def wrD (d : Dk) (k : Nat) (s : ByteArray) : Bool × Dk :=
  if d.on then (true, { d with pg := pgPut d.pg k s, left := d.left - 1 }) else (false, { d with pg := pgPut d.pg k (tearS s (pgGet d.pg k) (clampT d.torn)), torn := 0 })
/-- Writes, till one fails. -/
def wrsD : Dk → List (Nat × ByteArray) → Bool × Dk
  | d, [] => (true, d)
  | d, x :: l => if (wrD d x.1 x.2).1 then wrsD (wrD d x.1 x.2).2 l else (false, (wrD d x.1 x.2).2)
theorem wrsD_nil (d : Dk) : wrsD d [] = (true, d) := rfl
theorem wrsD_cons (d : Dk) (x : Nat × ByteArray) (l : List (Nat × ByteArray)) : wrsD d (x :: l) = if (wrD d x.1 x.2).1 then wrsD (wrD d x.1 x.2).2 l else (false, (wrD d x.1 x.2).2) := rfl
theorem wrsD_append : ∀ (a b : List (Nat × ByteArray)) (d : Dk), wrsD d (a ++ b) = if (wrsD d a).1 then wrsD (wrsD d a).2 b else (false, (wrsD d a).2)
  | [], b, d => by rw [List.nil_append, wrsD_nil]; rfl
  | x :: a, b, d => by
    rw [List.cons_append, wrsD_cons, wrsD_cons]
    cases (wrD d x.1 x.2).1
    · rfl
    · exact wrsD_append a b _
theorem wrD_whole {d : Dk} (h : d.whole) (k : Nat) {s : ByteArray} (hs : s.size = 1024) : (wrD d k s).2.whole := by
  intro i hi
  unfold wrD
  split
  · show (pgGet (pgPut d.pg k s) i).size = 1024
    rw [pgGet_pgPut hs]
    split
    · exact hs
    · exact h i hi
  · by_cases hk : k < 4001
    · have ht := tearS_sz hs (h k hk) _ (clampT_le d.torn)
      show (pgGet (pgPut d.pg k _) i).size = 1024
      rw [pgGet_pgPut ht]
      split
      · exact ht
      · exact h i hi
    · show (pgGet (pgPut d.pg k _) i).size = 1024
      have hne : i ≠ k := by omega
      unfold pgGet pgPut
      rw [if_neg hne]
      exact h i hi
/-- What is written has the size of a page, and is written to a page that is there. -/
def okE (l : List (Nat × ByteArray)) : Prop := ∀ x ∈ l, x.1 < 4001 ∧ x.2.size = 1024
theorem okE_append {a b : List (Nat × ByteArray)} (ha : okE a) (hb : okE b) : okE (a ++ b) := fun x hx => (List.mem_append.1 hx).elim (ha x) (hb x)
theorem wrsD_whole : ∀ (l : List (Nat × ByteArray)) {d : Dk}, d.whole → okE l → (wrsD d l).2.whole
  | [], _, h, _ => h
  | x :: l, d, h, hl => by
    have h1 := wrD_whole h x.1 (hl x (by simp)).2
    rw [wrsD_cons]
    cases (wrD d x.1 x.2).1
    · exact h1
    · exact wrsD_whole l h1 (fun y hy => hl y (by simp [hy]))
theorem wrD_left (d : Dk) (k : Nat) (s : ByteArray) : d.left - 1 ≤ (wrD d k s).2.left ∧ (wrD d k s).2.left ≤ d.left := by
  unfold wrD
  split
  · exact ⟨Int.le_refl _, by show d.left - 1 ≤ d.left; omega⟩
  · exact ⟨by show d.left - 1 ≤ d.left; omega, Int.le_refl _⟩
theorem wrsD_left : ∀ (l : List (Nat × ByteArray)) (d : Dk), d.left - l.length ≤ (wrsD d l).2.left ∧ (wrsD d l).2.left ≤ d.left
  | [], d => ⟨by simp [wrsD], Int.le_refl _⟩
  | x :: l, d => by
    have h1 := wrD_left d x.1 x.2
    have h2 := wrsD_left l (wrD d x.1 x.2).2
    rw [wrsD_cons, List.length_cons]
    cases (wrD d x.1 x.2).1
    · exact ⟨by show _ ≤ (wrD d x.1 x.2).2.left; omega, h1.2⟩
    · exact ⟨by show _ ≤ (wrsD (wrD d x.1 x.2).2 l).2.left; omega, by show (wrsD (wrD d x.1 x.2).2 l).2.left ≤ _; omega⟩
/-- The next write of a list, behind those that went well. -/
theorem wrsD_next {d e : Dk} {l : List (Nat × ByteArray)} {i : Nat} (hi : i < l.length) (h : wrsD d (l.take i) = (true, e)) (hok : (wrD e l[i].1 l[i].2).1 = true) : wrsD d (l.take (i + 1)) = (true, (wrD e l[i].1 l[i].2).2) := by
  rw [List.take_succ_eq_append_getElem hi, wrsD_append, h, if_pos rfl, wrsD_cons, if_pos hok, wrsD_nil]
theorem wrsD_stop {d e : Dk} {l m : List (Nat × ByteArray)} {i : Nat} (hi : i < l.length) (h : wrsD d (l.take i) = (true, e)) (hok : (wrD e l[i].1 l[i].2).1 = false) : wrsD d (l ++ m) = (false, (wrD e l[i].1 l[i].2).2) := by
  have e1 : l ++ m = l.take i ++ (l[i] :: (l.drop (i + 1) ++ m)) := by
    rw [← List.cons_append, ← List.append_assoc, ← List.drop_eq_getElem_cons hi, List.take_append_drop]
  rw [e1, wrsD_append, h, if_pos rfl, wrsD_cons, hok]
  rfl
/-- A disk whose power stays on. -/
theorem wrsD_on : ∀ (l : List (Nat × ByteArray)) {d : Dk}, d.cut = false → wrsD d l = (true, { d with pg := l.foldl (fun p x => pgPut p x.1 x.2) d.pg, left := d.left - l.length })
  | [], d, _ => by simp [wrsD]
  | x :: l, d, h => by
    have hon : d.on = true := by unfold Dk.on onB; rw [h]; rfl
    have e : wrD d x.1 x.2 = (true, { d with pg := pgPut d.pg x.1 x.2, left := d.left - 1 }) := by unfold wrD; rw [if_pos hon]
    rw [wrsD_cons, e, if_pos rfl, wrsD_on l (d := { d with pg := pgPut d.pg x.1 x.2, left := d.left - 1 }) h, List.length_cons, List.foldl_cons]
    congr 2
    show d.left - 1 - (l.length : Int) = d.left - ((l.length + 1 : Nat) : Int)
    omega

/-- A head's page, and a log's note. -/
def textB (h : Head) : ByteArray := ⟨(textF h).toArray⟩
theorem textB_sz (h : Head) : (textB h).size = 1024 := by rw [textB, ba_len, textF_len]
def noteB (ps : List Nat) (l : List ByteArray) : ByteArray := ⟨(noteF ps (datas l)).toArray⟩
theorem noteB_sz (ps : List Nat) (l : List ByteArray) : (noteB ps l).size = 1024 := by rw [noteB, ba_len, noteF_len]
/-- The pages that are changed, rising. -/
def ksF (F : Int → Option ByteArray) : List Nat := (List.range 2000).filter fun (k : Nat) => (F k).isSome
def pagesF (F : Int → Option ByteArray) : List Nat := 0 :: ksF F
def textsF (h : Head) (F : Int → Option ByteArray) : List ByteArray := textB h :: (ksF F).map fun (k : Nat) => (F k).getD ⟨#[]⟩
theorem pages_texts (h : Head) (F : Int → Option ByteArray) : (pagesF F).length = (textsF h F).length := by simp [pagesF, textsF]
theorem ksF_mem {F : Int → Option ByteArray} {k : Nat} : k ∈ ksF F ↔ k < 2000 ∧ (F k).isSome := by simp [ksF]
theorem ksF_len (F : Int → Option ByteArray) : (ksF F).length ≤ 2000 := by
  have := List.length_filter_le (fun (k : Nat) => (F k).isSome) (List.range 2000)
  simpa [ksF] using this
/-- What is changed may be: pages that there are, of a page's size. -/
def fineF (F : Int → Option ByteArray) : Prop := ∀ k s, F k = some s → 1 ≤ k ∧ k < 2000 ∧ s.size = 1024
theorem ksF_pos {F : Int → Option ByteArray} (hF : fineF F) {k : Nat} (h : k ∈ ksF F) : 1 ≤ k := by
  obtain ⟨_, h2⟩ := ksF_mem.1 h
  obtain ⟨s, hs⟩ := Option.isSome_iff_exists.1 h2
  have := (hF _ _ hs).1
  omega
theorem ksF_len' {F : Int → Option ByteArray} (hF : fineF F) : (ksF F).length ≤ 1999 := by
  have e : List.range 2000 = 0 :: (List.range 1999).map Nat.succ := List.range_succ_eq_map
  have h0 : (F ((0 : Nat) : Int)).isSome = false := by
    cases h : F ((0 : Nat) : Int) with
    | none => rfl
    | some s => have := (hF _ _ h).1; omega
  have := List.length_filter_le (fun (k : Nat) => (F k).isSome) ((List.range 1999).map Nat.succ)
  unfold ksF
  rw [e, List.filter_cons_of_neg (by rw [h0]; decide)]
  simpa using this
theorem textsF_sz {F : Int → Option ByteArray} (hF : fineF F) (h : Head) : ∀ s ∈ textsF h F, s.size = 1024 := by
  intro s hs
  rcases List.mem_cons.1 hs with rfl | hs
  · exact textB_sz h
  · obtain ⟨k, hk, rfl⟩ := List.mem_map.1 hs
    obtain ⟨u, hu⟩ := Option.isSome_iff_exists.1 (ksF_mem.1 hk).2
    rw [hu]
    exact (hF _ _ hu).2.2
/-- The writes to the log, and to the places. -/
def logsE (ps : List Nat) (l : List ByteArray) : List (Nat × ByteArray) := (List.range l.length).map (fun i => (2001 + i, l.getD i ⟨#[]⟩)) ++ [(2000, noteB ps l)]
def settleE (ps : List Nat) (l : List ByteArray) : List (Nat × ByteArray) := ps.zip l ++ [(2000, zerosB)]
def commitE (h : Head) (F : Int → Option ByteArray) : List (Nat × ByteArray) := logsE (pagesF F) (textsF h F) ++ settleE (pagesF F) (textsF h F)
theorem logsE_ok {ps : List Nat} {l : List ByteArray} (hl : l.length ≤ 2000) (hs : ∀ s ∈ l, s.size = 1024) : okE (logsE ps l) := by
  refine okE_append (fun x hx => ?_) (fun x hx => ?_)
  · obtain ⟨i, hi, rfl⟩ := List.mem_map.1 hx
    have hi2 := List.mem_range.1 hi
    refine ⟨by show 2001 + i < 4001; omega, ?_⟩
    show (l.getD i ⟨#[]⟩).size = 1024
    rw [List.getD_eq_getElem?_getD, List.getElem?_eq_getElem hi2]
    exact hs _ (List.getElem_mem _)
  · rw [List.mem_singleton.1 hx]
    exact ⟨by show 2000 < 4001; omega, noteB_sz _ _⟩
theorem settleE_ok {ps : List Nat} {l : List ByteArray} (hp : ∀ k ∈ ps, k < 2000) (hs : ∀ s ∈ l, s.size = 1024) : okE (settleE ps l) := by
  refine okE_append (fun x hx => ?_) (fun x hx => ?_)
  · obtain ⟨h1, h2⟩ := List.of_mem_zip (show (x.1, x.2) ∈ ps.zip l from hx)
    exact ⟨by have := hp _ h1; omega, hs _ h2⟩
  · rw [List.mem_singleton.1 hx]
    exact ⟨by show 2000 < 4001; omega, zerosB_sz⟩
theorem pagesF_lt {F : Int → Option ByteArray} : ∀ k ∈ pagesF F, k < 2000 := by
  intro k hk
  rcases List.mem_cons.1 hk with rfl | hk
  · omega
  · exact (ksF_mem.1 hk).1
theorem commitE_ok {F : Int → Option ByteArray} (hF : fineF F) (h : Head) : okE (commitE h F) :=
  okE_append (logsE_ok (by rw [← pages_texts]; have := ksF_len' hF; simp [pagesF]; omega) (textsF_sz hF h)) (settleE_ok pagesF_lt (textsF_sz hF h))
theorem commitE_len {F : Int → Option ByteArray} (hF : fineF F) (h : Head) : (commitE h F).length ≤ 4002 := by
  have h1 := ksF_len' hF
  have h2 := pages_texts h F
  have h3 : (pagesF F).length = (ksF F).length + 1 := by simp [pagesF]
  simp only [commitE, logsE, settleE, List.length_append, List.length_map, List.length_range, List.length_zip, List.length_cons, List.length_nil]
  omega
/-- What the log says. -/
def logBit (l : List UInt8) (k : Nat) : Bool := (l.getD (2 + k / 8) 0).toNat / 2 ^ (k % 8) % 2 == 1
def logPs (pg : Nat → ByteArray) : List Nat := (List.range 2000).filter (logBit (pgGet pg 2000).data.toList)
def logLs (pg : Nat → ByteArray) : List ByteArray := (List.range (logPs pg).length).map fun i => pgGet pg (2001 + i)
def loggedP (pg : Nat → ByteArray) : List Nat := if noteB (logPs pg) (logLs pg) = pgGet pg 2000 then logPs pg else []
def loggedL (pg : Nat → ByteArray) : List ByteArray := if noteB (logPs pg) (logLs pg) = pgGet pg 2000 then logLs pg else []
theorem logged_len (pg : Nat → ByteArray) : (loggedP pg).length = (loggedL pg).length := by
  unfold loggedP loggedL
  split
  · simp [logLs]
  · rfl
theorem logPs_len (pg : Nat → ByteArray) : (logPs pg).length ≤ 2000 := by
  have := List.length_filter_le (logBit (pgGet pg 2000).data.toList) (List.range 2000)
  simpa [logPs] using this
theorem loggedP_lt (pg : Nat → ByteArray) : ∀ k ∈ loggedP pg, k < 2000 := by
  intro k hk
  unfold loggedP at hk
  split at hk
  · exact List.mem_range.1 (List.mem_filter.1 hk).1
  · cases hk
theorem loggedL_sz {d : Dk} (h : d.whole) : ∀ s ∈ loggedL d.pg, s.size = 1024 := by
  intro s hs
  unfold loggedL at hs
  split at hs
  · obtain ⟨i, hi, rfl⟩ := List.mem_map.1 hs
    have := List.mem_range.1 hi
    have := logPs_len d.pg
    exact h _ (by omega)
  · cases hs
/-- What Open does to the disk. -/
def openE (pg : Nat → ByteArray) : List (Nat × ByteArray) := if loggedP pg = [] then [] else settleE (loggedP pg) (loggedL pg)
theorem openE_ok {d : Dk} (h : d.whole) : okE (openE d.pg) := by
  unfold openE
  split
  · intro x hx; cases hx
  · exact settleE_ok (loggedP_lt d.pg) (loggedL_sz h)
theorem openE_len (pg : Nat → ByteArray) : (openE pg).length ≤ 2001 := by
  have h1 := logPs_len pg
  have h2 := logged_len pg
  have h3 : (loggedP pg).length ≤ (logPs pg).length := by
    unfold loggedP
    split
    · exact Nat.le_refl _
    · exact Nat.zero_le _
  unfold openE
  split
  · exact Nat.zero_le _
  · simp only [settleE, List.length_append, List.length_zip, List.length_cons, List.length_nil]
    omega
/-- The head that a disk has. -/
def headD (pg : Nat → ByteArray) : Head := readsF (pgGet pg 0).data.toList
end Go.Proofs.Ytmjkalpjciddbaa

/-
  A map from numbers to texts: taking out, looking up, its size.
-/
namespace Go.Proofs.Ytmjkalpjciddbaa
open Go Go.RowKit Go.Maps

theorem mapTurned_gr {w w' : World} {M : Nat} (h : w.mapTurned w' M) : w.grownBy w' (some M) := h.grown
/-- 'delete(m, k)'. -/
theorem MapAt.drop {w : World} {M n : Nat} {F : Int → Option ByteArray} (h : MapAt w M n F) {k : Int} (hk : -9223372036854775808 ≤ k ∧ k ≤ 9223372036854775807) (ty : TypeId) :
    ∃ w', (Builtin.delete_ #[46, 3] ty #[.map (some M), .int .i64 k]).run Try.prog w = .ok (.tuple #[]) w' ∧ MapAt w' M n (fun i => if i = k then none else F i) ∧ w.grownBy w' (some M) := by
  obtain ⟨D, h1, h2⟩ := h
  obtain ⟨w', hrun, ho, hg⟩ := h1.drop (t := 46) (e := 9) keyI Try.underlying46 (keyOf_int_mk Try.underlying3 (wfI hk)) ty
  refine ⟨w', hrun, ⟨_, ho, fun i hi => ?_⟩, hg.grown⟩
  by_cases e : i = k
  · subst e
    simp only [if_true]
    exact ⟨Maps.has_del_same, fun z => Maps.atKey_del_same z⟩
  · have hne : (Lit.int .i64 i) ≠ (Lit.int .i64 k) := by
      intro h
      injection h with _ h
      exact e h
    simp only [if_neg e]
    rw [Maps.has_del_other hne]
    exact ⟨(h2 i hi).1, fun z => by rw [Maps.atKey_del_other hne]; exact (h2 i hi).2 z⟩
/-- A map's function, changed at a key. -/
def setF (F : Int → Option ByteArray) (k : Int) (s : Option ByteArray) : Int → Option ByteArray := fun i => if i = k then s else F i
theorem MapAt.storeF {w : World} {M n : Nat} {F : Int → Option ByteArray} (h : MapAt w M n F) (hn : n < 1000000) {k : Int} (hk : -9223372036854775808 ≤ k ∧ k ≤ 9223372036854775807) (s : ByteArray) (hs : s.size ≤ 9223372036854775807) :
    ∃ w', (Instr.mapUpdate 46 (.map (some M)) (.int .i64 k) (.string s)).run Try.prog w = .ok () w' ∧ MapAt w' M (n + 1) (setF F k (some s)) ∧ w.grownBy w' (some M) := h.store hn hk s hs
theorem wpList_del {ops : Array Oper} {rest : List Oper} {o : Oper} {a : Act} {Q : Exit → Act → World → Prop} {w : World} (hg : o.guard = none) (m x : Operand) (hop : o.op = Op.call { callee := Callee.builtin Builtin.delete, args := #[m, x], argTypes := #[46, 3] })
    {M n : Nat} {F : Int → Option ByteArray} (h : MapAt w M n F) (hm : a.eval m = .map (some M)) {k : Int} (hx : a.eval x = .int .i64 k) (hk : -9223372036854775808 ≤ k ∧ k ≤ 9223372036854775807)
    (hK : ∀ w', MapAt w' M n (setF F k none) → w.grownBy w' (some M) → wpList Try.prog ops Q rest (a.put o.dst (.tuple #[])) w') : wpList Try.prog ops Q (o :: rest) a w := by
  refine wpList_plain hg fun K' hK' => ?_
  obtain ⟨w', hrun, r1, r2⟩ := h.drop hk o.type
  unfold Oper.wp
  simp [execOp, hop, resolve, invoke, builtin, hm, hx, hrun, Result.andThen]
  exact hK' _ _ (hK w' r1 r2)
/-- 's := m[k]'. -/
theorem MapAt.look1 {w : World} {M n : Nat} {F : Int → Option ByteArray} (h : MapAt w M n F) {k : Int} (hk : -9223372036854775808 ≤ k ∧ k ≤ 9223372036854775807) :
    (Instr.lookup 46 (.map (some M)) (.int .i64 k) false).run Try.prog w = .ok (.string ((F k).getD ⟨#[]⟩)) w := by
  obtain ⟨D, h1, h2⟩ := h
  obtain ⟨e1, e2⟩ := h2 k (wfI hk)
  obtain ⟨v, ps, hrun, hv⟩ := h1.lookup (t := 46) (e := 9) keyI Try.underlying46 (zeroS w) (plainElem_string Try.underlying9 (by decide)) (keyOf_int_mk Try.underlying3 (wfI hk))
  rw [hrun]
  rw [e2] at hv
  obtain ⟨s, rfl, hz, _⟩ := plainElem_string_inv Try.underlying9 hv
  have : s = (F k).getD ⟨#[]⟩ := by
    apply data_ext
    cases hF : F k with
    | none =>
      rw [hF] at hz
      simp only [Prod.mk.injEq, DataW.lit.injEq, Lit.string.injEq] at hz
      exact hz.1.symm
    | some u =>
      rw [hF] at hz
      simp only [Prod.mk.injEq, DataW.lit.injEq, Lit.string.injEq] at hz
      exact hz.1.symm
  rw [this]
end Go.Proofs.Ytmjkalpjciddbaa
