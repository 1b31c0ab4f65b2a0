/-
  The contract of pager.sum.
-/
import Derived.Test.YtcdoeninajpbmaaGreatDoorRowV
import Derived.Test.YtcdoeninajpbmaaGreatDoorPagW
namespace Go.Proofs.YtcdoeninajpbmaaGreatDoor
open Go Go.RowKit

def datas (l : List ByteArray) : List (List UInt8) := l.map fun s => s.data.toList
theorem xor64 (n c : Nat) (hn : n < 18446744073709551616) (hc : c < 256) : bits BinOp.xor IntKind.u64 (n : Int) (c : Int) = ((n ^^^ c : Nat) : Int) := by
  show IntKind.u64.wrap ((BitVec.ofInt 64 (n : Int) ^^^ BitVec.ofInt 64 (c : Int)).toNat : Int) = _
  rw [BitVec.toNat_xor, ofInt_64 _ (by omega), ofInt_64 _ (by omega), IntKind.wrap_u64]
  have h : n ^^^ c < 2 ^ 64 := Nat.xor_lt_two_pow (by omega) (by omega)
  omega
theorem sumStep_lt (n : Nat) (c : UInt8) : sumStep n c < 18446744073709551616 := Nat.mod_lt _ (by omega)
theorem foldl_lt : ∀ (l : List UInt8) (n : Nat), n < 18446744073709551616 → l.foldl sumStep n < 18446744073709551616
  | [], _, h => h
  | c :: l, n, _ => foldl_lt l _ (sumStep_lt n c)
theorem sums_lt : ∀ (l : List (List UInt8)) (n : Nat), n < 18446744073709551616 → l.foldl (fun n s => s.foldl sumStep n) n < 18446744073709551616
  | [], _, h => h
  | s :: l, n, h => sums_lt l _ (foldl_lt s n h)
theorem take_fold {α β : Type} (f : β → α → β) (b : β) (l : List α) (k : Nat) (hk : k < l.length) : (l.take (k + 1)).foldl f b = f ((l.take k).foldl f b) l[k] := by
  rw [List.take_succ_eq_append_getElem hk, List.foldl_append]
  rfl
set_option maxRecDepth 100000 in
set_option maxHeartbeats 1600000 in
theorem sum_g (l : List ByteArray) (v : Value) (w : World) (h : RowV Value.string w v l) (hl : l.length ≤ 1000000) (hs : ∀ i (h : i < l.length), l[i].size ≤ 1000000) :
    Calls Tryz.prog 52 #[v] w (Ret w (.string ⟨(sumF (datas l)).toArray⟩)) := by
  obtain ⟨i0, hi, hz0, hz1, hz2⟩ := info_parts info_u8
  have H := Lib.hid h
  have HS := Lib.hid hs
  obtain ⟨ao, ca, rfl⟩ := h.form
  clear h hs
  go_enter Tryz.func52, Tryz.ntmps52
  go_wp2_with fail
  go_loopw [10, 3] (fun kv nv w' => ∃ i n : Nat, i ≤ l.length ∧ kv = .int .i64 i ∧ nv = .int .u64 n ∧ n = ((datas l).take i).foldl (fun n s => s.foldl sumStep n) 14695981039346656037 ∧ w' = w) (fun kv _ _ => l.length - (intOf kv).toNat)
  case atStart => exact ⟨0, _, Nat.zero_le _, rfl, rfl, rfl, rfl⟩
  case round =>
    obtain ⟨i, n, hi1, rfl, rfl, hn, rfl⟩ := hrel
    have hn64 : n < 18446744073709551616 := by
      rw [hn]
      exact sums_lt _ _ (by omega)
    have HN := Lib.hid hn
    clear hn
    by_cases hlt : i < l.length
    · obtain ⟨b, off, rfl, hc⟩ := H.out.at hlt
      have c0 := hc i hlt
      have hsz := HS.out i hlt
      have hdl : i < (datas l).length := by simpa [datas] using hlt
      have HNX := Lib.hid (take_fold (fun n s => s.foldl sumStep n) 14695981039346656037 (datas l) i hdl)
      have hdi : (datas l)[i] = l[i].data.toList := by simp [datas]
      have HDI := Lib.hid hdi
      clear hc hdi
      generalize l[i] = t at *
      go_wp2_with fail
      go_loopw [16, 3] (fun kv nv w' => ∃ k m : Nat, k ≤ t.size ∧ kv = .int .i64 k ∧ nv = .int .u64 m ∧ m = (t.data.toList.take k).foldl sumStep n ∧ w' = wr) (fun kv _ _ => t.size - (intOf kv).toNat)
      case atStart => exact ⟨0, _, Nat.zero_le _, rfl, rfl, rfl, rfl⟩
      case round =>
        obtain ⟨k, m, hk, rfl, rfl, hm, rfl⟩ := hrel
        have hm64 : m < 18446744073709551616 := by
          rw [hm]
          exact foldl_lt _ _ hn64
        have HM := Lib.hid hm
        clear hm
        by_cases hlk : k < t.size
        · have hkd : k < t.data.toList.length := by rw [← size_data]; exact hlk
          have HMX := Lib.hid (take_fold sumStep n t.data.toList k hkd)
          have HG := Lib.hid (get_data t k hlk)
          have hx := xor64 m t[k].toNat hm64 t[k].toNat_lt
          have hst : IntKind.u64.wrap (bits BinOp.xor IntKind.u64 (m : Int) (IntKind.u64.wrap (t[k].toNat : Int)) * 1099511628211) = ((sumStep m t[k] : Nat) : Int) := by
            have hw : IntKind.u64.wrap (t[k].toNat : Int) = (t[k].toNat : Int) := by
              have := t[k].toNat_lt
              rw [IntKind.wrap_u64]
              omega
            rw [hw, hx, IntKind.wrap_u64]
            unfold sumStep
            generalize m ^^^ t[k].toNat = x
            omega
          have HST := Lib.hid hst
          clear hx hst
          go_wp2_with fail
          refine ⟨⟨k + 1, sumStep m t[k], by omega, by go_num, by rw [HST.out], ?_, trivial⟩, by simp [intOf]; omega⟩
          rw [HMX.out, ← HM.out, HG.out]
        · obtain rfl : k = t.size := by omega
          have hmm : m = ((datas l).take (i + 1)).foldl (fun n s => s.foldl sumStep n) 14695981039346656037 := by
            rw [HNX.out, ← HN.out, HDI.out, HM.out, List.take_of_length_le (by rw [← size_data]; exact Nat.le_refl _)]
          have HMM := Lib.hid hmm
          clear hmm
          go_wp2_with fail
          exact ⟨⟨i + 1, m, by omega, by go_num, rfl, HMM.out, trivial⟩, by simp [intOf]; omega⟩
    · obtain rfl : i = l.length := by omega
      have hnn : n = sumN (datas l) := by
        rw [HN.out, List.take_of_length_le (by simp [datas])]
        rfl
      have HNN := Lib.hid hnn
      clear hnn
      rename World => wa
      go_wp2_with fail
      go_loopw [28, 3, 7] (fun kv nv bv w' => ∃ k : Nat, k ≤ 8 ∧ kv = .int .i64 k ∧ nv = .int .u64 ((n / 256 ^ k : Nat) : Int) ∧ OwnB wa w' bv (low8 n k) ∧ Gr wa w') (fun kv _ _ _ => 8 - (intOf kv).toNat)
      case atStart => exact ⟨0, Nat.zero_le _, rfl, by simp, World.ownsRow_nil _ _ _ _, Gr.refl _⟩
      case round =>
        obtain ⟨k, hk, rfl, rfl, ho, hg⟩ := hrel
        have HO := Lib.hid ho
        clear ho
        have hll := low8_len n k
        have hd64 : n / 256 ^ k < 18446744073709551616 := Nat.lt_of_le_of_lt (Nat.div_le_self _ _) hn64
        by_cases hlk : k < 8
        · have hb : IntKind.u8.wrap ((n / 256 ^ k : Nat) : Int) = (((n / 256 ^ k).toUInt8.toNat : Nat) : Int) := by
            show _ % 256 = ((n / 256 ^ k % 256 : Nat) : Int)
            omega
          have hnk : ((n / 256 ^ k : Nat) : Int) / 256 = ((n / 256 ^ (k + 1) : Nat) : Int) := by
            rw [Nat.pow_succ, ← Nat.div_div_eq_div_mul]
            omega
          have HLN : Hid (low8 n (k + 1) = low8 n k ++ [(n / 256 ^ k).toUInt8]) := Lib.hid rfl
          generalize hnx : n / 256 ^ (k + 1) = nx at *
          have HNV := Lib.hid hnx
          clear hnx
          generalize (n / 256 ^ k).toUInt8 = c at *
          generalize n / 256 ^ k = q at *
          have HNK := Lib.hid hnk
          clear hnk
          go_wp2_with (at_builtin; (refine append_one (a0 := wa) rfl _ _ 84 rfl 5 i0 (.int .u8 0) 1 1 Tryz.underlying84 hi hz0 hz1 hz2 rfl (by decide) _ _ _ rfl (OwnB.row HO.out) [_] rfl (by intro u hu; simp at hu; subst hu; rfl) rfl hg (by omega) (by omega) ?_))
          intro v4 w4 hown4 hg4
          go_wp2_with fail
          refine ⟨⟨k + 1, by omega, by go_num, by rw [HNV.out, HNK.out], ?_, hg4⟩, by simp [intOf]; omega⟩
          rw [HLN.out]
          exact own_snoc (by rw [byteV, low8_len]; exact hown4)
        · obtain rfl : k = 8 := by omega
          have hco := own_string HO.out
          go_wp2_with fail
          go_ret
          refine Ret.mk ?_ hg
          rw [sumF, ← HNN.out]
          rfl
end Go.Proofs.YtcdoeninajpbmaaGreatDoor
