/-
  concordanceref.asker.one at a word.
-/
import Derived.Test.YthenhglpljdhfaaDoorMtF
import Derived.Deep.RegionHeld3
namespace Go.Proofs.YthenhglpljdhfaaDoor
open Go Go.RowKit

theorem mark_at (x : UInt8) : decide ((0 : Int) ≤ Lib.indexByte [40, 41, 42, 34] x) = markB x := by
  rw [← Lib.contains_iff_indexByte]
  unfold markB
  simp only [List.contains_cons, List.contains_nil, Bool.or_false, Bool.or_assoc]
  cases x == 40 <;> cases x == 41 <;> cases x == 42 <;> cases x == 34 <;> rfl
theorem rq_cell (w : World) (a : ByteArray) : ((w.alloc (.cells #[.string a] 9)).alloc (.cells #[.int .i64 1, .slice (some ⟨w.heap.size, 0, none⟩) 1 1, .pointer none, .pointer none] 138)).cell? ⟨w.heap.size + 1, 1, none⟩ = some (.slice (some ⟨w.heap.size, 0, none⟩) 1 1) := by
  have := World.cell?_alloc_new (w := w.alloc (.cells #[.string a] 9)) #[.int .i64 1, .slice (some ⟨w.heap.size, 0, none⟩) 1 1, .pointer none, .pointer none] 138 1
  rw [show (w.alloc (.cells #[.string a] 9)).heap.size = w.heap.size + 1 by simp] at this
  exact this
theorem rw_cell (w : World) (a : ByteArray) : ((w.alloc (.cells #[.string a] 9)).alloc (.cells #[.int .i64 1, .slice (some ⟨w.heap.size, 0, none⟩) 1 1, .pointer none, .pointer none] 138)).cell? ⟨w.heap.size, 0, none⟩ = some (.string a) := ((Gr.refl _).alloc _).keeps (by rw [World.cell?_alloc_new]; rfl)
theorem rone_leaf {N : Nat} {w : World} (a : ByteArray) (hN : N < w.heap.size) : RAt N ((w.alloc (.cells #[.string a] 9)).alloc (.cells #[.int .i64 1, .slice (some ⟨w.heap.size, 0, none⟩) 1 1, .pointer none, .pointer none] 138)) (.leaf 1 [a] 0) (w.heap.size + 1) := by
  have hq := rleaf_new (N := N) (w := w.alloc (.cells #[.string a] 9)) 1 0 (words_one a hN 9) (by simp; omega) 138
  rw [show (w.alloc (.cells #[.string a] 9)).heap.size = w.heap.size + 1 by simp] at hq
  exact hq
theorem rtwo_leaf {N : Nat} {w : World} (a b : ByteArray) (hN : N < w.heap.size) : RAt N ((w.alloc (.cells #[.string a, .string b] 9)).alloc (.cells #[.int .i64 3, .slice (some ⟨w.heap.size, 0, none⟩) 2 2, .pointer none, .pointer none] 138)) (.leaf 3 [a, b] 3) (w.heap.size + 1) := by
  have hq := rleaf_new (N := N) (w := w.alloc (.cells #[.string a, .string b] 9)) 3 3 (words_two a b hN 9) (by simp; omega) 138
  rw [show (w.alloc (.cells #[.string a, .string b] 9)).heap.size = w.heap.size + 1 by simp] at hq
  exact hq
set_option maxRecDepth 100000 in
set_option maxHeartbeats 1600000 in
theorem rone_word1 (N d : Nat) (hd : d ≤ 12) (s : ByteArray) (t : List ByteArray) (w : World) (h : InA N w (s :: t)) (hf : Free s) (ho : s ≠ sOpen) (c0 : UInt8) (r : List UInt8) (hr : s.data.toList = c0 :: r) (h34 : c0 ≠ 34) (hst : pkB (t) ≠ sStar) (hsp : ∀ a, splitS s ≠ [a]) :
    Calls Tryd.prog 112 #[.pointer (some ⟨N, 0, none⟩), .int .i64 d] w (RPost N w (.bad 3)) := by
  obtain ⟨hA, hl, hps⟩ := h
  have hpk := peek_t N (s :: t) hl w hA
  have hlN := lt_of_cell hA.2.1
  have hgw : Gr w (w.alloc (.cells #[.int .i64 0, .slice none 0 0, .pointer none, .pointer none] 138)) := (Gr.refl w).alloc _
  have AC := hA.gr hgw
  have GN : GrN N w (w.alloc (.cells #[.int .i64 0, .slice none 0 0, .pointer none, .pointer none] 138)) := GrX.of_gr hgw
  have gd : decide ((12 : Int) < (d : Int)) = false := by simp; omega
  have hsz := (hps s (by simp)).2
  have h0 : 0 < s.size := by rw [size_data, hr]; simp
  have hq : (((s[0].toNat : Nat) : Int) == 34) = false := (byteEq s[0] 34).trans (by
    rw [get_data s 0 h0]
    simpa [hr] using h34)
  have hlt : (t).length ≤ 1000 := by simp at hl ⊢; omega
  obtain ⟨n0, n1, n2, n3, n4, n5, n6⟩ := hf
  have n7 := tl_ne (s := s) (k := [40]) ho
  have HPS := Lib.hid hps
  rw [show pkB (s :: t) = s from rfl] at hpk
  clear hps hA hr
  go_enter Tryd.func112, Tryd.ntmps112
  go_wp2_with (first | (go_at_call 113; with_reducible refine hpk.mono ?_; rintro e w1 ⟨rfl, rfl⟩) | (go_at_call_of 95 (Value.string s); refine (atake_yes N s (t) hl _ AC).mono ?_; rintro e w3 ⟨rfl, AC, hg3⟩; have GN := GN.trans hg3; clear hg3) | (go_at_call_of 95 (Value.string ⟨#[42]⟩); refine (atake_no N (t) ⟨#[42]⟩ hlt _ AC hst).mono ?_; rintro e w4 ⟨rfl, rfl⟩) | (go_at_call_of 123 (Value.string s); refine (aplain_bad N (t) s hsz hsp _ AC).mono ?_; rintro e w5 ⟨rfl, AC, hg5⟩; have hga : Gr w5 ((w5.alloc (.cells #[.string ⟨#[]⟩] 9)).alloc (.cells #[.int .i64 1, .slice (some ⟨w5.heap.size, 0, none⟩) 1 1, .pointer none, .pointer none] 138)) := ((Gr.refl w5).alloc _).alloc _; have AC := AC.gr hga; have GN := (GN.trans hg5).trans (GrX.of_gr hga); clear hg5 hga) | (go_at_call_of 95 (Value.string ⟨#[78, 69, 65, 82]⟩); refine (atake_bad N (t) 3 ⟨#[78, 69, 65, 82]⟩ _ AC (by decide) (by decide)).mono ?_; rintro e w6 ⟨rfl, rfl⟩))
  go_ret
  exact ⟨_, t, rfl, AC, by decide, GN⟩
set_option maxRecDepth 100000 in
set_option maxHeartbeats 1600000 in
theorem rone_word2 (N d : Nat) (hd : d ≤ 12) (s : ByteArray) (t : List ByteArray) (w : World) (h : InA N w (s :: t)) (hf : Free s) (ho : s ≠ sOpen) (c0 : UInt8) (r : List UInt8) (hr : s.data.toList = c0 :: r) (h34 : c0 ≠ 34) (hst : pkB (t) ≠ sStar) (a : ByteArray) (hsp : splitS s = [a]) (hnear : pkB t ≠ sNear) :
    Calls Tryd.prog 112 #[.pointer (some ⟨N, 0, none⟩), .int .i64 d] w (RPost N w (.ok (.leaf 1 [a] 0) t)) := by
  obtain ⟨hA, hl, hps⟩ := h
  have hpk := peek_t N (s :: t) hl w hA
  have hlN := lt_of_cell hA.2.1
  have hgw : Gr w (w.alloc (.cells #[.int .i64 0, .slice none 0 0, .pointer none, .pointer none] 138)) := (Gr.refl w).alloc _
  have AC := hA.gr hgw
  have GN : GrN N w (w.alloc (.cells #[.int .i64 0, .slice none 0 0, .pointer none, .pointer none] 138)) := GrX.of_gr hgw
  have gd : decide ((12 : Int) < (d : Int)) = false := by simp; omega
  have hsz := (hps s (by simp)).2
  have h0 : 0 < s.size := by rw [size_data, hr]; simp
  have hq : (((s[0].toNat : Nat) : Int) == 34) = false := (byteEq s[0] 34).trans (by
    rw [get_data s 0 h0]
    simpa [hr] using h34)
  have hlt : (t).length ≤ 1000 := by simp at hl ⊢; omega
  obtain ⟨n0, n1, n2, n3, n4, n5, n6⟩ := hf
  have n7 := tl_ne (s := s) (k := [40]) ho
  have HPS := Lib.hid hps
  rw [show pkB (s :: t) = s from rfl] at hpk
  clear hps hA hr
  go_enter Tryd.func112, Tryd.ntmps112
  go_wp2_with (first | (go_at_call 113; with_reducible refine hpk.mono ?_; rintro e w1 ⟨rfl, rfl⟩) | (go_at_call_of 95 (Value.string s); refine (atake_yes N s (t) hl _ AC).mono ?_; rintro e w3 ⟨rfl, AC, hg3⟩; have GN := GN.trans hg3; clear hg3) | (go_at_call_of 95 (Value.string ⟨#[42]⟩); refine (atake_no N (t) ⟨#[42]⟩ hlt _ AC hst).mono ?_; rintro e w4 ⟨rfl, rfl⟩) | (go_at_call_of 123 (Value.string s); refine (aplain_one N s a hsz hsp _).mono ?_; rintro e w5 ⟨rfl, hg5⟩; have hga : Gr w5 ((w5.alloc (.cells #[.string a] 9)).alloc (.cells #[.int .i64 1, .slice (some ⟨w5.heap.size, 0, none⟩) 1 1, .pointer none, .pointer none] 138)) := ((Gr.refl w5).alloc _).alloc _; have hN5 : N < w5.heap.size := Nat.lt_of_lt_of_le (Nat.lt_of_lt_of_le hlN GN.2.2.2.1) hg5.size; have AC := (AC.gr hg5).gr hga; have GN := (GN.trans (GrX.of_gr hg5)).trans (GrX.of_gr hga); have QC1 := rq_cell w5 a; have QC2 := rw_cell w5 a; have HRL := Lib.hid (rone_leaf (N := N) a hN5); clear hg5 hga) | (go_at_call_of 95 (Value.string ⟨#[78, 69, 65, 82]⟩); refine (atake_no N (t) ⟨#[78, 69, 65, 82]⟩ hlt _ AC hnear).mono ?_; rintro e w6 ⟨rfl, rfl⟩))
  go_ret
  exact ⟨_, rfl, HRL.out, AC, GN⟩
set_option maxRecDepth 100000 in
set_option maxHeartbeats 1600000 in
theorem rone_word3 (N d : Nat) (hd : d ≤ 12) (s : ByteArray) (t : List ByteArray) (w : World) (h : InA N w (s :: (⟨#[78, 69, 65, 82]⟩ : ByteArray) :: t)) (hf : Free s) (ho : s ≠ sOpen) (c0 : UInt8) (r : List UInt8) (hr : s.data.toList = c0 :: r) (h34 : c0 ≠ 34) (hst : pkB ((⟨#[78, 69, 65, 82]⟩ : ByteArray) :: t) ≠ sStar) (a : ByteArray) (hsp : splitS s = [a]) (hnb : pkB t = sNone) :
    Calls Tryd.prog 112 #[.pointer (some ⟨N, 0, none⟩), .int .i64 d] w (RPost N w (.bad 3)) := by
  have hnb2 := (tl_iff (pkB t) []).2 hnb
  obtain ⟨hA, hl, hps⟩ := h
  have hpk := peek_t N (s :: (⟨#[78, 69, 65, 82]⟩ : ByteArray) :: t) hl w hA
  have hlN := lt_of_cell hA.2.1
  have hgw : Gr w (w.alloc (.cells #[.int .i64 0, .slice none 0 0, .pointer none, .pointer none] 138)) := (Gr.refl w).alloc _
  have AC := hA.gr hgw
  have GN : GrN N w (w.alloc (.cells #[.int .i64 0, .slice none 0 0, .pointer none, .pointer none] 138)) := GrX.of_gr hgw
  have gd : decide ((12 : Int) < (d : Int)) = false := by simp; omega
  have hsz := (hps s (by simp)).2
  have h0 : 0 < s.size := by rw [size_data, hr]; simp
  have hq : (((s[0].toNat : Nat) : Int) == 34) = false := (byteEq s[0] 34).trans (by
    rw [get_data s 0 h0]
    simpa [hr] using h34)
  have hlt : ((⟨#[78, 69, 65, 82]⟩ : ByteArray) :: t).length ≤ 1000 := by simp at hl ⊢; omega
  obtain ⟨n0, n1, n2, n3, n4, n5, n6⟩ := hf
  have n7 := tl_ne (s := s) (k := [40]) ho
  have HPS := Lib.hid hps
  rw [show pkB (s :: (⟨#[78, 69, 65, 82]⟩ : ByteArray) :: t) = s from rfl] at hpk
  clear hps hA hr
  have hltt : t.length ≤ 1000 := by simp at hlt; omega
  generalize hpb : pkB t = pb at *
  have HPB := Lib.hid hpb
  clear hnb hpb
  go_enter Tryd.func112, Tryd.ntmps112
  go_wp2_with (first | (go_at_call 113; with_reducible refine hpk.mono ?_; rintro e w1 ⟨rfl, rfl⟩) | (go_at_call_of 95 (Value.string s); refine (atake_yes N s ((⟨#[78, 69, 65, 82]⟩ : ByteArray) :: t) hl _ AC).mono ?_; rintro e w3 ⟨rfl, AC, hg3⟩; have GN := GN.trans hg3; clear hg3) | (go_at_call_of 95 (Value.string ⟨#[42]⟩); refine (atake_no N ((⟨#[78, 69, 65, 82]⟩ : ByteArray) :: t) ⟨#[42]⟩ hlt _ AC hst).mono ?_; rintro e w4 ⟨rfl, rfl⟩) | (go_at_call_of 123 (Value.string s); refine (aplain_one N s a hsz hsp _).mono ?_; rintro e w5 ⟨rfl, hg5⟩; have hga : Gr w5 ((w5.alloc (.cells #[.string a] 9)).alloc (.cells #[.int .i64 1, .slice (some ⟨w5.heap.size, 0, none⟩) 1 1, .pointer none, .pointer none] 138)) := ((Gr.refl w5).alloc _).alloc _; have hN5 : N < w5.heap.size := Nat.lt_of_lt_of_le (Nat.lt_of_lt_of_le hlN GN.2.2.2.1) hg5.size; have AC := (AC.gr hg5).gr hga; have GN := (GN.trans (GrX.of_gr hg5)).trans (GrX.of_gr hga); have QC1 := rq_cell w5 a; have QC2 := rw_cell w5 a; have HRL := Lib.hid (rone_leaf (N := N) a hN5); clear hg5 hga) | (go_at_call_of 95 (Value.string ⟨#[78, 69, 65, 82]⟩); refine (atake_yes N ⟨#[78, 69, 65, 82]⟩ (t) hlt _ AC).mono ?_; rintro e w6 ⟨rfl, AC, hg6⟩; have GN := GN.trans hg6; have QC1 := hg6.keeps (show ¬ w5.heap.size + 1 = N by omega) QC1; have QC2 := hg6.keeps (show ¬ w5.heap.size = N by omega) QC2; clear hg6) | (go_at_call 113; refine (peek_t N (t) hltt _ AC).mono ?_; rintro e w7 ⟨rfl, rfl⟩; rw [HPB.out]) | (go_at_call 73; refine (fails_t N (t) 0 3 _ AC).mono ?_; rintro e w8 ⟨rfl, AC, hg8⟩; have GN := GN.trans hg8; clear hg8))
  go_ret
  exact ⟨_, t, rfl, AC, by decide, GN⟩
set_option maxRecDepth 100000 in
set_option maxHeartbeats 1600000 in
theorem rone_word4 (N d : Nat) (hd : d ≤ 12) (s : ByteArray) (b : ByteArray) (t : List ByteArray) (w : World) (h : InA N w (s :: (⟨#[78, 69, 65, 82]⟩ : ByteArray) :: b :: t)) (hf : Free s) (ho : s ≠ sOpen) (c0 : UInt8) (r : List UInt8) (hr : s.data.toList = c0 :: r) (h34 : c0 ≠ 34) (hst : pkB ((⟨#[78, 69, 65, 82]⟩ : ByteArray) :: b :: t) ≠ sStar) (a : ByteArray) (hsp : splitS s = [a]) (hmk : markB (headB b) = true) :
    Calls Tryd.prog 112 #[.pointer (some ⟨N, 0, none⟩), .int .i64 d] w (RPost N w (.bad 3)) := by
  obtain ⟨hA, hl, hps⟩ := h
  have hpk := peek_t N (s :: (⟨#[78, 69, 65, 82]⟩ : ByteArray) :: b :: t) hl w hA
  have hlN := lt_of_cell hA.2.1
  have hgw : Gr w (w.alloc (.cells #[.int .i64 0, .slice none 0 0, .pointer none, .pointer none] 138)) := (Gr.refl w).alloc _
  have AC := hA.gr hgw
  have GN : GrN N w (w.alloc (.cells #[.int .i64 0, .slice none 0 0, .pointer none, .pointer none] 138)) := GrX.of_gr hgw
  have gd : decide ((12 : Int) < (d : Int)) = false := by simp; omega
  have hsz := (hps s (by simp)).2
  have h0 : 0 < s.size := by rw [size_data, hr]; simp
  have hq : (((s[0].toNat : Nat) : Int) == 34) = false := (byteEq s[0] 34).trans (by
    rw [get_data s 0 h0]
    simpa [hr] using h34)
  have hlt : ((⟨#[78, 69, 65, 82]⟩ : ByteArray) :: b :: t).length ≤ 1000 := by simp at hl ⊢; omega
  obtain ⟨n0, n1, n2, n3, n4, n5, n6⟩ := hf
  have n7 := tl_ne (s := s) (k := [40]) ho
  have HPS := Lib.hid hps
  rw [show pkB (s :: (⟨#[78, 69, 65, 82]⟩ : ByteArray) :: b :: t) = s from rfl] at hpk
  clear hps hA hr
  have hltt : (b :: t).length ≤ 1000 := by simp at hlt ⊢; omega
  have hbz := (HPS.out b (by simp)).2
  have hbo := (HPS.out b (by simp)).1
  obtain ⟨cb, rb, hcb, _⟩ := hbo
  have hb0 : 0 < b.size := by rw [size_data, hcb]; simp
  have hbe : b.toList.isEmpty = false := by rw [ByteArray.toList_eq, hcb]; rfl
  have hhb : headB b = b[0] := by unfold headB; rw [get_data b 0 hb0]; simp [hcb]
  have hma := mark_at b[0]
  rw [← hhb, hmk, hhb] at hma
  have hib : ∀ W, Calls Tryd.prog 91 #[.string ⟨#[40, 41, 42, 34]⟩, .int .u8 (b[0].toNat : Int)] W fun e w' => e = .returned (.int .i64 (Lib.indexByte [40, 41, 42, 34] b[0])) ∧ w' = W := fun W => by
    have h := Tryd.strings_IndexByte ⟨#[40, 41, 42, 34]⟩ (b[0].toNat : Int) W
    rw [show (((b[0].toNat : Nat) : Int)).toNat.toUInt8 = b[0] from by simp] at h
    exact h
  generalize Lib.indexByte [40, 41, 42, 34] b[0] = ib at *
  clear hmk hhb hcb
  go_enter Tryd.func112, Tryd.ntmps112
  go_wp2_with (first | (go_at_call 113; with_reducible refine hpk.mono ?_; rintro e w1 ⟨rfl, rfl⟩) | (go_at_call_of 95 (Value.string s); refine (atake_yes N s ((⟨#[78, 69, 65, 82]⟩ : ByteArray) :: b :: t) hl _ AC).mono ?_; rintro e w3 ⟨rfl, AC, hg3⟩; have GN := GN.trans hg3; clear hg3) | (go_at_call_of 95 (Value.string ⟨#[42]⟩); refine (atake_no N ((⟨#[78, 69, 65, 82]⟩ : ByteArray) :: b :: t) ⟨#[42]⟩ hlt _ AC hst).mono ?_; rintro e w4 ⟨rfl, rfl⟩) | (go_at_call_of 123 (Value.string s); refine (aplain_one N s a hsz hsp _).mono ?_; rintro e w5 ⟨rfl, hg5⟩; have hga : Gr w5 ((w5.alloc (.cells #[.string a] 9)).alloc (.cells #[.int .i64 1, .slice (some ⟨w5.heap.size, 0, none⟩) 1 1, .pointer none, .pointer none] 138)) := ((Gr.refl w5).alloc _).alloc _; have hN5 : N < w5.heap.size := Nat.lt_of_lt_of_le (Nat.lt_of_lt_of_le hlN GN.2.2.2.1) hg5.size; have AC := (AC.gr hg5).gr hga; have GN := (GN.trans (GrX.of_gr hg5)).trans (GrX.of_gr hga); have QC1 := rq_cell w5 a; have QC2 := rw_cell w5 a; have HRL := Lib.hid (rone_leaf (N := N) a hN5); clear hg5 hga) | (go_at_call_of 95 (Value.string ⟨#[78, 69, 65, 82]⟩); refine (atake_yes N ⟨#[78, 69, 65, 82]⟩ (b :: t) hlt _ AC).mono ?_; rintro e w6 ⟨rfl, AC, hg6⟩; have GN := GN.trans hg6; have QC1 := hg6.keeps (show ¬ w5.heap.size + 1 = N by omega) QC1; have QC2 := hg6.keeps (show ¬ w5.heap.size = N by omega) QC2; clear hg6) | (go_at_call 113; refine (peek_t N (b :: t) hltt _ AC).mono ?_; rintro e w7 ⟨rfl, rfl⟩; rw [show pkB (b :: t) = b from rfl]) | (go_at_call 91; refine (hib _).mono ?_; rintro e w7 ⟨rfl, rfl⟩) | (go_at_call 73; refine (fails_t N (b :: t) 0 3 _ AC).mono ?_; rintro e w8 ⟨rfl, AC, hg8⟩; have GN := GN.trans hg8; clear hg8))
  go_ret
  exact ⟨_, b :: t, rfl, AC, by decide, GN⟩
set_option maxRecDepth 100000 in
set_option maxHeartbeats 1600000 in
theorem rone_word5 (N d : Nat) (hd : d ≤ 12) (s : ByteArray) (b : ByteArray) (t : List ByteArray) (w : World) (h : InA N w (s :: (⟨#[78, 69, 65, 82]⟩ : ByteArray) :: b :: t)) (hf : Free s) (ho : s ≠ sOpen) (c0 : UInt8) (r : List UInt8) (hr : s.data.toList = c0 :: r) (h34 : c0 ≠ 34) (hst : pkB ((⟨#[78, 69, 65, 82]⟩ : ByteArray) :: b :: t) ≠ sStar) (a : ByteArray) (hsp : splitS s = [a]) (hmk : markB (headB b) = false) (hsb : ∀ a, splitS b ≠ [a]) :
    Calls Tryd.prog 112 #[.pointer (some ⟨N, 0, none⟩), .int .i64 d] w (RPost N w (.bad 3)) := by
  obtain ⟨hA, hl, hps⟩ := h
  have hpk := peek_t N (s :: (⟨#[78, 69, 65, 82]⟩ : ByteArray) :: b :: t) hl w hA
  have hlN := lt_of_cell hA.2.1
  have hgw : Gr w (w.alloc (.cells #[.int .i64 0, .slice none 0 0, .pointer none, .pointer none] 138)) := (Gr.refl w).alloc _
  have AC := hA.gr hgw
  have GN : GrN N w (w.alloc (.cells #[.int .i64 0, .slice none 0 0, .pointer none, .pointer none] 138)) := GrX.of_gr hgw
  have gd : decide ((12 : Int) < (d : Int)) = false := by simp; omega
  have hsz := (hps s (by simp)).2
  have h0 : 0 < s.size := by rw [size_data, hr]; simp
  have hq : (((s[0].toNat : Nat) : Int) == 34) = false := (byteEq s[0] 34).trans (by
    rw [get_data s 0 h0]
    simpa [hr] using h34)
  have hlt : ((⟨#[78, 69, 65, 82]⟩ : ByteArray) :: b :: t).length ≤ 1000 := by simp at hl ⊢; omega
  obtain ⟨n0, n1, n2, n3, n4, n5, n6⟩ := hf
  have n7 := tl_ne (s := s) (k := [40]) ho
  have HPS := Lib.hid hps
  rw [show pkB (s :: (⟨#[78, 69, 65, 82]⟩ : ByteArray) :: b :: t) = s from rfl] at hpk
  clear hps hA hr
  have hltt : (b :: t).length ≤ 1000 := by simp at hlt ⊢; omega
  have hbz := (HPS.out b (by simp)).2
  have hbo := (HPS.out b (by simp)).1
  obtain ⟨cb, rb, hcb, _⟩ := hbo
  have hb0 : 0 < b.size := by rw [size_data, hcb]; simp
  have hbe : b.toList.isEmpty = false := by rw [ByteArray.toList_eq, hcb]; rfl
  have hhb : headB b = b[0] := by unfold headB; rw [get_data b 0 hb0]; simp [hcb]
  have hma := mark_at b[0]
  rw [← hhb, hmk, hhb] at hma
  have hib : ∀ W, Calls Tryd.prog 91 #[.string ⟨#[40, 41, 42, 34]⟩, .int .u8 (b[0].toNat : Int)] W fun e w' => e = .returned (.int .i64 (Lib.indexByte [40, 41, 42, 34] b[0])) ∧ w' = W := fun W => by
    have h := Tryd.strings_IndexByte ⟨#[40, 41, 42, 34]⟩ (b[0].toNat : Int) W
    rw [show (((b[0].toNat : Nat) : Int)).toNat.toUInt8 = b[0] from by simp] at h
    exact h
  generalize Lib.indexByte [40, 41, 42, 34] b[0] = ib at *
  clear hmk hhb hcb
  go_enter Tryd.func112, Tryd.ntmps112
  go_wp2_with (first | (go_at_call 113; with_reducible refine hpk.mono ?_; rintro e w1 ⟨rfl, rfl⟩) | (go_at_call_of 95 (Value.string s); refine (atake_yes N s ((⟨#[78, 69, 65, 82]⟩ : ByteArray) :: b :: t) hl _ AC).mono ?_; rintro e w3 ⟨rfl, AC, hg3⟩; have GN := GN.trans hg3; clear hg3) | (go_at_call_of 95 (Value.string ⟨#[42]⟩); refine (atake_no N ((⟨#[78, 69, 65, 82]⟩ : ByteArray) :: b :: t) ⟨#[42]⟩ hlt _ AC hst).mono ?_; rintro e w4 ⟨rfl, rfl⟩) | (go_at_call_of 123 (Value.string s); refine (aplain_one N s a hsz hsp _).mono ?_; rintro e w5 ⟨rfl, hg5⟩; have hga : Gr w5 ((w5.alloc (.cells #[.string a] 9)).alloc (.cells #[.int .i64 1, .slice (some ⟨w5.heap.size, 0, none⟩) 1 1, .pointer none, .pointer none] 138)) := ((Gr.refl w5).alloc _).alloc _; have hN5 : N < w5.heap.size := Nat.lt_of_lt_of_le (Nat.lt_of_lt_of_le hlN GN.2.2.2.1) hg5.size; have AC := (AC.gr hg5).gr hga; have GN := (GN.trans (GrX.of_gr hg5)).trans (GrX.of_gr hga); have QC1 := rq_cell w5 a; have QC2 := rw_cell w5 a; have HRL := Lib.hid (rone_leaf (N := N) a hN5); clear hg5 hga) | (go_at_call_of 95 (Value.string ⟨#[78, 69, 65, 82]⟩); refine (atake_yes N ⟨#[78, 69, 65, 82]⟩ (b :: t) hlt _ AC).mono ?_; rintro e w6 ⟨rfl, AC, hg6⟩; have GN := GN.trans hg6; have QC1 := hg6.keeps (show ¬ w5.heap.size + 1 = N by omega) QC1; have QC2 := hg6.keeps (show ¬ w5.heap.size = N by omega) QC2; clear hg6) | (go_at_call 113; refine (peek_t N (b :: t) hltt _ AC).mono ?_; rintro e w7 ⟨rfl, rfl⟩; rw [show pkB (b :: t) = b from rfl]) | (go_at_call 91; refine (hib _).mono ?_; rintro e w7 ⟨rfl, rfl⟩) | (go_at_call_of 95 (Value.string b); refine (atake_yes N b t hltt _ AC).mono ?_; rintro e w8 ⟨rfl, AC, hg8⟩; have GN := GN.trans hg8; have QC1 := hg8.keeps (show ¬ w5.heap.size + 1 = N by omega) QC1; have QC2 := hg8.keeps (show ¬ w5.heap.size = N by omega) QC2; clear hg8))
  have hdr : Gr w8 w8.drew := (Gr.refl w8).drew
  have AC := AC.gr hdr
  have GN := GN.trans (GrX.of_gr hdr)
  have QC1 := hdr.keeps QC1
  have QC2 := hdr.keeps QC2
  go_region_held3 (fun w' => w'.cell? ⟨w5.heap.size + 1, 1, none⟩ = some (.slice (some ⟨w5.heap.size, 0, none⟩) 1 1) ∧ w'.cell? ⟨w5.heap.size, 0, none⟩ = some (.string a)) (first | exact ⟨QC1, QC2⟩ | exact ⟨((Gr.refl _).alloc _).keeps QC1, ((Gr.refl _).alloc _).keeps QC2⟩ | exact ⟨(((Gr.refl _).alloc _).alloc _).keeps QC1, (((Gr.refl _).alloc _).alloc _).keeps QC2⟩ | (refine ⟨?_, ?_⟩ <;> assumption)) (first | (go_at_call_of 123 (Value.string b); refine (aplain_bad N t b hbz hsb _ AC).mono ?_; rintro e w9 ⟨rfl, AC, hg9⟩; have hga : Gr w9 ((w9.alloc (.cells #[.string a, .string ⟨#[]⟩] 9)).alloc (.cells #[.int .i64 3, .slice (some ⟨w9.heap.size, 0, none⟩) 2 2, .pointer none, .pointer none] 138)) := ((Gr.refl w9).alloc _).alloc _; have AC := AC.gr hga; have QC1 := hg9.keeps (show ¬ w5.heap.size + 1 = N by omega) QC1; have QC2 := hg9.keeps (show ¬ w5.heap.size = N by omega) QC2; have GN := (GN.trans hg9).trans (GrX.of_gr hga); clear hg9 hga))
  go_wp2_with fail
  go_ret
  exact ⟨_, t, rfl, AC, by decide, GN⟩
set_option maxRecDepth 100000 in
set_option maxHeartbeats 1600000 in
theorem rone_word6 (N d : Nat) (hd : d ≤ 12) (s : ByteArray) (b : ByteArray) (t : List ByteArray) (w : World) (h : InA N w (s :: (⟨#[78, 69, 65, 82]⟩ : ByteArray) :: b :: t)) (hf : Free s) (ho : s ≠ sOpen) (c0 : UInt8) (r : List UInt8) (hr : s.data.toList = c0 :: r) (h34 : c0 ≠ 34) (hst : pkB ((⟨#[78, 69, 65, 82]⟩ : ByteArray) :: b :: t) ≠ sStar) (a : ByteArray) (hsp : splitS s = [a]) (hmk : markB (headB b) = false) (a2 : ByteArray) (hsb : splitS b = [a2]) :
    Calls Tryd.prog 112 #[.pointer (some ⟨N, 0, none⟩), .int .i64 d] w (RPost N w (.ok (.leaf 3 [a, a2] 3) t)) := by
  obtain ⟨hA, hl, hps⟩ := h
  have hpk := peek_t N (s :: (⟨#[78, 69, 65, 82]⟩ : ByteArray) :: b :: t) hl w hA
  have hlN := lt_of_cell hA.2.1
  have hgw : Gr w (w.alloc (.cells #[.int .i64 0, .slice none 0 0, .pointer none, .pointer none] 138)) := (Gr.refl w).alloc _
  have AC := hA.gr hgw
  have GN : GrN N w (w.alloc (.cells #[.int .i64 0, .slice none 0 0, .pointer none, .pointer none] 138)) := GrX.of_gr hgw
  have gd : decide ((12 : Int) < (d : Int)) = false := by simp; omega
  have hsz := (hps s (by simp)).2
  have h0 : 0 < s.size := by rw [size_data, hr]; simp
  have hq : (((s[0].toNat : Nat) : Int) == 34) = false := (byteEq s[0] 34).trans (by
    rw [get_data s 0 h0]
    simpa [hr] using h34)
  have hlt : ((⟨#[78, 69, 65, 82]⟩ : ByteArray) :: b :: t).length ≤ 1000 := by simp at hl ⊢; omega
  obtain ⟨n0, n1, n2, n3, n4, n5, n6⟩ := hf
  have n7 := tl_ne (s := s) (k := [40]) ho
  have HPS := Lib.hid hps
  rw [show pkB (s :: (⟨#[78, 69, 65, 82]⟩ : ByteArray) :: b :: t) = s from rfl] at hpk
  clear hps hA hr
  have hltt : (b :: t).length ≤ 1000 := by simp at hlt ⊢; omega
  have hbz := (HPS.out b (by simp)).2
  have hbo := (HPS.out b (by simp)).1
  obtain ⟨cb, rb, hcb, _⟩ := hbo
  have hb0 : 0 < b.size := by rw [size_data, hcb]; simp
  have hbe : b.toList.isEmpty = false := by rw [ByteArray.toList_eq, hcb]; rfl
  have hhb : headB b = b[0] := by unfold headB; rw [get_data b 0 hb0]; simp [hcb]
  have hma := mark_at b[0]
  rw [← hhb, hmk, hhb] at hma
  have hib : ∀ W, Calls Tryd.prog 91 #[.string ⟨#[40, 41, 42, 34]⟩, .int .u8 (b[0].toNat : Int)] W fun e w' => e = .returned (.int .i64 (Lib.indexByte [40, 41, 42, 34] b[0])) ∧ w' = W := fun W => by
    have h := Tryd.strings_IndexByte ⟨#[40, 41, 42, 34]⟩ (b[0].toNat : Int) W
    rw [show (((b[0].toNat : Nat) : Int)).toNat.toUInt8 = b[0] from by simp] at h
    exact h
  generalize Lib.indexByte [40, 41, 42, 34] b[0] = ib at *
  clear hmk hhb hcb
  go_enter Tryd.func112, Tryd.ntmps112
  go_wp2_with (first | (go_at_call 113; with_reducible refine hpk.mono ?_; rintro e w1 ⟨rfl, rfl⟩) | (go_at_call_of 95 (Value.string s); refine (atake_yes N s ((⟨#[78, 69, 65, 82]⟩ : ByteArray) :: b :: t) hl _ AC).mono ?_; rintro e w3 ⟨rfl, AC, hg3⟩; have GN := GN.trans hg3; clear hg3) | (go_at_call_of 95 (Value.string ⟨#[42]⟩); refine (atake_no N ((⟨#[78, 69, 65, 82]⟩ : ByteArray) :: b :: t) ⟨#[42]⟩ hlt _ AC hst).mono ?_; rintro e w4 ⟨rfl, rfl⟩) | (go_at_call_of 123 (Value.string s); refine (aplain_one N s a hsz hsp _).mono ?_; rintro e w5 ⟨rfl, hg5⟩; have hga : Gr w5 ((w5.alloc (.cells #[.string a] 9)).alloc (.cells #[.int .i64 1, .slice (some ⟨w5.heap.size, 0, none⟩) 1 1, .pointer none, .pointer none] 138)) := ((Gr.refl w5).alloc _).alloc _; have hN5 : N < w5.heap.size := Nat.lt_of_lt_of_le (Nat.lt_of_lt_of_le hlN GN.2.2.2.1) hg5.size; have AC := (AC.gr hg5).gr hga; have GN := (GN.trans (GrX.of_gr hg5)).trans (GrX.of_gr hga); have QC1 := rq_cell w5 a; have QC2 := rw_cell w5 a; have HRL := Lib.hid (rone_leaf (N := N) a hN5); clear hg5 hga) | (go_at_call_of 95 (Value.string ⟨#[78, 69, 65, 82]⟩); refine (atake_yes N ⟨#[78, 69, 65, 82]⟩ (b :: t) hlt _ AC).mono ?_; rintro e w6 ⟨rfl, AC, hg6⟩; have GN := GN.trans hg6; have QC1 := hg6.keeps (show ¬ w5.heap.size + 1 = N by omega) QC1; have QC2 := hg6.keeps (show ¬ w5.heap.size = N by omega) QC2; clear hg6) | (go_at_call 113; refine (peek_t N (b :: t) hltt _ AC).mono ?_; rintro e w7 ⟨rfl, rfl⟩; rw [show pkB (b :: t) = b from rfl]) | (go_at_call 91; refine (hib _).mono ?_; rintro e w7 ⟨rfl, rfl⟩) | (go_at_call_of 95 (Value.string b); refine (atake_yes N b t hltt _ AC).mono ?_; rintro e w8 ⟨rfl, AC, hg8⟩; have GN := GN.trans hg8; have QC1 := hg8.keeps (show ¬ w5.heap.size + 1 = N by omega) QC1; have QC2 := hg8.keeps (show ¬ w5.heap.size = N by omega) QC2; clear hg8))
  have hdr : Gr w8 w8.drew := (Gr.refl w8).drew
  have AC := AC.gr hdr
  have GN := GN.trans (GrX.of_gr hdr)
  have QC1 := hdr.keeps QC1
  have QC2 := hdr.keeps QC2
  go_region_held3 (fun w' => w'.cell? ⟨w5.heap.size + 1, 1, none⟩ = some (.slice (some ⟨w5.heap.size, 0, none⟩) 1 1) ∧ w'.cell? ⟨w5.heap.size, 0, none⟩ = some (.string a)) (first | exact ⟨QC1, QC2⟩ | exact ⟨((Gr.refl _).alloc _).keeps QC1, ((Gr.refl _).alloc _).keeps QC2⟩ | exact ⟨(((Gr.refl _).alloc _).alloc _).keeps QC1, (((Gr.refl _).alloc _).alloc _).keeps QC2⟩ | (refine ⟨?_, ?_⟩ <;> assumption)) (first | (go_at_call_of 123 (Value.string b); refine (aplain_one N b a2 hbz hsb _).mono ?_; rintro e w9 ⟨rfl, hg9⟩; have hga : Gr w9 ((w9.alloc (.cells #[.string a, .string a2] 9)).alloc (.cells #[.int .i64 3, .slice (some ⟨w9.heap.size, 0, none⟩) 2 2, .pointer none, .pointer none] 138)) := ((Gr.refl w9).alloc _).alloc _; have hN9 : N < w9.heap.size := Nat.lt_of_lt_of_le (Nat.lt_of_lt_of_le hlN GN.2.2.2.1) hg9.size; have AC := (AC.gr hg9).gr hga; have GN := (GN.trans (GrX.of_gr hg9)).trans (GrX.of_gr hga); have HRL := Lib.hid (rtwo_leaf (N := N) a a2 hN9); have QC1 := hg9.keeps QC1; have QC2 := hg9.keeps QC2; clear hg9 hga))
  go_wp2_with fail
  go_ret
  exact ⟨_, rfl, HRL.out, AC, GN⟩
end Go.Proofs.YthenhglpljdhfaaDoor
