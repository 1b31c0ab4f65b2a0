/-
  The contract of the reference's Key.
-/
import Derived.Test.YthenhglpljdhfaaDoorKey
import Derived.Laws.Concat
namespace Go.Proofs.YthenhglpljdhfaaDoor
open Go Go.RowKit

/-- ref.Fine. -/
def FineAt (w : World) : Prop := w.cell? ⟨1, 0, none⟩ = some (.int .i64 0) ∧ w.cell? ⟨1, 1, none⟩ = some (.int .i64 (-1))
theorem FineAt.gr {w w' : World} (h : FineAt w) (g : Gr w w') : FineAt w' := ⟨g.keeps h.1, g.keeps h.2⟩
def RKeyPost (w : World) (xs : List GVal) (e : Ending) (w' : World) : Prop :=
  match firstBad xs with
  | none => Ret w (.tuple #[.string ⟨(keyL xs).toArray⟩, .agg #[.int .i64 0, .int .i64 (-1)]]) e w'
  | some i => Ret w (.tuple #[.string ⟨#[]⟩, .agg #[.int .i64 1, .int .i64 (i : Int)]]) e w'
/-- string([]byte{c}). -/
theorem one_string (c : UInt8) (q : Int) (hq : q = (c.toNat : Int)) (w : World) : (convert 92 9 (.slice (some ⟨w.heap.size, 0, none⟩) 1 1)).run Tryd.prog (w.alloc (.cells #[.int .u8 q] 5)) = .ok (.string ⟨#[c]⟩) (w.alloc (.cells #[.int .u8 q] 5)) := by
  subst hq
  exact own_string (a0 := w) (l := [c]) (World.ownsRow_lit w #[.int .u8 (c.toNat : Int)] 1 (Nat.le_refl _) (by decide) rfl)

theorem two_set {w : World} {k : Nat} {x y u v : Value} (h0 : w.cell? ⟨k, 0, none⟩ = some x) (h1 : w.cell? ⟨k, 1, none⟩ = some y) :
    ((w.setCell ⟨k, 0, none⟩ u).setCell ⟨k, 1, none⟩ v).cell? ⟨k, 0, none⟩ = some u ∧ ((w.setCell ⟨k, 0, none⟩ u).setCell ⟨k, 1, none⟩ v).cell? ⟨k, 1, none⟩ = some v := by
  have e : (⟨k, 1, none⟩ : Addr) ≠ ⟨k, 0, none⟩ := by simp
  have e' : (⟨k, 0, none⟩ : Addr) ≠ ⟨k, 1, none⟩ := by simp
  refine ⟨?_, World.cell?_setCell_same _ _ _ ((World.cell?_setCell_other _ _ _ _ e').trans h1)⟩
  rw [World.cell?_setCell_other _ _ _ _ e]
  exact World.cell?_setCell_same _ _ _ h0
theorem ba_len (l : List UInt8) : (⟨l.toArray⟩ : ByteArray).size = l.length := by show l.toArray.size = _; simp
theorem be8_drop (m k : Nat) (h : k < 8) : (be8 m).drop (8 - (k + 1)) = (m / 256 ^ k).toUInt8 :: (be8 m).drop (8 - k) := by
  rcases (show k = 0 ∨ k = 1 ∨ k = 2 ∨ k = 3 ∨ k = 4 ∨ k = 5 ∨ k = 6 ∨ k = 7 by omega) with rfl | rfl | rfl | rfl | rfl | rfl | rfl | rfl <;> rfl
set_option maxRecDepth 100000 in
set_option maxHeartbeats 1600000 in
theorem key_ref (xs : List GVal) (b off c : Nat) (ao : Option Addr) (hao : 0 < xs.length → ao = some ⟨b, off, none⟩) (hl : xs.length ≤ 1000) (hr : ∀ i (h : i < xs.length), (-9223372036854775808 ≤ xs[i].num ∧ xs[i].num ≤ 9223372036854775807) ∧ xs[i].text.size ≤ 1000000) (w : World) (hc : ValsAt w b off xs) (hf : FineAt w) :
    Calls Tryd.prog 44 #[.slice ao xs.length c] w (RKeyPost w xs) := by
  have HC := Lib.hid hc
  have HA := Lib.hid hao
  have HR := Lib.hid hr
  have HF := Lib.hid hf
  clear hc hao hr hf
  go_enter Tryd.func44, Tryd.ntmps44
  go_wp2_with fail
  have hgW : Gr w (w.alloc (Obj.cells #[Value.int IntKind.i64 0, Value.int IntKind.i64 0] 74)) := (Gr.refl w).alloc _
  have hf0 : (w.alloc (Obj.cells #[Value.int IntKind.i64 0, Value.int IntKind.i64 0] 74)).cell? ⟨w.heap.size, 0, none⟩ = some (.int .i64 0) := by rw [World.cell?_alloc_new]; rfl
  have hf1 : (w.alloc (Obj.cells #[Value.int IntKind.i64 0, Value.int IntKind.i64 0] 74)).cell? ⟨w.heap.size, 1, none⟩ = some (.int .i64 0) := by rw [World.cell?_alloc_new]; rfl
  have hz0 : (w.alloc (Obj.cells #[Value.int IntKind.i64 0, Value.int IntKind.i64 0] 74)).frozen? ⟨w.heap.size, 0, none⟩ = false := by simp
  have hz1 : (w.alloc (Obj.cells #[Value.int IntKind.i64 0, Value.int IntKind.i64 0] 74)).frozen? ⟨w.heap.size, 1, none⟩ = false := by simp
  have hlt0 : w.heap.size < (w.alloc (Obj.cells #[Value.int IntKind.i64 0, Value.int IntKind.i64 0] 74)).heap.size := by simp
  generalize (w.alloc (Obj.cells #[Value.int IntKind.i64 0, Value.int IntKind.i64 0] 74)) = W0 at *
  have H0 := Lib.hid (show W0.cell? ⟨w.heap.size, 0, none⟩ = some (.int .i64 0) ∧ W0.cell? ⟨w.heap.size, 1, none⟩ = some (.int .i64 0) from ⟨hf0, hf1⟩)
  have HZ := Lib.hid (show W0.frozen? ⟨w.heap.size, 0, none⟩ = false ∧ W0.frozen? ⟨w.heap.size, 1, none⟩ = false from ⟨hz0, hz1⟩)
  clear hf0 hf1 hz0 hz1
  go_loopw [11, 4] (fun i u w' => ∃ j : Nat, j ≤ xs.length ∧ i = .int .i64 j ∧ Gr W0 w' ∧ firstBad (xs.take j) = none ∧ u = .string ⟨(keyL (xs.take j)).toArray⟩) (fun i _ _ => xs.length - (intOf i).toNat)
  case atStart => exact ⟨0, Nat.zero_le _, rfl, Gr.refl _, rfl, rfl⟩
  case round =>
    obtain ⟨j, hj, rfl, hg, hfb, rfl⟩ := hrel
    have HFB := Lib.hid hfb
    clear hfb
    have q0 := hg.keeps H0.out.1
    have q1 := hg.keeps H0.out.2
    have z0 := (hg.frozen 0 hlt0).trans HZ.out.1
    have z1 := (hg.frozen 1 hlt0).trans HZ.out.2
    by_cases hlt : j < xs.length
    · obtain rfl := HA.out (by omega)
      have hv := HC.out.gr (hgW.trans hg) j hlt
      obtain ⟨c0, c1, c2⟩ := hv
      have hrt := (HR.out j hlt).2
      have hn' := (HR.out j hlt).1
      have hkl := keyL_len xs j (fun i h => (HR.out i h).2)
      have hks := keyL_succ xs j hlt
      generalize hxj : xs[j] = x at *
      have HX := Lib.hid hxj
      have HKS := Lib.hid hks
      clear hxj hks
      have hrt' : x.text.size ≤ 9223372036854775807 := by omega
      cases hrb : rightB x
      · have HB := Lib.hid hrb
        clear hrb
        go_wp2_with fail
        refine (right_ref x hrt' _).mono ?_
        rintro e w1 ⟨rfl, hg1⟩
        rw [HB.out]
        have hg2 := ((Gr.refl _).alloc _).trans hg1
        have q0' := hg2.keeps q0
        have q1' := hg2.keeps q1
        have z0' := (hg2.frozen 0 (Nat.lt_of_lt_of_le hlt0 hg.size)).trans z0
        have z1' := (hg2.frozen 1 (Nat.lt_of_lt_of_le hlt0 hg.size)).trans z1
        have hgA := (hgW.trans hg).trans hg2
        have r := two_set (u := .int .i64 1) (v := .int .i64 (j : Int)) q0' q1'
        go_wp2_with fail
        refine bodyPost_ret (v := .tuple #[.string ⟨#[]⟩, .agg #[.int .i64 1, .int .i64 (j : Int)]]) (by simp [results, Tryd.results44, go_sem, r.1, r.2]) rfl ?_
        unfold RKeyPost
        rw [firstBad_at xs j hlt HFB.out (by rw [HX.out]; exact HB.out)]
        exact Ret.mk rfl ((hgA.setCell (Nat.le_refl _) _).setCell (Nat.le_refl _) _)
      · have HB := Lib.hid hrb
        have hkn := right_kinds x hrb
        have HFS := Lib.hid (firstBad_succ xs j hlt HFB.out (by rw [HX.out]; exact hrb))
        clear hrb
        generalize hL : keyL (xs.take j) = L at *
        have HL := Lib.hid hL
        clear hL
        obtain ⟨kx, nx, sx⟩ := x
        simp only at c0 c1 c2 hrt hkn hn' hrt'
        rcases hkn with rfl | rfl | rfl
        · have hs1 := one_string 1 1 rfl
          have ha1 : ∀ w, (Op.stringOp .add ⟨L.toArray⟩ ⟨#[1]⟩).run Tryd.prog w = .ok (.string ⟨(L ++ [1]).toArray⟩) w := fun w => by
            rw [run_string_add_sum w _ _ (by rw [ba_len]; show L.length + 1 ≤ _; omega)]; simp [ByteArray.mk_append_mk]
          go_wp2_with fail
          refine (right_ref ⟨0, nx, sx⟩ hrt' _).mono ?_
          rintro e w1 ⟨rfl, hg1⟩
          rw [HB.out]
          have k0 := hg1.keeps (b := wr.heap.size) (o := 0) (v := .int .i64 0) (by rw [World.cell?_alloc_new]; rfl)
          have k1 := hg1.keeps (b := wr.heap.size) (o := 1) (v := .int .i64 nx) (by rw [World.cell?_alloc_new]; rfl)
          have k2 := hg1.keeps (b := wr.heap.size) (o := 2) (v := .string sx) (by rw [World.cell?_alloc_new]; rfl)
          have k0a := fun o => ((Gr.refl w1).alloc o).keeps k0
          have k1a := fun o => ((Gr.refl w1).alloc o).keeps k1
          have k2a := fun o => ((Gr.refl w1).alloc o).keeps k2
          have hgw := (hg.alloc _).trans hg1
          go_wp2_with fail
          refine ⟨⟨j + 1, by omega, by go_num, hgw.alloc _, HFS.out, ?_⟩, by simp [intOf]; omega⟩
          rw [HKS.out]
          rfl
        · have hs1 := one_string 2 2 rfl
          have ha1 : ∀ w, (Op.stringOp .add ⟨L.toArray⟩ ⟨#[2]⟩).run Tryd.prog w = .ok (.string ⟨(L ++ [2]).toArray⟩) w := fun w => by
            rw [run_string_add_sum w _ _ (by rw [ba_len]; show L.length + 1 ≤ _; omega)]; simp [ByteArray.mk_append_mk]
          go_wp2_with fail
          refine (right_ref ⟨1, nx, sx⟩ hrt' _).mono ?_
          rintro e w1 ⟨rfl, hg1⟩
          rw [HB.out]
          have k0 := hg1.keeps (b := wr.heap.size) (o := 0) (v := .int .i64 1) (by rw [World.cell?_alloc_new]; rfl)
          have k1 := hg1.keeps (b := wr.heap.size) (o := 1) (v := .int .i64 nx) (by rw [World.cell?_alloc_new]; rfl)
          have k2 := hg1.keeps (b := wr.heap.size) (o := 2) (v := .string sx) (by rw [World.cell?_alloc_new]; rfl)
          have k0a := fun o => ((Gr.refl w1).alloc o).keeps k0
          have k1a := fun o => ((Gr.refl w1).alloc o).keeps k1
          have k2a := fun o => ((Gr.refl w1).alloc o).keeps k2
          have hgw := (hg.alloc _).trans hg1
          go_wp2_with fail
          have hw : IntKind.u64.wrap (IntKind.u64.wrap nx + 9223372036854775808) = ((nx + 9223372036854775808).toNat : Int) := by
            show (nx % 18446744073709551616 + 9223372036854775808) % 18446744073709551616 = _
            omega
          rw [hw]
          have hm : (nx + 9223372036854775808).toNat < 18446744073709551616 := by omega
          have hbe : keyV ⟨1, nx, sx⟩ = 2 :: be8 (nx + 9223372036854775808).toNat := rfl
          generalize (nx + 9223372036854775808).toNat = m at *
          go_loopw [36, 8, 7] (fun i t n w' => ∃ k : Nat, k ≤ 8 ∧ i = .int .i64 k ∧ t = .string ⟨((be8 m).drop (8 - k)).toArray⟩ ∧ n = .int .u64 ((m / 256 ^ k : Nat) : Int) ∧ Gr w1 w') (fun i _ _ _ => 8 - (intOf i).toNat)
          case atStart => exact ⟨0, by omega, rfl, rfl, by simp, (Gr.refl w1).alloc _⟩
          case round =>
            obtain ⟨k, hk, rfl, rfl, rfl, hgi⟩ := hrel
            by_cases hk8 : k < 8
            · have hdr := be8_drop m k hk8
              have hNm : m / 256 ^ k < 18446744073709551616 := Nat.lt_of_le_of_lt (Nat.div_le_self _ _) hm
              have hdd : m / 256 ^ k / 256 = m / 256 ^ (k + 1) := by rw [Nat.div_div_eq_div_mul, Nat.pow_succ]
              have HDR := Lib.hid hdr
              have HDD := Lib.hid hdd
              clear hdr hdd
              generalize m / 256 ^ k = N at *
              have hsN := one_string N.toUInt8 ((N : Int) % 256) (by simp)
              have haN : ∀ w, (Op.stringOp .add ⟨#[N.toUInt8]⟩ ⟨((be8 m).drop (8 - k)).toArray⟩).run Tryd.prog w = .ok (.string ⟨(N.toUInt8 :: (be8 m).drop (8 - k)).toArray⟩) w := fun w => by
                rw [run_string_add_sum w _ _ (by rw [ba_len, ba_len, List.length_drop, be8_length]; show 1 + _ ≤ _; omega)]
                congr 2
              go_wp2_with fail
              refine ⟨⟨k + 1, by omega, by go_num, ?_, ?_, hgi.alloc _⟩, by simp [intOf]; omega⟩
              · rw [HDR.out]
              · rw [← HDD.out]
                first | done | simp
            · obtain rfl : k = 8 := by omega
              have k0b := hgi.keeps k0
              have ha4 : ∀ w, (Op.stringOp .add ⟨(L ++ [2]).toArray⟩ ⟨(be8 m).toArray⟩).run Tryd.prog w = .ok (.string ⟨(L ++ [2] ++ be8 m).toArray⟩) w := fun w => by
                rw [run_string_add_sum w _ _ (by rw [ba_len, ba_len, List.length_append, be8_length]; simp; omega), ByteArray.mk_append_mk]
              go_wp2_with fail
              refine ⟨⟨j + 1, by omega, by go_num, hgw.trans hgi, HFS.out, ?_⟩, by simp [intOf]; omega⟩
              rw [HKS.out, hbe]
              first | done | simp
        · have hs1 := one_string 3 3 rfl
          have ha1 : ∀ w, (Op.stringOp .add ⟨L.toArray⟩ ⟨#[3]⟩).run Tryd.prog w = .ok (.string ⟨(L ++ [3]).toArray⟩) w := fun w => by
            rw [run_string_add_sum w _ _ (by rw [ba_len]; show L.length + 1 ≤ _; omega)]; simp [ByteArray.mk_append_mk]
          have ha2 : ∀ w, (Op.stringOp .add sx ⟨#[0]⟩).run Tryd.prog w = .ok (.string ⟨(sx.data.toList ++ [0]).toArray⟩) w := fun w => by
            rw [run_string_add_sum w _ _ (by show sx.size + 1 ≤ _; omega)]
            congr 2
          have ha3 : ∀ w, (Op.stringOp .add ⟨(L ++ [3]).toArray⟩ ⟨(sx.data.toList ++ [0]).toArray⟩).run Tryd.prog w = .ok (.string ⟨(L ++ [3] ++ (sx.data.toList ++ [0])).toArray⟩) w := fun w => by
            rw [run_string_add_sum w _ _ (by rw [ba_len, ba_len, List.length_append, List.length_append, ← size_data]; simp; omega), ByteArray.mk_append_mk]
          go_wp2_with fail
          refine (right_ref ⟨2, nx, sx⟩ hrt' _).mono ?_
          rintro e w1 ⟨rfl, hg1⟩
          rw [HB.out]
          have k0 := hg1.keeps (b := wr.heap.size) (o := 0) (v := .int .i64 2) (by rw [World.cell?_alloc_new]; rfl)
          have k1 := hg1.keeps (b := wr.heap.size) (o := 1) (v := .int .i64 nx) (by rw [World.cell?_alloc_new]; rfl)
          have k2 := hg1.keeps (b := wr.heap.size) (o := 2) (v := .string sx) (by rw [World.cell?_alloc_new]; rfl)
          have k0a := fun o => ((Gr.refl w1).alloc o).keeps k0
          have k1a := fun o => ((Gr.refl w1).alloc o).keeps k1
          have k2a := fun o => ((Gr.refl w1).alloc o).keeps k2
          have hgw := (hg.alloc _).trans hg1
          go_wp2_with fail
          refine ⟨⟨j + 1, by omega, by go_num, hgw.alloc _, HFS.out, ?_⟩, by simp [intOf]; omega⟩
          rw [HKS.out]
          show Value.string _ = Value.string ⟨(L ++ (3 :: (sx.data.toList ++ [0]))).toArray⟩
          simp
    · obtain rfl : j = xs.length := by omega
      have fi := HF.out.gr (hgW.trans hg)
      have fi0 := fi.1
      have fi1 := fi.2
      go_wp2_with fail
      go_region
      all_goals go_wp2_with fail
      have r := two_set (u := .int .i64 0) (v := .int .i64 (-1)) q0 q1
      refine bodyPost_ret (v := .tuple #[.string ⟨(keyL xs).toArray⟩, .agg #[.int .i64 0, .int .i64 (-1)]]) (by simp [results, Tryd.results44, go_sem, r.1, r.2]) rfl ?_
      have hfb := HFB.out
      rw [List.take_length] at hfb
      unfold RKeyPost
      rw [hfb]
      exact Ret.mk rfl ((((hgW.trans hg).setCell (Nat.le_refl _) _).setCell (Nat.le_refl _) _).drew)
end Go.Proofs.YthenhglpljdhfaaDoor
