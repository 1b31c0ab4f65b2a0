/-
  Where a key stands in a node.
-/
import Derived.Test.YtmjkalpjciddbaaMg6
import Derived.Test.YtmjkalpjciddbaaMg4
namespace Go.Proofs.Ytmjkalpjciddbaa
open Go Go.RowKit

theorem find1 (e : En) (key : ByteArray) (w : World) : Calls Try.prog 48 #[e.val, .string key] w (Ret w (.int .i64 (cmpB e.key key))) := by
  obtain ⟨ky, it, pgi⟩ := e
  unfold En.val cmpB
  have hg : Gr w (w.alloc (.cells #[.string ky, .string it, .int .i64 (pgi : Int)] 72)) := (Gr.refl w).alloc _
  go_enter Try.func48, Try.ntmps48
  go_wp2_with (go_at_call 49; refine (Try.strings_Compare _ _ _).mono ?_; rintro e w' ⟨rfl, rfl⟩)
  go_ret
  exact Ret.mk rfl hg
theorem bsI_same (lt : Nat → Bool) : ∀ f i, bsI lt f i i = i
  | 0, _ => rfl
  | f + 1, i => by
    unfold bsI
    rw [if_neg (Nat.lt_irrefl i)]
def keysE (l : List En) : List ByteArray := l.map En.key
set_option maxRecDepth 100000 in
set_option maxHeartbeats 1600000 in
theorem search_n (l : List En) (s : Value) (key : ByteArray) (w : World) (h : IsE w s l) (hl : l.length ≤ 10000) :
    Calls Try.prog 47 #[s, .string key, .func (.func 48) #[] #[]] w (Ret w (.tuple #[.int .i64 (searchE (keysE l) key : Nat), .bool (hitE (keysE l) key)])) := by
  have H := Lib.hid h
  obtain ⟨ao, ca, rfl⟩ := h.form
  have eg : ∀ args w, (callFunc 48 args).run Try.prog w = .ok (.enter 48 args) w := enters_of Try.func48 (by kernel_rfl) rfl
  have hkl : (keysE l).length = l.length := by unfold keysE; rw [List.length_map]
  have hkg : ∀ i (hi : i < l.length), (keysE l).getD i noB = l[i].key := fun i hi => by unfold keysE; simp [List.getD_eq_getElem?_getD, hi]
  have HKG := Lib.hid hkg
  have HKL := Lib.hid hkl
  clear h hkl hkg
  obtain ⟨S, hS⟩ : ∃ S, searchE (keysE l) key = S := ⟨_, rfl⟩
  obtain ⟨T0, hT⟩ : ∃ T0, hitE (keysE l) key = T0 := ⟨_, rfl⟩
  have HS := Lib.hid hS
  have HT := Lib.hid hT
  rw [hS, hT]
  clear hS hT
  go_enter Try.func47, Try.ntmps47
  go_wp2_with fail
  go_loopw [9, 10] (fun iv jv w' => ∃ i j f : Nat, i ≤ j ∧ j ≤ l.length ∧ j - i ≤ f ∧ iv = .int .i64 i ∧ jv = .int .i64 j ∧ bsI (ltK (keysE l) key) f i j = S ∧ Gr w w') (fun iv jv _ => (RowKit.intOf jv).toNat - (RowKit.intOf iv).toNat)
  case atStart => exact ⟨0, l.length, l.length, Nat.zero_le _, Nat.le_refl _, by omega, rfl, rfl, by
    have := HS.out
    unfold searchE at this
    rw [HKL.out] at this
    exact this, Gr.refl _⟩
  case round =>
    obtain ⟨i, j, f, hij, hj, hf, rfl, rfl, hbs, hg⟩ := hrel
    by_cases hlt : i < j
    · obtain ⟨f', rfl⟩ : ∃ f', f = f' + 1 := ⟨f - 1, by omega⟩
      obtain ⟨b, off, rfl, hb, hp⟩ : ∃ b off, ao = some ⟨b, off, none⟩ ∧ b < w.heap.size ∧ EntsAt w b off l := by
        rcases H.out with ⟨_, e2⟩ | ⟨b, off, c, e, hb, hp⟩
        · rw [e2] at hj
          simp at hj
          omega
        · cases e
          exact ⟨b, off, rfl, hb, hp⟩
      have hijl : (i : Int) < (j : Int) := by omega
      obtain ⟨m, hm⟩ : ∃ m, (i + j) / 2 = m := ⟨_, rfl⟩
      have hml : m < l.length := by omega
      have hmi : i ≤ m ∧ m < j := by omega
      unfold bsI at hbs
      rw [if_pos hlt, hm] at hbs
      have hmid : (((i : Int) + (j : Int)) / 2) = (m : Int) := by omega
      have hml' : (m : Int) < (l.length : Int) := by omega
      obtain ⟨c1, c2, c3⟩ := (hp.gr hg) m hml
      have hlk : ltK (keysE l) key m = decide (cmpB l[m].key key < 0) := by
        unfold ltK
        rw [HKG.out m hml]
      rw [hlk] at hbs
      have hc := find1 l[m] key
      unfold En.val at hc
      generalize l[m].key = ky at *
      generalize l[m].item = it at *
      generalize (l[m].page : Int) = pgi at *
      have HBS := Lib.hid hbs
      have HG := Lib.hid hg
      clear hp hbs hlk hg
      go_wp2_with fail
      refine (hc wr).mono ?_
      rintro e w3 ⟨rfl, hg3⟩
      have HG3 := Lib.hid (HG.out.trans hg3)
      clear hg3 hc c1 c2 c3
      by_cases hcm : cmpB ky key < 0
      · have hb2 := HBS.out
        rw [decide_eq_true hcm, if_pos rfl] at hb2
        generalize cmpB ky key = q at *
        go_wp2_with fail
        exact ⟨⟨m + 1, j, f', by omega, hj, by omega, by go_num, rfl, hb2, HG3.out⟩, by simp [RowKit.intOf]; omega⟩
      · have hb2 := HBS.out
        rw [decide_eq_false hcm, if_neg (by simp)] at hb2
        generalize cmpB ky key = q at *
        go_wp2_with fail
        exact ⟨⟨i, m, f', by omega, by omega, by omega, rfl, rfl, hb2, HG3.out⟩, by simp [RowKit.intOf]; omega⟩
    · have hij' : i = j := by omega
      subst hij'
      rw [bsI_same] at hbs
      subst hbs
      have hT := HT.out
      unfold hitE at hT
      rw [HS.out, HKL.out] at hT
      by_cases hin : i < l.length
      · obtain ⟨b, off, rfl, hb, hp⟩ : ∃ b off, ao = some ⟨b, off, none⟩ ∧ b < w.heap.size ∧ EntsAt w b off l := by
          rcases H.out with ⟨_, e2⟩ | ⟨b, off, c, e, hb, hp⟩
          · rw [e2] at hin
            exact absurd hin (by simp)
          · cases e
            exact ⟨b, off, rfl, hb, hp⟩
        have hil : (i : Int) < (l.length : Int) := by omega
        obtain ⟨c1, c2, c3⟩ := (hp.gr hg) i hin
        rw [decide_eq_true hin, Bool.true_and, HKG.out i hin] at hT
        have hc := find1 l[i] key
        unfold En.val at hc
        generalize l[i].key = ky at *
        generalize l[i].item = it at *
        generalize (l[i].page : Int) = pgi at *
        have HT2 := Lib.hid hT
        have HG := Lib.hid hg
        clear hp hT hg HT HS
        go_wp2_with fail
        refine (hc wr).mono ?_
        rintro e w3 ⟨rfl, hg3⟩
        have HG3 := Lib.hid (HG.out.trans hg3)
        clear hg3 hc c1 c2 c3
        have hq0 : (cmpB ky key == 0) = T0 := by
          rw [← HT2.out, Bool.eq_iff_iff]
          simp
        generalize cmpB ky key = q at *
        go_wp2_with fail
        go_ret2
        exact Ret.mk (by simp [hq0]) HG3.out
      · rw [decide_eq_false hin, Bool.false_and] at hT
        have HT2 := Lib.hid hT
        have hil : ¬ (i : Int) < (l.length : Int) := by omega
        clear hT HT HS
        go_wp2_with fail
        go_ret2
        exact Ret.mk (by rw [← HT2.out]; rfl) hg
set_option maxHeartbeats 1600000 in
theorem find_n (p : Nat) (leaf : Bool) (l : List En) (s : Value) (key : ByteArray) (w : World) (h : IsE w s l) (hl : l.length ≤ 10000) :
    Calls Try.prog 33 #[nodeV p leaf s, .string key] w (Ret w (.tuple #[.int .i64 (if leaf then searchE (keysE l) key else downE (keysE l) key : Nat), .bool (hitE (keysE l) key)])) := by
  have H := Lib.hid h
  obtain ⟨ao, ca, rfl⟩ := h.form
  unfold nodeV
  have hga : Gr w (w.alloc (.cells #[.int .i64 (p : Int), .bool leaf, .slice ao l.length ca] 84)) := (Gr.refl w).alloc _
  have hk : ∀ w', Gr (w.alloc (.cells #[.int .i64 (p : Int), .bool leaf, .slice ao l.length ca] 84)) w' → w'.cell? ⟨w.heap.size, 1, none⟩ = some (.bool leaf) := fun w' g => g.keeps (by rw [World.cell?_alloc_new]; rfl)
  have hs := search_n l (.slice ao l.length ca) key _ (h.gr hga) hl
  have hle := searchE_le (keysE l) key
  have hkl : (keysE l).length = l.length := by unfold keysE; rw [List.length_map]
  rw [hkl] at hle
  have hd : downE (keysE l) key = if hitE (keysE l) key then searchE (keysE l) key else searchE (keysE l) key - 1 := rfl
  rw [hd]
  have HK := Lib.hid hk
  have HS := Lib.hid hs
  clear h hk hs hd hkl
  generalize searchE (keysE l) key = S at *
  generalize hitE (keysE l) key = T0 at *
  cases leaf with
  | true =>
    go_enter Try.func33, Try.ntmps33
    go_wp2_with fail
    refine HS.out.mono ?_
    rintro e w3 ⟨rfl, hg3⟩
    have k1 := HK.out _ hg3
    have HG := Lib.hid (hga.trans hg3)
    clear hg3 HS HK hga
    go_wp2_with fail
    go_ret2
    exact Ret.mk (by simp) HG.out
  | false =>
    cases T0 with
    | true =>
      go_enter Try.func33, Try.ntmps33
      go_wp2_with fail
      refine HS.out.mono ?_
      rintro e w3 ⟨rfl, hg3⟩
      have k1 := HK.out _ hg3
      have HG := Lib.hid (hga.trans hg3)
      clear hg3 HS HK hga
      go_wp2_with fail
      go_ret2
      exact Ret.mk (by simp) HG.out
    | false =>
      have hmx : max ((S : Int) - 1) 0 = ((S - 1 : Nat) : Int) := by omega
      obtain ⟨S1, hS1⟩ : ∃ S1, S - 1 = S1 := ⟨_, rfl⟩
      rw [hS1] at hmx
      simp only [Bool.false_eq_true, if_false, hS1]
      go_enter Try.func33, Try.ntmps33
      go_wp2_with fail
      refine HS.out.mono ?_
      rintro e w3 ⟨rfl, hg3⟩
      have k1 := HK.out _ hg3
      have HG := Lib.hid (hga.trans hg3)
      clear hg3 HS HK hga
      go_wp2_with fail
      go_ret2
      exact Ret.mk (by simp) HG.out
end Go.Proofs.Ytmjkalpjciddbaa

/-
  Builder.Write.
-/
namespace Go.Proofs.Ytmjkalpjciddbaa
open Go Go.RowKit

/-- A builder's buffer lies not in block k. -/
def BufNot (b k : Nat) (w : World) : Prop := ∀ v, w.cell? ⟨b, 1, none⟩ = some v → v.ownBlock ≠ some k
/-- What is no part of a builder is as it was. -/
def Apart (b : Nat) (w w' : World) : Prop := w.heap.size ≤ w'.heap.size ∧ ∀ k, k < w.heap.size → k ≠ b → BufNot b k w → w'.heap[k]? = w.heap[k]? ∧ BufNot b k w'
theorem Apart.trans {b : Nat} {w w' w'' : World} (h : Apart b w w') (h' : Apart b w' w'') : Apart b w w'' :=
  ⟨Nat.le_trans h.1 h'.1, fun k hk hb hn => by
    obtain ⟨a1, a2⟩ := h.2 k hk hb hn
    obtain ⟨b1, b2⟩ := h'.2 k (Nat.lt_of_lt_of_le hk h.1) hb a2
    exact ⟨b1.trans a1, b2⟩⟩
theorem Apart.keeps {b k o : Nat} {w w' : World} {u : Value} (h : Apart b w w') (hb : k ≠ b) (hn : BufNot b k w) (hc : w.cell? ⟨k, o, none⟩ = some u) : w'.cell? ⟨k, o, none⟩ = some u :=
  (World.cell?_of_block (h.2 k (lt_of_cell hc) hb hn).1).trans hc
/-- A block that was made behind the builder is none of its. -/
theorem bufNot_new {B b : Nat} {l : List UInt8} {w : World} (h : Bld B b l w) (o : Obj) : BufNot b w.heap.size (w.alloc o) := by
  intro v hv e
  have key : ∀ p, Lib.BuilderAt 115 5 B b p (Lib.byteCells l) w → False := fun p hp => by
    obtain ⟨_, u, h2, h3, _⟩ := hp
    have hlt : b < w.heap.size := (Array.getElem?_eq_some_iff.1 h2).1
    have c1 : w.cell? ⟨b, 1, none⟩ = some u := by rw [Lib.cell_of_heap h2]; rfl
    have c2 : (w.alloc o).cell? ⟨b, 1, none⟩ = some u := ((Gr.refl w).alloc o).keeps c1
    rw [c2] at hv
    injection hv with hv
    rw [← hv] at e
    have := (h3.lt _ e).2
    omega
  rcases h with h | h
  · exact key _ h
  · exact key _ h
/-- Bytes in a block. -/
def BytesAt (w : World) (g : Nat) (l : List UInt8) : Prop := ∀ j (h : j < l.length), w.cell? ⟨g, j, none⟩ = some (byteV l[j])
set_option maxRecDepth 100000 in
set_option maxHeartbeats 1000000 in
/-- It notes where it lies, and changes nothing else. -/
theorem copyCheck_x (B b : Nat) (bs : List Value) (w : World) (h : Lib.IsBuilder 115 5 B b bs w) :
    Calls Try.prog 72 #[.pointer (some ⟨b, 0, none⟩)] w fun e w' => e = .returned (.tuple #[]) ∧ Lib.BuilderAt 115 5 B b (.pointer (some ⟨b, 0, none⟩)) bs w' ∧ Below B w w' ∧ GrX (fun k => k = b) w w' ∧ w'.cell? ⟨b, 1, none⟩ = w.cell? ⟨b, 1, none⟩ := by
  obtain ⟨j, hj, hjs⟩ := Option.map_eq_some_iff.1 bld_info
  rcases h with h | h
  · have h0 := h.cell0
    have hf := h.frozen0
    have hu := Lib.run_to_unsafe (P := Try.prog) (w := w) ⟨b, 0, none⟩ Try.underlying113 Try.underlying138 hj (by rw [hjs]; decide) h.shape (Nat.zero_lt_succ 1)
    have hv := Lib.run_from_unsafe (P := Try.prog) (w := w) ⟨b, 0, none⟩ Try.underlying138 Try.underlying113 hj h.shape bld_lies
    have H := Lib.hid h
    clear h
    go_enter Try.func72, Try.ntmps72
    go_wp2_with fail
    rw [run_callFunc_extern Try.func81 (by kernel_rfl) (by kernel_rfl) (by kernel_rfl) (e := Extern.AbiNoEscape.same) (by kernel_rfl), Lib.run_noEscape]
    simp only [Result.andThen]
    rw [Oper.upon_value]
    go_wp2_with fail
    refine bodyPost_end (v := .tuple #[]) (by simp [results, Try.results72, go_sem]) rfl ?_
    exact ⟨rfl, H.out.used _, (Below.refl B w).setCell (p := ⟨b, 0, none⟩) H.out.1 _, GrX.setCell (S := fun k => k = b) (p := ⟨b, 0, none⟩) w _ rfl, World.cell?_setCell_other _ _ _ _ (by simp)⟩
  · have h0 := h.cell0
    have hn := Lib.run_neq_ptr_same (P := Try.prog) (w := w) ⟨b, 0, none⟩ Try.underlying113 hj
    have H := Lib.hid h
    clear h
    go_enter Try.func72, Try.ntmps72
    go_wp2_with fail
    refine bodyPost_end (v := .tuple #[]) (by simp [results, Try.results72, go_sem]) rfl ?_
    exact ⟨rfl, H.out, Below.refl B _, GrX.refl _ _, rfl⟩
set_option maxRecDepth 100000 in
set_option maxHeartbeats 1000000 in
theorem write_b (B b g c : Nat) (l m : List UInt8) (w : World) (h : Bld B b l w) (hl : l.length + m.length ≤ 1000000) (hB : B ≤ w.heap.size) (hm : BytesAt w g m) (hgb : g ≠ b) :
    Calls Try.prog 74 #[.pointer (some ⟨b, 0, none⟩), .slice (some ⟨g, 0, none⟩) m.length c] w fun e w' => e = .returned (.tuple #[.int .i64 m.length, .nilIface]) ∧ Bld B b (l ++ m) w' ∧ Below B w w' ∧ Apart b w w' := by
  obtain ⟨i0, hi, hz0, hz1, hz2⟩ := info_parts info_u8b
  have H := Lib.hid h
  have HM := Lib.hid hm
  clear h hm
  obtain ⟨n, hn⟩ : ∃ n, m.length = n := ⟨_, rfl⟩
  rw [hn]
  have HN := Lib.hid hn
  rw [hn] at hl
  clear hn
  go_enter Try.func74, Try.ntmps74
  go_wp2_with fail
  refine (copyCheck_x B b _ w H.out).mono ?_
  rintro e w1 ⟨rfl, h1, hb1, hx1, hc1⟩
  have HC1 := Lib.hid hc1
  clear hc1
  have H1 := Lib.hid h1
  obtain ⟨hBb, v, hbk, hown, hne⟩ := h1
  have hlen : (Lib.byteCells l).length = l.length := Lib.byteCells_length l
  have hlm : (Lib.byteCells m).length = n := by rw [Lib.byteCells_length, HN.out]
  have c0 : w1.cell? ⟨b, 0, none⟩ = some (.pointer (some ⟨b, 0, none⟩)) := by rw [Lib.cell_of_heap hbk]; rfl
  have c1 : w1.cell? ⟨b, 1, none⟩ = some v := by rw [Lib.cell_of_heap hbk]; rfl
  have hsz := hb1.size
  have hnew : ∀ j u, (Lib.byteCells m)[j]? = some u → w1.cell? ((⟨g, 0, none⟩ : Addr).add j) = some u := by
    intro j u hj
    have hjl : j < m.length := by
      have := (List.getElem?_eq_some_iff.1 hj).1
      rwa [Lib.byteCells_length] at this
    rw [Addr.add_lit, Nat.zero_add, hx1.keeps hgb (HM.out j hjl), ← hj]
    simp [Lib.byteCells, byteV, hjl]
  go_wp2_with (at_builtin; refine wpList_append_own_at _ rfl _ _ 79 rfl B 5 i0 (.int .u8 0) 1 1 Try.underlying79 hi hz0 hz1 hz2 rfl (by decide) _ _ _ rfl hown ⟨g, 0, none⟩ n c (Lib.byteCells m) rfl (by rw [hlm, Nat.mul_one]) hnew (fun u hu => by simp [Lib.byteCells] at hu; obtain ⟨x, _, rfl⟩ := hu; rfl) (by unfold maxLen; omega) (by omega) (by omega) ?_)
  intro v' w2 hown' hgrow _ hat
  have hb2 := bld_old hbk hgrow rfl hne
  have d0 : w2.cell? ⟨b, 0, none⟩ = some (.pointer (some ⟨b, 0, none⟩)) := by rw [Lib.cell_of_heap hb2]; rfl
  have d1 : w2.cell? ⟨b, 1, none⟩ = some v := by rw [Lib.cell_of_heap hb2]; rfl
  have f1 : w2.frozen? ⟨b, 1, none⟩ = false := Lib.frozen_of_heap hb2 1
  have hput : Lib.BuilderAt 115 5 B b (.pointer (some ⟨b, 0, none⟩)) (Lib.byteCells (l ++ m)) (w2.setCell ⟨b, 1, none⟩ v') := by
    refine Lib.BuilderAt.put hBb hb2 ?_ bld_ne
    rw [Lib.byteCells_append, List.length_append, Lib.byteCells_length m, Lib.byteCells_length l, HN.out]
    exact hown'
  have hbel := (hb1.grown hgrow (by omega) (fun k hk => (hown.lt k hk).1)).setCell (p := ⟨b, 1, none⟩) hBb v'
  have hap : Apart b w (w2.setCell ⟨b, 1, none⟩ v') := by
    have hs1 := hx1.2.2.2.1
    have hs2 := hgrow.size
    refine ⟨by simp; omega, fun k hk hb hn => ⟨?_, fun u hu e => ?_⟩⟩
    · have e1 : (w2.setCell ⟨b, 1, none⟩ v').heap[k]? = w2.heap[k]? := Below.heap_setCell _ _ _ _ (fun e => hb e)
      have hnv : v.ownBlock ≠ some k := hn v (HC1.out.symm.trans c1)
      exact e1.trans ((hgrow.block k (by omega) (fun e => hnv e.symm)).trans (hx1.block hk hb))
    · rw [World.cell?_setCell_same _ _ _ d1] at hu
      injection hu with hu
      rw [← hu] at e
      have hnv : v.ownBlock ≠ some k := hn v (HC1.out.symm.trans c1)
      rcases hat with h | h
      · rw [h] at e; exact hnv e
      · rw [h] at e
        have := Option.some.inj e
        omega
  have HP := Lib.hid hput
  have HB := Lib.hid hbel
  have HAP := Lib.hid hap
  clear hput hbel hap
  obtain ⟨ao, n', cap, rfl⟩ : ∃ ao n' cap, v' = .slice ao n' cap := by
    rcases hown'.2 with ⟨hv, _⟩ | ⟨g, cap, cur, hv, _⟩
    · exact ⟨_, _, _, hv⟩
    · exact ⟨_, _, _, hv⟩
  clear hown hown' hgrow hb2 hbk hat
  go_wp2_with fail
  go_ret2
  exact ⟨rfl, .inr HP.out, HB.out, HAP.out⟩
set_option maxRecDepth 100000 in
set_option maxHeartbeats 1000000 in
theorem writeByte_x (B b : Nat) (l : List UInt8) (c : UInt8) (w : World) (h : Bld B b l w) (hl : l.length + 1 ≤ 1000000) (hB : B ≤ w.heap.size) :
    Calls Try.prog 68 #[.pointer (some ⟨b, 0, none⟩), .int .u8 (c.toNat : Int)] w fun e w' => e = .returned .nilIface ∧ Bld B b (l ++ [c]) w' ∧ Below B w w' ∧ Apart b w w' := by
  obtain ⟨i0, hi, hz0, hz1, hz2⟩ := info_parts info_u8b
  have H := Lib.hid h
  clear h
  generalize hq : ((c.toNat : Nat) : Int) = q
  have HQ := Lib.hid hq
  clear hq
  go_enter Try.func68, Try.ntmps68
  go_wp2_with fail
  refine (copyCheck_x B b _ w H.out).mono ?_
  rintro e w1 ⟨rfl, h1, hb1, hx1, hc1⟩
  have HC1 := Lib.hid hc1
  clear hc1
  have H1 := Lib.hid h1
  obtain ⟨hBb, v, hbk, hown, hne⟩ := h1
  have hlen : (Lib.byteCells l).length = l.length := Lib.byteCells_length l
  have c0 : w1.cell? ⟨b, 0, none⟩ = some (.pointer (some ⟨b, 0, none⟩)) := by rw [Lib.cell_of_heap hbk]; rfl
  have c1 : w1.cell? ⟨b, 1, none⟩ = some v := by rw [Lib.cell_of_heap hbk]; rfl
  have hsz := hb1.size
  have hnew : ∀ j u, ([Value.int .u8 q])[j]? = some u → (w1.alloc (.cells #[.int .u8 q] 5)).cell? ((⟨w1.heap.size, 0, none⟩ : Addr).add j) = some u := by
    intro j u hj
    match j, hj with
    | 0, hj => simp at hj; subst hj; simp [Addr.add]
  go_wp2_with (at_builtin; refine wpList_append_own_at _ rfl _ _ 79 rfl B 5 i0 (.int .u8 0) 1 1 Try.underlying79 hi hz0 hz1 hz2 rfl (by decide) _ _ _ rfl (hown.alloc _) ⟨w1.heap.size, 0, none⟩ 1 1 [.int .u8 q] rfl rfl hnew (by intro u hu; simp at hu; subst hu; rfl) (by unfold maxLen; omega) (by omega) (by simp; omega) ?_)
  intro v' w2 hown' hgrow _ hat
  have hb2 := bld_old (v := v) ((Below.heap_alloc w1 (.cells #[.int .u8 q] 5) b (Array.getElem?_eq_some_iff.1 hbk).1).trans hbk) hgrow rfl hne
  have d0 : w2.cell? ⟨b, 0, none⟩ = some (.pointer (some ⟨b, 0, none⟩)) := by rw [Lib.cell_of_heap hb2]; rfl
  have d1 : w2.cell? ⟨b, 1, none⟩ = some v := by rw [Lib.cell_of_heap hb2]; rfl
  have f1 : w2.frozen? ⟨b, 1, none⟩ = false := Lib.frozen_of_heap hb2 1
  have hput : Lib.BuilderAt 115 5 B b (.pointer (some ⟨b, 0, none⟩)) (Lib.byteCells (l ++ [c])) (w2.setCell ⟨b, 1, none⟩ v') := by
    refine Lib.BuilderAt.put hBb hb2 ?_ bld_ne
    rw [Lib.byteCells_append, List.length_append, Lib.byteCells_length [c]]
    have e : Lib.byteCells [c] = [.int .u8 q] := by
      rw [← HQ.out]
      rfl
    rw [e, Lib.byteCells_length l]
    exact hown'
  have hbel := ((hb1.alloc (by omega) (.cells #[.int .u8 q] 5)).grown hgrow (by simp; omega) (fun k hk => (hown.lt k hk).1)).setCell (p := ⟨b, 1, none⟩) hBb v'
  have hap : Apart b w (w2.setCell ⟨b, 1, none⟩ v') := by
    have hs1 := hx1.2.2.2.1
    have hs2 := hgrow.size
    simp only [World.size_alloc] at hs2
    refine ⟨by simp; omega, fun k hk hb hn => ⟨?_, fun u hu e => ?_⟩⟩
    · have e1 : (w2.setCell ⟨b, 1, none⟩ v').heap[k]? = w2.heap[k]? := Below.heap_setCell _ _ _ _ (fun e => hb e)
      have hnv : v.ownBlock ≠ some k := hn v (HC1.out.symm.trans c1)
      have e2 := hgrow.block k (by simp; omega) (fun e => hnv e.symm)
      exact e1.trans (e2.trans ((Below.heap_alloc w1 _ k (by omega)).trans (hx1.block hk hb)))
    · rw [World.cell?_setCell_same _ _ _ d1] at hu
      injection hu with hu
      rw [← hu] at e
      have hnv : v.ownBlock ≠ some k := hn v (HC1.out.symm.trans c1)
      rcases hat with h | h
      · rw [h] at e; exact hnv e
      · rw [h] at e
        have := Option.some.inj e
        first | omega | (simp at this; omega)
  have HP := Lib.hid hput
  have HB := Lib.hid hbel
  have HAP := Lib.hid hap
  clear hput hbel hap
  obtain ⟨ao, n', cap, rfl⟩ : ∃ ao n' cap, v' = .slice ao n' cap := by
    rcases hown'.2 with ⟨hv, _⟩ | ⟨g, cap, cur, hv, _⟩
    · exact ⟨_, _, _, hv⟩
    · exact ⟨_, _, _, hv⟩
  clear hown hown' hgrow hb2 hbk hat
  go_wp2_with fail
  go_ret
  exact ⟨rfl, .inr HP.out, HB.out, HAP.out⟩
end Go.Proofs.Ytmjkalpjciddbaa
