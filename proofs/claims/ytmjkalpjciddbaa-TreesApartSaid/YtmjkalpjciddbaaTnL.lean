/-
  (*Tree).read.
-/
import Derived.Test.YtmjkalpjciddbaaMg10
import Derived.BigRegion
namespace Go.Proofs.Ytmjkalpjciddbaa
open Go Go.RowKit

section
variable {w : World} {PB DB M n : Nat} {c : Ch} {sv : Head} {t : Int} {d : Dk}
theorem page_read (h : PgS w PB DB M n c sv t d) {leaf : Bool} {p : Nat} {l : List En} (hp : HasN c d.pg leaf p l) :
    Calls Try.prog 45 #[.pointer (some ⟨PB, 0, none⟩), .int .i64 (p : Int)] w (Ret w (.tuple #[.string (pageE leaf l), .nilIface])) := by
  have hr := read_s h (p : Int)
  have hu : inUse c.h (p : Int) = true := inUse_iff.2 ⟨p, rfl, hp.1.1, hp.1.2.1, hp.1.2.2⟩
  rw [hu, if_pos rfl, Int.toNat_natCast, hp.2] at hr
  exact hr
set_option maxRecDepth 100000 in
set_option maxHeartbeats 4000000 in
theorem read_n (h : PgS w PB DB M n c sv t d) {TP root : Nat} (ht : TreeAt w TP PB root) {leaf : Bool} {p : Nat} {l : List En} (hp : HasN c d.pg leaf p l) (hok : ∀ e ∈ l, e.ok leaf) (hb : bytesE leaf l ≤ 1024) :
    Calls Try.prog 30 #[.pointer (some ⟨TP, 0, none⟩), .int .i64 (p : Int)] w fun e w' => ∃ s', e = .returned (.tuple #[nodeV p leaf s', .nilIface]) ∧ OwnE w w' s' l ∧ Gr w w' := by
  have hg0 : Gr w (w.alloc (.cells #[.int .i64 0, .bool false, .slice none 0 0] 84)) := (Gr.refl w).alloc _
  have hrd := page_read (h.gr hg0) hp
  have tp := (ht.gr hg0).p
  have hsz := pageE_size hok hb
  have hl2 := sumE_len leaf l
  have hl : l.length ≤ 600 := by unfold bytesE at hb; omega
  have hd : (pageE leaf l).data.toList = kindE leaf :: (two8 (l.length : Int) ++ (leftE leaf l 0).data.toList) := by
    rw [leftE_data]
    unfold pageE txtE kindE
    simp
  rw [two8_nat _ (by omega)] at hd
  have z0 : 0 < (pageE leaf l).size := by omega
  have z1 : 1 < (pageE leaf l).size := by omega
  have z2 : 2 < (pageE leaf l).size := by omega
  have g0 : (pageE leaf l)[0] = kindE leaf := get_at _ 0 z0 _ hd (by simp)
  have g1 : (pageE leaf l)[1] = (l.length / 256).toUInt8 := get_at _ 1 z1 _ hd (by simp)
  have g2 : (pageE leaf l)[2] = l.length.toUInt8 := get_at _ 2 z2 _ hd (by simp)
  have gx : (pageE leaf l).extract 3 (pageE leaf l).size = leftE leaf l 0 := by
    have := ext_rest (pageE leaf l) [kindE leaf, (l.length / 256).toUInt8, l.length.toUInt8] (leftE leaf l 0).data.toList hd
    rw [eta_ba] at this
    exact this
  rw [hsz] at gx
  have ho := or_byte_i (l.length / 256).toUInt8.toNat l.length.toUInt8.toNat (l.length / 256).toUInt8.toNat_lt l.length.toUInt8.toNat_lt
  have hm : 256 * (((l.length / 256).toUInt8.toNat : Nat) : Int) + ((l.length.toUInt8.toNat : Nat) : Int) = (l.length : Int) := by
    rw [u8_of, u8_of]
    omega
  rw [hm] at ho
  have HM := Lib.hid hm
  clear hm hd hl2
  generalize (l.length / 256).toUInt8 = q1 at *
  generalize l.length.toUInt8 = q2 at *
  generalize pageE leaf l = S at *
  have hwa : wrap64 ((q1.toNat : Int) * 256) = (q1.toNat : Int) * 256 := by
    have := q1.toNat_lt
    unfold wrap64
    omega
  have hwb : wrap64 (q1.toNat : Int) = (q1.toNat : Int) := by
    have := q1.toNat_lt
    unfold wrap64
    omega
  have hwc : wrap64 (q2.toNat : Int) = (q2.toNat : Int) := by
    have := q2.toNat_lt
    unfold wrap64
    omega
  have HRD := Lib.hid hrd
  have HG0 := Lib.hid hg0
  clear hrd h ht hp hg0
  cases leaf with
  | true =>
    have gk : (kindE true).toNat = 1 := rfl
    generalize kindE true = q0 at *
    go_enter Try.func30, Try.ntmps30
    go_wp2_with fail
    refine HRD.out.mono ?_
    rintro e w1 ⟨rfl, hg1⟩
    have hR : ∀ w', Gr (w.alloc (.cells #[.int .i64 0, .bool false, .slice none 0 0] 84)) w' → (w'.cell? ⟨w.heap.size, 0, none⟩ = some (.int .i64 0) ∧ w'.cell? ⟨w.heap.size, 1, none⟩ = some (.bool false) ∧ w'.cell? ⟨w.heap.size, 2, none⟩ = some (.slice none 0 0)) ∧ ∀ o, w'.frozen? ⟨w.heap.size, o, none⟩ = false := fun w' g =>
      ⟨⟨g.keeps (by rw [World.cell?_alloc_new]; rfl), g.keeps (by rw [World.cell?_alloc_new]; rfl), g.keeps (by rw [World.cell?_alloc_new]; rfl)⟩, fun o => (g.frozen o (by simp)).trans (by simp)⟩
    have hga : Gr w1 (w1.alloc (.cells #[.int .i64 (p : Int), .bool true, .slice none 0 0] 84)) := (Gr.refl w1).alloc _
    have hR1 := hR _ (hg1.trans hga)
    have k0 : (w1.alloc (.cells #[.int .i64 (p : Int), .bool true, .slice none 0 0] 84)).cell? ⟨w1.heap.size, 0, none⟩ = some (.int .i64 (p : Int)) := by rw [World.cell?_alloc_new]; rfl
    have k1 : (w1.alloc (.cells #[.int .i64 (p : Int), .bool true, .slice none 0 0] 84)).cell? ⟨w1.heap.size, 1, none⟩ = some (.bool true) := by rw [World.cell?_alloc_new]; rfl
    have k2 : (w1.alloc (.cells #[.int .i64 (p : Int), .bool true, .slice none 0 0] 84)).cell? ⟨w1.heap.size, 2, none⟩ = some (.slice none 0 0) := by rw [World.cell?_alloc_new]; rfl
    have kf : ∀ o, (w1.alloc (.cells #[.int .i64 (p : Int), .bool true, .slice none 0 0] 84)).frozen? ⟨w1.heap.size, o, none⟩ = false := fun o => by simp
    have hlt1 : w1.heap.size < (w1.alloc (.cells #[.int .i64 (p : Int), .bool true, .slice none 0 0] 84)).heap.size := by simp
    have hgw := (HG0.out.trans hg1).trans hga
    have hRN : w.heap.size < w1.heap.size := by have := hg1.size; simp at this; omega
    clear hR hg1 hga
    go_wp2_with fail
    go_region
    go_wp2_with fail
    obtain ⟨NB, hNB⟩ : ∃ NB, w1.heap.size = NB := ⟨_, rfl⟩
    obtain ⟨RB, hRB⟩ : ∃ RB, w.heap.size = RB := ⟨_, rfl⟩
    have HS : Hid (w.heap.size = RB) := Lib.hid hRB
    rw [hNB] at k0 k1 k2 kf hlt1 hRN ⊢
    rw [hRB] at hR1 hRN ⊢
    generalize w1.alloc (.cells #[.int .i64 (p : Int), .bool true, .slice none 0 0] 84) = W0 at *
    have HI : Hid ((W0.cell? ⟨NB, 0, none⟩ = some (.int .i64 (p : Int)) ∧ W0.cell? ⟨NB, 1, none⟩ = some (.bool true) ∧ W0.cell? ⟨NB, 2, none⟩ = some (.slice none 0 0) ∧ ∀ o, W0.frozen? ⟨NB, o, none⟩ = false) ∧ ((W0.cell? ⟨RB, 0, none⟩ = some (.int .i64 0) ∧ W0.cell? ⟨RB, 1, none⟩ = some (.bool false) ∧ W0.cell? ⟨RB, 2, none⟩ = some (.slice none 0 0)) ∧ ∀ o, W0.frozen? ⟨RB, o, none⟩ = false) ∧ NB < W0.heap.size ∧ Gr w W0) := Lib.hid ⟨⟨k0, k1, k2, kf⟩, hR1, hlt1, hgw⟩
    clear k0 k1 k2 kf hR1 hlt1 hgw hNB hRB g0 g1 g2 ho hwa hwb hwc gk z0 z1 z2
    go_loopw [6, 42] (fun sv iv w' => ∃ (i : Nat) (v : Value), i ≤ l.length ∧ iv = .int .i64 i ∧ sv = .string (leftE true l i) ∧ (w'.cell? ⟨NB, 0, none⟩ = some (.int .i64 (p : Int)) ∧ w'.cell? ⟨NB, 1, none⟩ = some (.bool true) ∧ w'.cell? ⟨NB, 2, none⟩ = some v ∧ ∀ o, w'.frozen? ⟨NB, o, none⟩ = false) ∧ ((w'.cell? ⟨RB, 0, none⟩ = some (.int .i64 0) ∧ w'.cell? ⟨RB, 1, none⟩ = some (.bool false) ∧ w'.cell? ⟨RB, 2, none⟩ = some (.slice none 0 0)) ∧ ∀ o, w'.frozen? ⟨RB, o, none⟩ = false) ∧ NB < w'.heap.size ∧ Gr w w' ∧ OwnE w w' v (l.take i) ∧ v.ownBlock ≠ some NB ∧ v.ownBlock ≠ some RB) (fun _ iv _ => l.length - (RowKit.intOf iv).toNat)
    case atStart =>
      obtain ⟨h1, h2, h3, h4⟩ := HI.out
      exact ⟨0, .slice none 0 0, Nat.zero_le _, rfl, by first | rfl | rw [gx], h1, h2, h3, h4.drew, OwnE.nil _ _, by simp [Value.ownBlock], by simp [Value.ownBlock]⟩
    case round =>
      obtain ⟨i, v, hi, rfl, rfl, ⟨k0, k1, k2, kf⟩, ⟨⟨r0, r1, r2⟩, rf⟩, hNl, hg, ho, hn1, hn2⟩ := hrel
      have HO := Lib.hid ho
      have HG := Lib.hid hg
      have HN1 := Lib.hid hn1
      have HN2 := Lib.hid hn2
      have hNW : RB < NB := hRN
      clear ho hg hn1 hn2
      by_cases hlt : i < l.length
      · have hil : (i : Int) < (l.length : Int) := by omega
        have hnx := leftE_next true l i hlt
        have htz := leftE_size true l i hok hb
        have HTE : Hid (l.take (i + 1) = l.take i ++ [l[i]]) := Lib.hid (List.take_succ_eq_append_getElem hlt)
        have hoke := hok _ (List.getElem_mem hlt)
        have hll : (l.take i).length ≤ 100000 := by rw [List.length_take]; omega
        generalize l[i] = en at *
        obtain ⟨ky, it, pgi⟩ := en
        generalize leftE true l i = T0 at *
        generalize hT1 : leftE true l (i + 1) = T1 at *
        have HT1 := Lib.hid hT1
        clear hT1
        obtain ⟨kz, hkz⟩ : ∃ kz, ky.size = kz := ⟨_, rfl⟩
        obtain ⟨iz, hiz⟩ : ∃ iz, it.size = iz := ⟨_, rfl⟩
        have hk60 : kz ≤ 60 := by rw [← hkz]; exact hoke.key
        have hi100 : iz ≤ 100 := by rw [← hiz]; exact hoke.item
        have hp0 : pgi = 0 := hoke.isL rfl
        have e1 : En.txt ⟨ky, it, pgi⟩ true = [kz.toUInt8, iz.toUInt8] ++ (ky.data.toList ++ it.data.toList) := by rw [← hkz, ← hiz]; rfl
        have hkl : ky.data.toList.length = kz := by rw [← size_data, hkz]
        have hill : it.data.toList.length = iz := by rw [← size_data, hiz]
        rw [e1] at hnx
        have hT0 : T0.size = 2 + kz + iz + T1.size := by
          rw [size_data, hnx]
          simp only [List.length_append, List.length_cons, List.length_nil, hkl, hill, ← size_data]
          omega
        have y0 : 0 < T0.size := by omega
        have y1 : 1 < T0.size := by omega
        have t0 : T0[0] = kz.toUInt8 := get_at _ 0 y0 _ hnx (by simp)
        have t1 : T0[1] = iz.toUInt8 := get_at _ 1 y1 _ hnx (by simp)
        have f1 : T0.extract 2 (2 + kz) = ky := by
          have := ext_part T0 [kz.toUInt8, iz.toUInt8] ky.data.toList (it.data.toList ++ T1.data.toList) (by rw [hnx]; simp)
          rw [hkl, eta_ba] at this
          exact this
        have f2 : T0.extract (2 + kz) (2 + kz + iz) = it := by
          have := ext_part T0 ([kz.toUInt8, iz.toUInt8] ++ ky.data.toList) it.data.toList T1.data.toList (by rw [hnx]; simp)
          rw [List.length_append, hkl, hill, eta_ba] at this
          exact this
        have f3 : T0.extract (2 + kz + iz) T0.size = T1 := by
          have := ext_rest T0 ([kz.toUInt8, iz.toUInt8] ++ (ky.data.toList ++ it.data.toList)) T1.data.toList hnx
          rw [List.length_append, List.length_append, hkl, hill, eta_ba] at this
          rw [show 2 + kz + iz = [kz.toUInt8, iz.toUInt8].length + (kz + iz) by simp; omega]
          exact this
        have hq1 : (kz.toUInt8).toNat = kz := by simp; omega
        have hq2 : (iz.toUInt8).toNat = iz := by simp; omega
        generalize kz.toUInt8 = q1 at *
        generalize iz.toUInt8 = q2 at *
        rw [hT0] at f3 htz
        obtain ⟨T1z, hT1z⟩ : ∃ T1z, T1.size = T1z := ⟨_, rfl⟩
        rw [hT1z] at f3 htz hT0
        clear hT1z
        clear hnx e1 hkl hill hkz hiz hoke
        have hgb : Gr wr (wr.alloc (.cells #[.string ⟨#[]⟩, .string ⟨#[]⟩, .int .i64 0] 72)) := (Gr.refl wr).alloc _
        have e0 : (wr.alloc (.cells #[.string ⟨#[]⟩, .string ⟨#[]⟩, .int .i64 0] 72)).cell? ⟨wr.heap.size, 0, none⟩ = some (.string ⟨#[]⟩) := by rw [World.cell?_alloc_new]; rfl
        have e1 : (wr.alloc (.cells #[.string ⟨#[]⟩, .string ⟨#[]⟩, .int .i64 0] 72)).cell? ⟨wr.heap.size, 1, none⟩ = some (.string ⟨#[]⟩) := by rw [World.cell?_alloc_new]; rfl
        have e2 : (wr.alloc (.cells #[.string ⟨#[]⟩, .string ⟨#[]⟩, .int .i64 0] 72)).cell? ⟨wr.heap.size, 2, none⟩ = some (.int .i64 0) := by rw [World.cell?_alloc_new]; rfl
        have ef : ∀ o, (wr.alloc (.cells #[.string ⟨#[]⟩, .string ⟨#[]⟩, .int .i64 0] 72)).frozen? ⟨wr.heap.size, o, none⟩ = false := fun o => by simp
        have m1 := hgb.keeps k1
        clear hgb
        go_wp2_with fail
        generalize hW1 : wr.alloc (.cells #[.string ⟨#[]⟩, .string ⟨#[]⟩, .int .i64 0] 72) = W1 at *
        have HW1 := Lib.hid hW1
        clear hW1
        go_region
        have HF3 := Lib.hid f3
        have hl3 : (l.take i ++ [(⟨ky, it, 0⟩ : En)]).length = i + 1 := by rw [List.length_append, List.length_take, List.length_singleton]; omega
        have HL3 := Lib.hid hl3
        clear hl3
        obtain ⟨EB, hEB⟩ : ∃ EB, wr.heap.size = EB := ⟨_, rfl⟩
        have hEN : EB ≠ NB := by omega
        have hER : EB ≠ RB := by omega
        have hgx : GrX (fun b => b = EB) wr (((W1.setCell ⟨EB, 0, none⟩ (.string ky)).setCell ⟨EB, 1, none⟩ (.string it)).drew) := by
          have a1 : GrX (fun b => b = EB) wr W1 := by rw [← HW1.out]; exact GrX.of_gr ((Gr.refl wr).alloc _)
          exact ((a1.trans (GrX.setCell (S := fun b => b = EB) (p := ⟨EB, 0, none⟩) W1 _ rfl)).trans (GrX.setCell (S := fun b => b = EB) (p := ⟨EB, 1, none⟩) _ _ rfl)).trans (GrX.drew _)
        have hsz2 : wr.heap.size < (((W1.setCell ⟨EB, 0, none⟩ (.string ky)).setCell ⟨EB, 1, none⟩ (.string it)).drew).heap.size := by
          rw [← HW1.out]
          show wr.heap.size < ((((wr.alloc _).setCell _ _).setCell _ _)).heap.size
          simp
        rw [hEB] at e0 e1 e2 ef ⊢
        have y0 : (((W1.setCell ⟨EB, 0, none⟩ (.string ky)).setCell ⟨EB, 1, none⟩ (.string it)).drew).cell? ⟨EB, 0, none⟩ = some (.string ky) := by
          show ((W1.setCell ⟨EB, 0, none⟩ (.string ky)).setCell ⟨EB, 1, none⟩ (.string it)).cell? ⟨EB, 0, none⟩ = _
          rw [World.cell?_setCell_other _ _ _ _ (by simp), World.cell?_setCell_same _ _ _ e0]
        have y1 : (((W1.setCell ⟨EB, 0, none⟩ (.string ky)).setCell ⟨EB, 1, none⟩ (.string it)).drew).cell? ⟨EB, 1, none⟩ = some (.string it) := by
          show ((W1.setCell ⟨EB, 0, none⟩ (.string ky)).setCell ⟨EB, 1, none⟩ (.string it)).cell? ⟨EB, 1, none⟩ = _
          rw [World.cell?_setCell_same _ _ _ ((World.cell?_setCell_other _ _ _ _ (by simp)).trans e1)]
        have y2 : (((W1.setCell ⟨EB, 0, none⟩ (.string ky)).setCell ⟨EB, 1, none⟩ (.string it)).drew).cell? ⟨EB, 2, none⟩ = some (.int .i64 0) := by
          show ((W1.setCell ⟨EB, 0, none⟩ (.string ky)).setCell ⟨EB, 1, none⟩ (.string it)).cell? ⟨EB, 2, none⟩ = _
          rw [World.cell?_setCell_other _ _ _ _ (by simp), World.cell?_setCell_other _ _ _ _ (by simp)]
          exact e2
        generalize ((W1.setCell ⟨EB, 0, none⟩ (.string ky)).setCell ⟨EB, 1, none⟩ (.string it)).drew = W2 at *
        have hvn : ∀ b, v.ownBlock = some b → ¬ b = EB := fun b hb e => by
          have := ownBlock_lt HO.out b hb
          omega
        have HO2 := Lib.hid (HO.out.keepX hgx hvn)
        have HG2 : Hid (Gr w W2) := Lib.hid (hgx.gr HG.out fun b hb => by rw [hb, ← hEB]; exact HG.out.size)
        have n0 := hgx.keeps hEN.symm k0
        have n1 := hgx.keeps hEN.symm k1
        have n2 := hgx.keeps hEN.symm k2
        have nf : ∀ o, W2.frozen? ⟨NB, o, none⟩ = false := fun o => (hgx.frozen o hNl hEN.symm).trans (kf o)
        have hRl : RB < wr.heap.size := by omega
        have x0 := hgx.keeps hER.symm r0
        have x1 := hgx.keeps hER.symm r1
        have x2 := hgx.keeps hER.symm r2
        have xf : ∀ o, W2.frozen? ⟨RB, o, none⟩ = false := fun o => (hgx.frozen o hRl hER.symm).trans (rf o)
        have hN2 : NB < W2.heap.size := by omega
        have hR2 : RB < W2.heap.size := by omega
        clear e0 e1 e2 ef m1 k0 k1 k2 kf r0 r1 r2 rf hgx HO HG HW1 t0 t1 f1 f2 f3
        have m2 := ((Gr.refl W2).alloc (.cells #[.string ky, .string it, .int .i64 0] 72)).keeps n2
        go_wp2_with (at_builtin; (refine append_ent (a0 := w) (w := W2) rfl _ _ rfl v (l.take i) ⟨ky, it, 0⟩ rfl HO2.out _ rfl rfl hll HG2.out ?_); intro v3 w3 ho3 hg3 hm3; (have p2 := hm3.keeps HN1.out n2); (have pf : ∀ o, w3.frozen? ⟨NB, o, none⟩ = false := fun o => (World.frozen?_of_block (hm3.2 NB hN2 HN1.out).2).trans (nf o)); (obtain ⟨ao3, c3, rfl⟩ := ho3.form); rw [HL3.out] at ho3 hm3 ⊢; (have HO3 := Lib.hid ho3); clear ho3)
        have p0 := hm3.keeps HN1.out n0
        have p1 := hm3.keeps HN1.out n1
        have s0 := hm3.keeps HN2.out x0
        have s1 := hm3.keeps HN2.out x1
        have s2 := hm3.keeps HN2.out x2
        have sf : ∀ o, w3.frozen? ⟨RB, o, none⟩ = false := fun o => (World.frozen?_of_block (hm3.2 RB hR2 HN2.out).2).trans (xf o)
        have hne1 : (⟨NB, 0, none⟩ : Addr) ≠ ⟨NB, 2, none⟩ := by simp
        have hne2 : (⟨NB, 1, none⟩ : Addr) ≠ ⟨NB, 2, none⟩ := by simp
        have hne3 : ∀ o, (⟨RB, o, none⟩ : Addr) ≠ ⟨NB, 2, none⟩ := fun o e => by
          have := congrArg Addr.block e
          simp at this
          omega
        have hgs : GrX (fun b => b = NB) w3 (w3.setCell ⟨NB, 2, none⟩ (.slice ao3 (i + 1) c3)) := GrX.setCell (S := fun b => b = NB) (p := ⟨NB, 2, none⟩) w3 _ rfl
        have hO4 : OwnE w (w3.setCell ⟨NB, 2, none⟩ (.slice ao3 (i + 1) c3)) (.slice ao3 (i + 1) c3) (l.take i ++ [(⟨ky, it, 0⟩ : En)]) := HO3.out.keepX hgs fun b hb e => (hm3.2 NB hN2 HN1.out).1 (by rw [hb, e])
        have hRNe : RB ≠ NB := by omega
        subst hp0
        have hNw : w.heap.size ≤ NB := by have := HS.out; omega
        have u0 : (w3.setCell ⟨NB, 2, none⟩ (.slice ao3 (i + 1) c3)).cell? ⟨NB, 0, none⟩ = some (.int .i64 (p : Int)) := by rw [World.cell?_setCell_other _ _ _ _ (by simp)]; exact p0
        have u1 : (w3.setCell ⟨NB, 2, none⟩ (.slice ao3 (i + 1) c3)).cell? ⟨NB, 1, none⟩ = some (.bool true) := by rw [World.cell?_setCell_other _ _ _ _ (by simp)]; exact p1
        have u2 : (w3.setCell ⟨NB, 2, none⟩ (.slice ao3 (i + 1) c3)).cell? ⟨NB, 2, none⟩ = some (.slice ao3 (i + 1) c3) := World.cell?_setCell_same _ _ _ p2
        have uf : ∀ o, (w3.setCell ⟨NB, 2, none⟩ (.slice ao3 (i + 1) c3)).frozen? ⟨NB, o, none⟩ = false := fun o => by rw [World.frozen?_setCell]; exact pf o
        have uz : ∀ o, (w3.setCell ⟨NB, 2, none⟩ (.slice ao3 (i + 1) c3)).frozen? ⟨RB, o, none⟩ = false := fun o => by rw [World.frozen?_setCell]; exact sf o
        have v0 := hgs.keeps hRNe s0
        have v1 := hgs.keeps hRNe s1
        have v2 := hgs.keeps hRNe s2
        have ug : Gr w (w3.setCell ⟨NB, 2, none⟩ (.slice ao3 (i + 1) c3)) := hg3.setCell hNw _
        have us : NB < (w3.setCell ⟨NB, 2, none⟩ (.slice ao3 (i + 1) c3)).heap.size := by
          have := hm3.1
          have := hgs.2.2.2.1
          omega
        have hl1 : i + 1 ≤ l.length := by omega
        have ut : (.string (T0.extract (2 + kz + iz) (2 + kz + iz + T1z)) : Value) = .string (leftE true l (i + 1)) := by rw [HF3.out, HT1.out]
        have hx1 := (hm3.2 NB hN2 HN1.out).1
        have hx2 := (hm3.2 RB hR2 HN2.out).1
        have hO5 : OwnE w (w3.setCell ⟨NB, 2, none⟩ (.slice ao3 (i + 1) c3)) (.slice ao3 (i + 1) c3) (l.take (i + 1)) := by
          rw [HTE.out]
          exact hO4
        exact ⟨⟨i + 1, .slice ao3 (i + 1) c3, hl1, by go_num, ut, ⟨u0, u1, u2, uf⟩, ⟨⟨v0, v1, v2⟩, uz⟩, us, ug, hO5, hx1, hx2⟩, by simp [RowKit.intOf]; omega⟩
      · have hii : i = l.length := by omega
        subst hii
        rw [List.take_length] at HO
        obtain ⟨ao, ca, rfl⟩ := HO.out.form
        have hO3 : OwnE w (((wr.setCell ⟨RB, 0, none⟩ (.int .i64 (p : Int))).setCell ⟨RB, 1, none⟩ (.bool true)).setCell ⟨RB, 2, none⟩ (.slice ao l.length ca)) (.slice ao l.length ca) l := HO.out.keepX (((GrX.setCell (S := fun b => b = RB) (p := ⟨RB, 0, none⟩) wr _ rfl).trans (GrX.setCell (S := fun b => b = RB) (p := ⟨RB, 1, none⟩) _ _ rfl)).trans (GrX.setCell (S := fun b => b = RB) (p := ⟨RB, 2, none⟩) _ _ rfl)) fun b hb e => HN2.out (by rw [hb, e])
        have hRw : w.heap.size ≤ RB := Nat.le_of_eq HS.out
        have hG3 : Gr w (((wr.setCell ⟨RB, 0, none⟩ (.int .i64 (p : Int))).setCell ⟨RB, 1, none⟩ (.bool true)).setCell ⟨RB, 2, none⟩ (.slice ao l.length ca)) := ((HG.out.setCell hRw _).setCell hRw _).setCell hRw _
        have w0 : (((wr.setCell ⟨RB, 0, none⟩ (.int .i64 (p : Int))).setCell ⟨RB, 1, none⟩ (.bool true)).setCell ⟨RB, 2, none⟩ (.slice ao l.length ca)).cell? ⟨RB, 0, none⟩ = some (.int .i64 (p : Int)) := by
          rw [World.cell?_setCell_other _ _ _ _ (by simp), World.cell?_setCell_other _ _ _ _ (by simp), World.cell?_setCell_same _ _ _ r0]
        have w1 : (((wr.setCell ⟨RB, 0, none⟩ (.int .i64 (p : Int))).setCell ⟨RB, 1, none⟩ (.bool true)).setCell ⟨RB, 2, none⟩ (.slice ao l.length ca)).cell? ⟨RB, 1, none⟩ = some (.bool true) := by
          rw [World.cell?_setCell_other _ _ _ _ (by simp), World.cell?_setCell_same _ _ _ ((World.cell?_setCell_other _ _ _ _ (by simp)).trans r1)]
        have w2 : (((wr.setCell ⟨RB, 0, none⟩ (.int .i64 (p : Int))).setCell ⟨RB, 1, none⟩ (.bool true)).setCell ⟨RB, 2, none⟩ (.slice ao l.length ca)).cell? ⟨RB, 2, none⟩ = some (.slice ao l.length ca) := by
          rw [World.cell?_setCell_same _ _ _ ((World.cell?_setCell_other _ _ _ _ (by simp)).trans ((World.cell?_setCell_other _ _ _ _ (by simp)).trans r2))]
        have HO3 := Lib.hid hO3
        have HG3 := Lib.hid hG3
        have HW0 := Lib.hid w0
        have HW1 := Lib.hid w1
        have HW2 := Lib.hid w2
        clear hO3 hG3 w0 w1 w2
        go_wp2_with fail
        have w0 := HW0.out
        have w1 := HW1.out
        have w2 := HW2.out
        generalize (((wr.setCell ⟨RB, 0, none⟩ (.int .i64 (p : Int))).setCell ⟨RB, 1, none⟩ (.bool true)).setCell ⟨RB, 2, none⟩ (.slice ao l.length ca)) = W9 at *
        refine bodyPost_ret (v := .tuple #[nodeV p true (.slice ao l.length ca), .nilIface]) (by simp [results, Try.results30, go_sem, nodeV, w0, w1, w2]) rfl ⟨_, rfl, HO3.out, HG3.out⟩
  | false =>
    have gk : (kindE false).toNat = 2 := rfl
    generalize kindE false = q0 at *
    go_enter Try.func30, Try.ntmps30
    go_wp2_with fail
    refine HRD.out.mono ?_
    rintro e w1 ⟨rfl, hg1⟩
    have hR : ∀ w', Gr (w.alloc (.cells #[.int .i64 0, .bool false, .slice none 0 0] 84)) w' → (w'.cell? ⟨w.heap.size, 0, none⟩ = some (.int .i64 0) ∧ w'.cell? ⟨w.heap.size, 1, none⟩ = some (.bool false) ∧ w'.cell? ⟨w.heap.size, 2, none⟩ = some (.slice none 0 0)) ∧ ∀ o, w'.frozen? ⟨w.heap.size, o, none⟩ = false := fun w' g =>
      ⟨⟨g.keeps (by rw [World.cell?_alloc_new]; rfl), g.keeps (by rw [World.cell?_alloc_new]; rfl), g.keeps (by rw [World.cell?_alloc_new]; rfl)⟩, fun o => (g.frozen o (by simp)).trans (by simp)⟩
    have hga : Gr w1 (w1.alloc (.cells #[.int .i64 (p : Int), .bool false, .slice none 0 0] 84)) := (Gr.refl w1).alloc _
    have hR1 := hR _ (hg1.trans hga)
    have k0 : (w1.alloc (.cells #[.int .i64 (p : Int), .bool false, .slice none 0 0] 84)).cell? ⟨w1.heap.size, 0, none⟩ = some (.int .i64 (p : Int)) := by rw [World.cell?_alloc_new]; rfl
    have k1 : (w1.alloc (.cells #[.int .i64 (p : Int), .bool false, .slice none 0 0] 84)).cell? ⟨w1.heap.size, 1, none⟩ = some (.bool false) := by rw [World.cell?_alloc_new]; rfl
    have k2 : (w1.alloc (.cells #[.int .i64 (p : Int), .bool false, .slice none 0 0] 84)).cell? ⟨w1.heap.size, 2, none⟩ = some (.slice none 0 0) := by rw [World.cell?_alloc_new]; rfl
    have kf : ∀ o, (w1.alloc (.cells #[.int .i64 (p : Int), .bool false, .slice none 0 0] 84)).frozen? ⟨w1.heap.size, o, none⟩ = false := fun o => by simp
    have hlt1 : w1.heap.size < (w1.alloc (.cells #[.int .i64 (p : Int), .bool false, .slice none 0 0] 84)).heap.size := by simp
    have hgw := (HG0.out.trans hg1).trans hga
    have hRN : w.heap.size < w1.heap.size := by have := hg1.size; simp at this; omega
    clear hR hg1 hga
    go_wp2_with fail
    go_region
    go_wp2_with fail
    obtain ⟨NB, hNB⟩ : ∃ NB, w1.heap.size = NB := ⟨_, rfl⟩
    obtain ⟨RB, hRB⟩ : ∃ RB, w.heap.size = RB := ⟨_, rfl⟩
    have HS : Hid (w.heap.size = RB) := Lib.hid hRB
    rw [hNB] at k0 k1 k2 kf hlt1 hRN ⊢
    rw [hRB] at hR1 hRN ⊢
    generalize w1.alloc (.cells #[.int .i64 (p : Int), .bool false, .slice none 0 0] 84) = W0 at *
    have HI : Hid ((W0.cell? ⟨NB, 0, none⟩ = some (.int .i64 (p : Int)) ∧ W0.cell? ⟨NB, 1, none⟩ = some (.bool false) ∧ W0.cell? ⟨NB, 2, none⟩ = some (.slice none 0 0) ∧ ∀ o, W0.frozen? ⟨NB, o, none⟩ = false) ∧ ((W0.cell? ⟨RB, 0, none⟩ = some (.int .i64 0) ∧ W0.cell? ⟨RB, 1, none⟩ = some (.bool false) ∧ W0.cell? ⟨RB, 2, none⟩ = some (.slice none 0 0)) ∧ ∀ o, W0.frozen? ⟨RB, o, none⟩ = false) ∧ NB < W0.heap.size ∧ Gr w W0) := Lib.hid ⟨⟨k0, k1, k2, kf⟩, hR1, hlt1, hgw⟩
    clear k0 k1 k2 kf hR1 hlt1 hgw hNB hRB g0 g1 g2 ho hwa hwb hwc gk z0 z1 z2
    go_loopw [6, 42] (fun sv iv w' => ∃ (i : Nat) (v : Value), i ≤ l.length ∧ iv = .int .i64 i ∧ sv = .string (leftE false l i) ∧ (w'.cell? ⟨NB, 0, none⟩ = some (.int .i64 (p : Int)) ∧ w'.cell? ⟨NB, 1, none⟩ = some (.bool false) ∧ w'.cell? ⟨NB, 2, none⟩ = some v ∧ ∀ o, w'.frozen? ⟨NB, o, none⟩ = false) ∧ ((w'.cell? ⟨RB, 0, none⟩ = some (.int .i64 0) ∧ w'.cell? ⟨RB, 1, none⟩ = some (.bool false) ∧ w'.cell? ⟨RB, 2, none⟩ = some (.slice none 0 0)) ∧ ∀ o, w'.frozen? ⟨RB, o, none⟩ = false) ∧ NB < w'.heap.size ∧ Gr w w' ∧ OwnE w w' v (l.take i) ∧ v.ownBlock ≠ some NB ∧ v.ownBlock ≠ some RB) (fun _ iv _ => l.length - (RowKit.intOf iv).toNat)
    case atStart =>
      obtain ⟨h1, h2, h3, h4⟩ := HI.out
      exact ⟨0, .slice none 0 0, Nat.zero_le _, rfl, by first | rfl | rw [gx], h1, h2, h3, h4.drew, OwnE.nil _ _, by simp [Value.ownBlock], by simp [Value.ownBlock]⟩
    case round =>
      obtain ⟨i, v, hi, rfl, rfl, ⟨k0, k1, k2, kf⟩, ⟨⟨r0, r1, r2⟩, rf⟩, hNl, hg, ho, hn1, hn2⟩ := hrel
      have HO := Lib.hid ho
      have HG := Lib.hid hg
      have HN1 := Lib.hid hn1
      have HN2 := Lib.hid hn2
      have hNW : RB < NB := hRN
      clear ho hg hn1 hn2
      by_cases hlt : i < l.length
      · have hil : (i : Int) < (l.length : Int) := by omega
        have hnx := leftE_next false l i hlt
        have htz := leftE_size false l i hok hb
        have HTE : Hid (l.take (i + 1) = l.take i ++ [l[i]]) := Lib.hid (List.take_succ_eq_append_getElem hlt)
        have hoke := hok _ (List.getElem_mem hlt)
        have hll : (l.take i).length ≤ 100000 := by rw [List.length_take]; omega
        generalize l[i] = en at *
        obtain ⟨ky, it, pgi⟩ := en
        generalize leftE false l i = T0 at *
        generalize hT1 : leftE false l (i + 1) = T1 at *
        have HT1 := Lib.hid hT1
        clear hT1
        obtain ⟨kz, hkz⟩ : ∃ kz, ky.size = kz := ⟨_, rfl⟩
        have hk60 : kz ≤ 60 := by rw [← hkz]; exact hoke.key
        have hp2000 : pgi < 2000 := hoke.page
        have hit : it = noB := hoke.node rfl
        subst hit
        have e1 : En.txt ⟨ky, noB, pgi⟩ false = [kz.toUInt8, (pgi / 256).toUInt8, pgi.toUInt8] ++ ky.data.toList := by
          rw [← hkz]
          unfold En.txt En.head
          simp only [Bool.false_eq_true, if_false]
          rw [two8_nat _ (by omega)]
          simp [noB]
        have hkl : ky.data.toList.length = kz := by rw [← size_data, hkz]
        rw [e1] at hnx
        have hT0 : T0.size = 3 + kz + T1.size := by
          rw [size_data, hnx]
          simp only [List.length_append, List.length_cons, List.length_nil, hkl, ← size_data]
        have y0 : 0 < T0.size := by omega
        have y1 : 1 < T0.size := by omega
        have y2 : 2 < T0.size := by omega
        have t0 : T0[0] = kz.toUInt8 := get_at _ 0 y0 _ hnx (by simp)
        have t1 : T0[1] = (pgi / 256).toUInt8 := get_at _ 1 y1 _ hnx (by simp)
        have t2 : T0[2] = pgi.toUInt8 := get_at _ 2 y2 _ hnx (by simp)
        have f1 : T0.extract 3 (3 + kz) = ky := by
          have := ext_part T0 [kz.toUInt8, (pgi / 256).toUInt8, pgi.toUInt8] ky.data.toList T1.data.toList (by rw [hnx]; simp)
          rw [hkl, eta_ba] at this
          exact this
        have f3 : T0.extract (3 + kz) T0.size = T1 := by
          have := ext_rest T0 ([kz.toUInt8, (pgi / 256).toUInt8, pgi.toUInt8] ++ ky.data.toList) T1.data.toList hnx
          rw [List.length_append, hkl, eta_ba] at this
          exact this
        have hq1 : (kz.toUInt8).toNat = kz := by simp; omega
        have ho2 := or_byte_i (pgi / 256).toUInt8.toNat pgi.toUInt8.toNat (pgi / 256).toUInt8.toNat_lt pgi.toUInt8.toNat_lt
        have hm2 : 256 * (((pgi / 256).toUInt8.toNat : Nat) : Int) + ((pgi.toUInt8.toNat : Nat) : Int) = (pgi : Int) := by
          rw [u8_of, u8_of]
          omega
        rw [hm2] at ho2
        clear hm2
        generalize kz.toUInt8 = q1 at *
        generalize (pgi / 256).toUInt8 = q2 at *
        generalize pgi.toUInt8 = q3 at *
        have hwa : wrap64 ((q2.toNat : Int) * 256) = (q2.toNat : Int) * 256 := by
          have := q2.toNat_lt
          unfold wrap64
          omega
        have hwb : wrap64 (q2.toNat : Int) = (q2.toNat : Int) := by
          have := q2.toNat_lt
          unfold wrap64
          omega
        have hwc : wrap64 (q3.toNat : Int) = (q3.toNat : Int) := by
          have := q3.toNat_lt
          unfold wrap64
          omega
        rw [hT0] at f3 htz
        obtain ⟨T1z, hT1z⟩ : ∃ T1z, T1.size = T1z := ⟨_, rfl⟩
        rw [hT1z] at f3 htz hT0
        clear hT1z
        clear hnx e1 hkl hkz hoke
        have hgb : Gr wr (wr.alloc (.cells #[.string ⟨#[]⟩, .string ⟨#[]⟩, .int .i64 0] 72)) := (Gr.refl wr).alloc _
        have e0 : (wr.alloc (.cells #[.string ⟨#[]⟩, .string ⟨#[]⟩, .int .i64 0] 72)).cell? ⟨wr.heap.size, 0, none⟩ = some (.string ⟨#[]⟩) := by rw [World.cell?_alloc_new]; rfl
        have e1 : (wr.alloc (.cells #[.string ⟨#[]⟩, .string ⟨#[]⟩, .int .i64 0] 72)).cell? ⟨wr.heap.size, 1, none⟩ = some (.string ⟨#[]⟩) := by rw [World.cell?_alloc_new]; rfl
        have e2 : (wr.alloc (.cells #[.string ⟨#[]⟩, .string ⟨#[]⟩, .int .i64 0] 72)).cell? ⟨wr.heap.size, 2, none⟩ = some (.int .i64 0) := by rw [World.cell?_alloc_new]; rfl
        have ef : ∀ o, (wr.alloc (.cells #[.string ⟨#[]⟩, .string ⟨#[]⟩, .int .i64 0] 72)).frozen? ⟨wr.heap.size, o, none⟩ = false := fun o => by simp
        have m1 := hgb.keeps k1
        clear hgb
        go_wp2_with fail
        generalize hW1 : wr.alloc (.cells #[.string ⟨#[]⟩, .string ⟨#[]⟩, .int .i64 0] 72) = W1 at *
        have HW1 := Lib.hid hW1
        clear hW1
        go_region
        have HF3 := Lib.hid f3
        have hl3 : (l.take i ++ [(⟨ky, noB, pgi⟩ : En)]).length = i + 1 := by rw [List.length_append, List.length_take, List.length_singleton]; omega
        have HL3 := Lib.hid hl3
        clear hl3
        obtain ⟨EB, hEB⟩ : ∃ EB, wr.heap.size = EB := ⟨_, rfl⟩
        have hEN : EB ≠ NB := by omega
        have hER : EB ≠ RB := by omega
        have hgx : GrX (fun b => b = EB) wr (((W1.setCell ⟨EB, 2, none⟩ (.int .i64 (pgi : Int))).setCell ⟨EB, 0, none⟩ (.string ky)).drew) := by
          have a1 : GrX (fun b => b = EB) wr W1 := by rw [← HW1.out]; exact GrX.of_gr ((Gr.refl wr).alloc _)
          exact ((a1.trans (GrX.setCell (S := fun b => b = EB) (p := ⟨EB, 2, none⟩) W1 _ rfl)).trans (GrX.setCell (S := fun b => b = EB) (p := ⟨EB, 0, none⟩) _ _ rfl)).trans (GrX.drew _)
        have hsz2 : wr.heap.size < (((W1.setCell ⟨EB, 2, none⟩ (.int .i64 (pgi : Int))).setCell ⟨EB, 0, none⟩ (.string ky)).drew).heap.size := by
          rw [← HW1.out]
          show wr.heap.size < ((((wr.alloc _).setCell _ _).setCell _ _)).heap.size
          simp
        rw [hEB] at e0 e1 e2 ef ⊢
        have y0 : (((W1.setCell ⟨EB, 2, none⟩ (.int .i64 (pgi : Int))).setCell ⟨EB, 0, none⟩ (.string ky)).drew).cell? ⟨EB, 0, none⟩ = some (.string ky) := by
          show ((W1.setCell ⟨EB, 2, none⟩ (.int .i64 (pgi : Int))).setCell ⟨EB, 0, none⟩ (.string ky)).cell? ⟨EB, 0, none⟩ = _
          rw [World.cell?_setCell_same _ _ _ ((World.cell?_setCell_other _ _ _ _ (by simp)).trans e0)]
        have y1 : (((W1.setCell ⟨EB, 2, none⟩ (.int .i64 (pgi : Int))).setCell ⟨EB, 0, none⟩ (.string ky)).drew).cell? ⟨EB, 1, none⟩ = some ((.string noB)) := by
          show ((W1.setCell ⟨EB, 2, none⟩ (.int .i64 (pgi : Int))).setCell ⟨EB, 0, none⟩ (.string ky)).cell? ⟨EB, 1, none⟩ = _
          rw [World.cell?_setCell_other _ _ _ _ (by simp), World.cell?_setCell_other _ _ _ _ (by simp)]
          exact e1
        have y2 : (((W1.setCell ⟨EB, 2, none⟩ (.int .i64 (pgi : Int))).setCell ⟨EB, 0, none⟩ (.string ky)).drew).cell? ⟨EB, 2, none⟩ = some (.int .i64 (pgi : Int)) := by
          show ((W1.setCell ⟨EB, 2, none⟩ (.int .i64 (pgi : Int))).setCell ⟨EB, 0, none⟩ (.string ky)).cell? ⟨EB, 2, none⟩ = _
          rw [World.cell?_setCell_other _ _ _ _ (by simp), World.cell?_setCell_same _ _ _ e2]
        generalize ((W1.setCell ⟨EB, 2, none⟩ (.int .i64 (pgi : Int))).setCell ⟨EB, 0, none⟩ (.string ky)).drew = W2 at *
        have hvn : ∀ b, v.ownBlock = some b → ¬ b = EB := fun b hb e => by
          have := ownBlock_lt HO.out b hb
          omega
        have HO2 := Lib.hid (HO.out.keepX hgx hvn)
        have HG2 : Hid (Gr w W2) := Lib.hid (hgx.gr HG.out fun b hb => by rw [hb, ← hEB]; exact HG.out.size)
        have n0 := hgx.keeps hEN.symm k0
        have n1 := hgx.keeps hEN.symm k1
        have n2 := hgx.keeps hEN.symm k2
        have nf : ∀ o, W2.frozen? ⟨NB, o, none⟩ = false := fun o => (hgx.frozen o hNl hEN.symm).trans (kf o)
        have hRl : RB < wr.heap.size := by omega
        have x0 := hgx.keeps hER.symm r0
        have x1 := hgx.keeps hER.symm r1
        have x2 := hgx.keeps hER.symm r2
        have xf : ∀ o, W2.frozen? ⟨RB, o, none⟩ = false := fun o => (hgx.frozen o hRl hER.symm).trans (rf o)
        have hN2 : NB < W2.heap.size := by omega
        have hR2 : RB < W2.heap.size := by omega
        clear e0 e1 e2 ef m1 k0 k1 k2 kf r0 r1 r2 rf hgx HO HG HW1 t0 t1 t2 f1 f3
        have m2 := ((Gr.refl W2).alloc (.cells #[.string ky, Value.string noB, .int .i64 (pgi : Int)] 72)).keeps n2
        go_wp2_with (at_builtin; (refine append_ent (a0 := w) (w := W2) rfl _ _ rfl v (l.take i) ⟨ky, noB, pgi⟩ rfl HO2.out _ rfl rfl hll HG2.out ?_); intro v3 w3 ho3 hg3 hm3; (have p2 := hm3.keeps HN1.out n2); (have pf : ∀ o, w3.frozen? ⟨NB, o, none⟩ = false := fun o => (World.frozen?_of_block (hm3.2 NB hN2 HN1.out).2).trans (nf o)); (obtain ⟨ao3, c3, rfl⟩ := ho3.form); rw [HL3.out] at ho3 hm3 ⊢; (have HO3 := Lib.hid ho3); clear ho3)
        have p0 := hm3.keeps HN1.out n0
        have p1 := hm3.keeps HN1.out n1
        have s0 := hm3.keeps HN2.out x0
        have s1 := hm3.keeps HN2.out x1
        have s2 := hm3.keeps HN2.out x2
        have sf : ∀ o, w3.frozen? ⟨RB, o, none⟩ = false := fun o => (World.frozen?_of_block (hm3.2 RB hR2 HN2.out).2).trans (xf o)
        have hne1 : (⟨NB, 0, none⟩ : Addr) ≠ ⟨NB, 2, none⟩ := by simp
        have hne2 : (⟨NB, 1, none⟩ : Addr) ≠ ⟨NB, 2, none⟩ := by simp
        have hne3 : ∀ o, (⟨RB, o, none⟩ : Addr) ≠ ⟨NB, 2, none⟩ := fun o e => by
          have := congrArg Addr.block e
          simp at this
          omega
        have hgs : GrX (fun b => b = NB) w3 (w3.setCell ⟨NB, 2, none⟩ (.slice ao3 (i + 1) c3)) := GrX.setCell (S := fun b => b = NB) (p := ⟨NB, 2, none⟩) w3 _ rfl
        have hO4 : OwnE w (w3.setCell ⟨NB, 2, none⟩ (.slice ao3 (i + 1) c3)) (.slice ao3 (i + 1) c3) (l.take i ++ [(⟨ky, noB, pgi⟩ : En)]) := HO3.out.keepX hgs fun b hb e => (hm3.2 NB hN2 HN1.out).1 (by rw [hb, e])
        have hRNe : RB ≠ NB := by omega
        have hNw : w.heap.size ≤ NB := by have := HS.out; omega
        have u0 : (w3.setCell ⟨NB, 2, none⟩ (.slice ao3 (i + 1) c3)).cell? ⟨NB, 0, none⟩ = some (.int .i64 (p : Int)) := by rw [World.cell?_setCell_other _ _ _ _ (by simp)]; exact p0
        have u1 : (w3.setCell ⟨NB, 2, none⟩ (.slice ao3 (i + 1) c3)).cell? ⟨NB, 1, none⟩ = some (.bool false) := by rw [World.cell?_setCell_other _ _ _ _ (by simp)]; exact p1
        have u2 : (w3.setCell ⟨NB, 2, none⟩ (.slice ao3 (i + 1) c3)).cell? ⟨NB, 2, none⟩ = some (.slice ao3 (i + 1) c3) := World.cell?_setCell_same _ _ _ p2
        have uf : ∀ o, (w3.setCell ⟨NB, 2, none⟩ (.slice ao3 (i + 1) c3)).frozen? ⟨NB, o, none⟩ = false := fun o => by rw [World.frozen?_setCell]; exact pf o
        have uz : ∀ o, (w3.setCell ⟨NB, 2, none⟩ (.slice ao3 (i + 1) c3)).frozen? ⟨RB, o, none⟩ = false := fun o => by rw [World.frozen?_setCell]; exact sf o
        have v0 := hgs.keeps hRNe s0
        have v1 := hgs.keeps hRNe s1
        have v2 := hgs.keeps hRNe s2
        have ug : Gr w (w3.setCell ⟨NB, 2, none⟩ (.slice ao3 (i + 1) c3)) := hg3.setCell hNw _
        have us : NB < (w3.setCell ⟨NB, 2, none⟩ (.slice ao3 (i + 1) c3)).heap.size := by
          have := hm3.1
          have := hgs.2.2.2.1
          omega
        have hl1 : i + 1 ≤ l.length := by omega
        have ut : (.string (T0.extract (3 + kz) (3 + kz + T1z)) : Value) = .string (leftE false l (i + 1)) := by rw [HF3.out, HT1.out]
        have hx1 := (hm3.2 NB hN2 HN1.out).1
        have hx2 := (hm3.2 RB hR2 HN2.out).1
        have hO5 : OwnE w (w3.setCell ⟨NB, 2, none⟩ (.slice ao3 (i + 1) c3)) (.slice ao3 (i + 1) c3) (l.take (i + 1)) := by
          rw [HTE.out]
          exact hO4
        exact ⟨⟨i + 1, .slice ao3 (i + 1) c3, hl1, by go_num, ut, ⟨u0, u1, u2, uf⟩, ⟨⟨v0, v1, v2⟩, uz⟩, us, ug, hO5, hx1, hx2⟩, by simp [RowKit.intOf]; omega⟩
      · have hii : i = l.length := by omega
        subst hii
        rw [List.take_length] at HO
        obtain ⟨ao, ca, rfl⟩ := HO.out.form
        have hO3 : OwnE w (((wr.setCell ⟨RB, 0, none⟩ (.int .i64 (p : Int))).setCell ⟨RB, 1, none⟩ (.bool false)).setCell ⟨RB, 2, none⟩ (.slice ao l.length ca)) (.slice ao l.length ca) l := HO.out.keepX (((GrX.setCell (S := fun b => b = RB) (p := ⟨RB, 0, none⟩) wr _ rfl).trans (GrX.setCell (S := fun b => b = RB) (p := ⟨RB, 1, none⟩) _ _ rfl)).trans (GrX.setCell (S := fun b => b = RB) (p := ⟨RB, 2, none⟩) _ _ rfl)) fun b hb e => HN2.out (by rw [hb, e])
        have hRw : w.heap.size ≤ RB := Nat.le_of_eq HS.out
        have hG3 : Gr w (((wr.setCell ⟨RB, 0, none⟩ (.int .i64 (p : Int))).setCell ⟨RB, 1, none⟩ (.bool false)).setCell ⟨RB, 2, none⟩ (.slice ao l.length ca)) := ((HG.out.setCell hRw _).setCell hRw _).setCell hRw _
        have w0 : (((wr.setCell ⟨RB, 0, none⟩ (.int .i64 (p : Int))).setCell ⟨RB, 1, none⟩ (.bool false)).setCell ⟨RB, 2, none⟩ (.slice ao l.length ca)).cell? ⟨RB, 0, none⟩ = some (.int .i64 (p : Int)) := by
          rw [World.cell?_setCell_other _ _ _ _ (by simp), World.cell?_setCell_other _ _ _ _ (by simp), World.cell?_setCell_same _ _ _ r0]
        have w1 : (((wr.setCell ⟨RB, 0, none⟩ (.int .i64 (p : Int))).setCell ⟨RB, 1, none⟩ (.bool false)).setCell ⟨RB, 2, none⟩ (.slice ao l.length ca)).cell? ⟨RB, 1, none⟩ = some (.bool false) := by
          rw [World.cell?_setCell_other _ _ _ _ (by simp), World.cell?_setCell_same _ _ _ ((World.cell?_setCell_other _ _ _ _ (by simp)).trans r1)]
        have w2 : (((wr.setCell ⟨RB, 0, none⟩ (.int .i64 (p : Int))).setCell ⟨RB, 1, none⟩ (.bool false)).setCell ⟨RB, 2, none⟩ (.slice ao l.length ca)).cell? ⟨RB, 2, none⟩ = some (.slice ao l.length ca) := by
          rw [World.cell?_setCell_same _ _ _ ((World.cell?_setCell_other _ _ _ _ (by simp)).trans ((World.cell?_setCell_other _ _ _ _ (by simp)).trans r2))]
        have HO3 := Lib.hid hO3
        have HG3 := Lib.hid hG3
        have HW0 := Lib.hid w0
        have HW1 := Lib.hid w1
        have HW2 := Lib.hid w2
        clear hO3 hG3 w0 w1 w2
        go_wp2_with fail
        have w0 := HW0.out
        have w1 := HW1.out
        have w2 := HW2.out
        generalize (((wr.setCell ⟨RB, 0, none⟩ (.int .i64 (p : Int))).setCell ⟨RB, 1, none⟩ (.bool false)).setCell ⟨RB, 2, none⟩ (.slice ao l.length ca)) = W9 at *
        refine bodyPost_ret (v := .tuple #[nodeV p false (.slice ao l.length ca), .nilIface]) (by simp [results, Try.results30, go_sem, nodeV, w0, w1, w2]) rfl ⟨_, rfl, HO3.out, HG3.out⟩
end
end Go.Proofs.Ytmjkalpjciddbaa
