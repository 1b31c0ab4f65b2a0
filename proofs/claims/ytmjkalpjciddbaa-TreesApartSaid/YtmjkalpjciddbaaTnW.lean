/-
  (*Tree).join where two pages are read.
-/
import Derived.Test.YtmjkalpjciddbaaMg14
import Derived.Deep.DeepCutAuto
namespace Go.Proofs.Ytmjkalpjciddbaa
open Go Go.RowKit

/-- Two pages side by side as one, if they are not too much. -/
def joinE (lc : Bool) (c : Ch) (nl : List En) (i : Nat) (pa pb2 : Nat) (ea eb : List En) (key : ByteArray) : Ch × List En :=
  if 1024 < bytesE lc (meetE lc ea key eb) then (c, nl) else ((c.write (pa : Nat) (pageE lc (meetE lc ea key eb))).free (pb2 : Nat), nl.eraseIdx (i + 1))
theorem reKeyE_len (k : ByteArray) (l : List En) : (reKeyE k l).length = l.length := by
  cases l <;> rfl
theorem reKeyE_ok {leaf : Bool} {k : ByteArray} (hk : k.size ≤ 60) {l : List En} (h : ∀ e ∈ l, e.ok leaf) : ∀ e ∈ reKeyE k l, e.ok leaf := by
  cases l with
  | nil => exact fun e he => by cases he
  | cons x r =>
    intro e he
    rcases List.mem_cons.1 he with rfl | he
    · have := h x List.mem_cons_self
      exact ⟨hk, this.item, this.page, this.isL, this.node⟩
    · exact h e (List.mem_cons_of_mem _ he)
theorem ownE_key {a0 w : World} {l : List En} {B cap : Nat} (h : OwnE a0 w (.slice (some ⟨B, 0, none⟩) l.length cap) l) (hl : l ≠ []) (k : ByteArray) : OwnE a0 (w.setCell ⟨B, 0, none⟩ (.string k)) (.slice (some ⟨B, 0, none⟩) l.length cap) (reKeyE k l) := by
  rcases h.row.2 with ⟨_, e2⟩ | ⟨B', cap', cur, hv, hB, hh, hnc, hc, hsz, ht⟩
  · exact absurd (List.eq_nil_of_length_eq_zero e2) hl
  obtain ⟨rfl, rfl⟩ : B = B' ∧ cap = cap' := by
    injection hv with e1 e2 e3
    injection e1 with e1
    injection e1 with e1
    exact ⟨e1, e3⟩
  have hlt : B < w.heap.size := (Array.getElem?_eq_some_iff.1 hh).1
  rw [setCell_eq_setRow w B 0 cur _ _ (.string k) hh]
  refine row_put hB hlt hc hnc (reKeyE_len k l) (by rw [Array.size_setIfInBounds]; exact hsz) ?_ hh
  rw [Array.toList_setIfInBounds, List.take_set, ht]
  cases l with
  | nil => exact absurd rfl hl
  | cons e r => rfl
theorem GrX.own {S T : Nat → Prop} {w w1 w2 : World} (h : GrX S w w1) (k : GrX T w1 w2) (ht : ∀ j, T j → S j ∨ w.heap.size ≤ j) : GrX S w w2 :=
  ⟨k.1.trans h.1, k.2.1.trans h.2.1, k.2.2.1.trans h.2.2.1, Nat.le_trans h.2.2.2.1 k.2.2.2.1, fun j hj hs => (k.block (Nat.lt_of_lt_of_le hj h.2.2.2.1) (fun e => (ht j e).elim hs fun e => by omega)).trans (h.block hj hs)⟩
theorem three_gr (w5 : World) (RB : Nat) (v0 v1 v2 : Value) : GrX (fun b => b = RB) w5 (((w5.setCell ⟨RB, 0, none⟩ v0).setCell ⟨RB, 1, none⟩ v1).setCell ⟨RB, 2, none⟩ v2) :=
  ((GrX.setCell (S := fun b => b = RB) (p := ⟨RB, 0, none⟩) w5 _ rfl).trans (GrX.setCell (S := fun b => b = RB) (p := ⟨RB, 1, none⟩) _ _ rfl)).trans (GrX.setCell (S := fun b => b = RB) (p := ⟨RB, 2, none⟩) _ _ rfl)
section
variable {w : World} {PB DB M : Nat} {c : Ch} {sv : Head} {t : Int} {d : Dk}
set_option maxRecDepth 100000 in
set_option maxHeartbeats 4000000 in
theorem join_go (h : PgT w PB DB M c sv t d) {TP root : Nat} (ht : TreeAt w TP PB root) (hTn : TP ≠ PB ∧ TP ≠ DB ∧ TP ≠ M) {p : Nat} {nl : List En} {s : Value} {a0 : World} (ho : OwnE a0 w s nl) (ha : a0.heap.size ≤ w.heap.size) (haP : PB < a0.heap.size ∧ DB < a0.heap.size ∧ M < a0.heap.size ∧ TP < a0.heap.size)
    {k : Nat} {lc : Bool} {pb : Nat} {be : List En} {sb : Value} (hbe : IsE w sb be) (hbok : ∀ e ∈ be, e.ok lc) (hbl : be.length ≤ 600) (hc : ¬ 341 < bytesE lc be) {i : Nat} (hi0 : i < nl.length) (hik : i = k - 1) (hkl : k ≤ 10000) (hi1 : i + 1 < nl.length) (hnl : nl.length ≤ 10000)
    {pa pb2 : Nat} {ea eb : List En} {key : ByteArray} (hpa : (nl[i]'hi0).page = pa) (hpb : (nl[i + 1]'hi1).page = pb2) (hkey : (nl[i + 1]'hi1).key = key)
    (hna : HasN c d.pg lc pa ea) (hea : (∀ e ∈ ea, e.ok lc) ∧ bytesE lc ea ≤ 1024) (hnb : HasN c d.pg lc pb2 eb) (heb : (∀ e ∈ eb, e.ok lc) ∧ bytesE lc eb ≤ 1024) (hbn : eb ≠ []) (hkz : key.size ≤ 60) (hpp : pa ≠ pb2) :
    Calls Try.prog 66 #[.pointer (some ⟨TP, 0, none⟩), nodeV p false s, .int .i64 (k : Int), nodeV pb lc sb] w fun e w' => ∃ s', e = .returned (.tuple #[nodeV p false s', .nilIface]) ∧ OwnE a0 w' s' (joinE lc c nl i pa pb2 ea eb key).2 ∧ PgT w' PB DB M (joinE lc c nl i pa pb2 ea eb key).1 sv t d ∧ (∀ b, s'.ownBlock = some b → s.ownBlock = some b ∨ w.heap.size ≤ b) ∧ GrX (fun b => b = PB ∨ b = DB ∨ b = M ∨ s.ownBlock = some b) w w' := by
  rcases ho.at' with ⟨_, rfl⟩ | ⟨SB, cap, rfl, q2, q3, q4, q5, q6⟩
  · simp at hi1
  have hby := fun W (g : Gr w W) => bytes_n pb lc sb be W (hbe.gr g) hbok (by omega)
  obtain ⟨bo, cb, rfl⟩ := hbe.form
  unfold nodeV at *
  have HBY := Lib.hid hby
  clear hby
  have hJE : joinE lc c nl i pa pb2 ea eb key = if 1024 < bytesE lc (ea ++ (if lc then eb else reKeyE key eb)) then (c, nl) else ((c.write (pa : Nat) (pageE lc (ea ++ (if lc then eb else reKeyE key eb)))).free (pb2 : Nat), nl.eraseIdx (i + 1)) := rfl
  obtain ⟨JR, hJR⟩ : ∃ JR, joinE lc c nl i pa pb2 ea eb key = JR := ⟨_, rfl⟩
  rw [hJR]
  rw [hJR] at hJE
  have HJE := Lib.hid hJE
  clear hJE
  go_enter Try.func66, Try.ntmps66
  go_wp2_with fail
  have hj := Jn.made w p (.slice (some ⟨SB, 0, none⟩) nl.length cap) (.int .i64 (pb : Int)) (.bool lc) (.slice bo be.length cb) rfl
  generalize ((w.alloc (.cells #[.int .i64 (p : Int), .bool false, .slice (some ⟨SB, 0, none⟩) nl.length cap] 84)).alloc (.cells #[.int .i64 (pb : Int), .bool lc, .slice bo be.length cb] 84)).alloc (.cells #[.int .i64 0, .bool false, .slice none 0 0] 84) = W3 at *
  generalize hRB : w.heap.size + 1 + 1 = RB at *
  generalize hNB : w.heap.size = NB at *
  refine (HBY.out _ hj.g).mono ?_
  rintro e w4 ⟨rfl, hg4⟩
  have n0 := hg4.keeps hj.n0
  have n1 := hg4.keeps hj.n1
  have n2 := hg4.keeps hj.n2
  have r0 := hg4.keeps hj.r0
  have r1 := hg4.keeps hj.r1
  have r2 := hg4.keeps hj.r2
  have rf : ∀ o, w4.frozen? ⟨RB, o, none⟩ = false := fun o => (hg4.frozen o hj.rlt).trans (hj.rf o)
  have HJ := Lib.hid hj
  have HNF4 : Hid (∀ o, w4.frozen? ⟨NB, o, none⟩ = false) := Lib.hid (fun o => (hg4.frozen o (lt_of_cell hj.n0)).trans (hj.nf o))
  have HN4 := Lib.hid (And.intro n0 (And.intro n1 n2))
  have HR4 := Lib.hid (And.intro r0 (And.intro r1 (And.intro r2 rf)))
  have HG := Lib.hid (hj.g.trans hg4)
  have HW34 := Lib.hid hg4.size
  clear hj
  have h1i : ¬ (341 : Int) < (bytesE lc be : Int) := by omega
  have h2i : ¬ (nl.length : Int) < 2 := by omega
  have hmx : max ((k : Int) - 1) 0 = (i : Int) := by omega
  have HIK := Lib.hid hik
  clear hik
  obtain ⟨_, _, x2⟩ := (q5.gr HG.out) i hi0
  obtain ⟨z0, _, z2⟩ := (q5.gr HG.out) (i + 1) hi1
  rw [Nat.zero_add, hpa] at x2
  rw [Nat.zero_add, hkey] at z0
  rw [Nat.zero_add, hpb] at z2
  have hil : (i : Int) < (nl.length : Int) := by omega
  have hil1 : (i : Int) + 1 < (nl.length : Int) := by omega
  have hin : ((i : Int) + 1).toNat = i + 1 := by omega
  have hra := fun W (g : Gr w W) => read_n (h.gr g).s (ht.gr g) hna hea.1 hea.2
  have hrb := fun W (g : Gr w W) => read_n (h.gr g).s (ht.gr g) hnb heb.1 heb.2
  unfold nodeV at hra hrb
  have HRA := Lib.hid hra
  have HRB := Lib.hid hrb
  clear hra hrb
  go_wp2_with (go_at_call_of 30 (Value.int .i64 (pa : Int)); refine (HRA.out _ HG.out).mono ?_; rintro e w5 ⟨s1, rfl, ho5, hg5⟩; obtain ⟨a5, c5, rfl⟩ := ho5.form; (have gA : Gr w5 (w5.alloc (.cells #[.int .i64 (pa : Int), .bool lc, .slice a5 ea.length c5] 84)) := (Gr.refl w5).alloc _); (have n0 := gA.keeps (hg5.keeps n0)); (have n1 := gA.keeps (hg5.keeps n1)); (have n2 := gA.keeps (hg5.keeps n2)); (have z0 := gA.keeps (hg5.keeps z0)); (have z2 := gA.keeps (hg5.keeps z2)))
  obtain ⟨AB, hAB⟩ : ∃ AB, w5.heap.size = AB := ⟨_, rfl⟩
  have k0 : (w5.alloc (.cells #[.int .i64 (pa : Int), .bool lc, .slice a5 ea.length c5] 84)).cell? ⟨w5.heap.size, 0, none⟩ = some (.int .i64 (pa : Int)) := by rw [World.cell?_alloc_new]; rfl
  have k1 : (w5.alloc (.cells #[.int .i64 (pa : Int), .bool lc, .slice a5 ea.length c5] 84)).cell? ⟨w5.heap.size, 1, none⟩ = some (.bool lc) := by rw [World.cell?_alloc_new]; rfl
  have k2 : (w5.alloc (.cells #[.int .i64 (pa : Int), .bool lc, .slice a5 ea.length c5] 84)).cell? ⟨w5.heap.size, 2, none⟩ = some (.slice a5 ea.length c5) := by rw [World.cell?_alloc_new]; rfl
  have kf : ∀ o, (w5.alloc (.cells #[.int .i64 (pa : Int), .bool lc, .slice a5 ea.length c5] 84)).frozen? ⟨w5.heap.size, o, none⟩ = false := fun o => by simp
  have gw6 := (HG.out.trans hg5).trans gA
  rw [hAB] at k0 k1 k2 kf ⊢
  have ho6 := ho5.gr gA
  generalize w5.alloc (.cells #[.int .i64 (pa : Int), .bool lc, .slice a5 ea.length c5] 84) = w6 at *
  refine (HRB.out _ gw6).mono ?_
  rintro e w7 ⟨s2, rfl, ho7, hg7⟩
  obtain ⟨a7, c7, rfl⟩ := ho7.form
  have gB : Gr w7 (w7.alloc (.cells #[.int .i64 (pb2 : Int), .bool lc, .slice a7 eb.length c7] 84)) := (Gr.refl w7).alloc _
  have g78 := hg7.trans gB
  have n0 := g78.keeps n0
  have n1 := g78.keeps n1
  have n2 := g78.keeps n2
  have z0 := g78.keeps z0
  have hAl := lt_of_cell k0
  have k0 := g78.keeps k0
  have k1 := g78.keeps k1
  have k2 := g78.keeps k2
  have hA6 : Hid (AB < w6.heap.size) := Lib.hid (by assumption)
  have hAlt := lt_of_cell k0
  have gw8 := gw6.trans g78
  have m0 : (w7.alloc (.cells #[.int .i64 (pb2 : Int), .bool lc, .slice a7 eb.length c7] 84)).cell? ⟨w7.heap.size, 0, none⟩ = some (.int .i64 (pb2 : Int)) := by rw [World.cell?_alloc_new]; rfl
  have m1 : (w7.alloc (.cells #[.int .i64 (pb2 : Int), .bool lc, .slice a7 eb.length c7] 84)).cell? ⟨w7.heap.size, 1, none⟩ = some (.bool lc) := by rw [World.cell?_alloc_new]; rfl
  have m2 : (w7.alloc (.cells #[.int .i64 (pb2 : Int), .bool lc, .slice a7 eb.length c7] 84)).cell? ⟨w7.heap.size, 2, none⟩ = some (.slice a7 eb.length c7) := by rw [World.cell?_alloc_new]; rfl
  have ho8 := ho7.gr gB
  have ho6 := ho6.gr g78
  rcases ho8.at' with ⟨_, e9⟩ | ⟨B2, cap2, e9, b2, b3, b4, b5, b6⟩
  · exact absurd e9 hbn
  obtain ⟨rfl, rfl⟩ : a7 = some ⟨B2, 0, none⟩ ∧ c7 = cap2 := by
    injection e9 with e1 e2 e3
    exact ⟨e1, e3⟩
  have hb0 : 0 < eb.length := List.length_pos_iff.2 hbn
  have hb0i : (0 : Int) < (eb.length : Int) := by omega
  have y0 := (b5 0 hb0).1
  have y0 : (w7.alloc (.cells #[.int .i64 (pb2 : Int), .bool lc, .slice (some ⟨B2, 0, none⟩) eb.length c7] 84)).cell? ⟨B2, 0, none⟩ = some (.string (eb[0]'hb0).key) := y0
  have yf := b6 0
  go_upto_if 61 with (fail)
  obtain ⟨BB, hBB⟩ : ∃ BB, w7.heap.size = BB := ⟨_, rfl⟩
  rw [hBB] at m0 m1 m2 ⊢
  generalize w7.alloc (.cells #[.int .i64 (pb2 : Int), .bool lc, .slice (some ⟨B2, 0, none⟩) eb.length c7] 84) = w8 at *
  generalize (eb[0]'hb0).key = ky0 at *
  go_cut [13] (fun s13 wx => s13 = .pointer (some ⟨BB, 0, none⟩) ∧ OwnE w6 wx (.slice (some ⟨B2, 0, none⟩) eb.length c7) (if lc then eb else reKeyE key eb) ∧ GrX (fun b => b = B2) w8 wx)
  case first =>
    have hwr : IntKind.i64.wrap ((i : Int) + 1) = (i : Int) + 1 := IntWalk.i64_in _ (by omega)
    have hok9 := Lib.hid (ownE_key ho8 hbn key)
    cases lc with
    | true =>
      go_wp2_with fail
      go_meet
      exact ⟨rfl, by simpa using ho8, GrX.refl _ _⟩
    | false =>
      go_wp2_with fail
      go_region
      all_goals
        go_wp2_with fail
        go_meet
        exact ⟨rfl, by simpa using hok9.out.gr (Gr.refl _).drew, (GrX.setCell (S := fun b => b = B2) (p := ⟨B2, 0, none⟩) w8 _ rfl).trans (GrX.drew _)⟩
  case rest =>
    obtain ⟨rfl, hob, hgX⟩ := hcut
    have hEL : (if lc then eb else reKeyE key eb).length = eb.length := by
      cases lc
      · exact reKeyE_len key eb
      · rfl
    obtain ⟨eb', hebq⟩ : ∃ eb', (if lc then eb else reKeyE key eb) = eb' := ⟨_, rfl⟩
    rw [hebq] at hob hEL HJE
    have hB2 : ∀ j, j < w6.heap.size → ¬ j = B2 := fun j hj e => by omega
    have hNBl : NB < w6.heap.size := by
      have := gw6.size
      have := HJ.out.rlt
      have := HJ.out.rb
      have := HG.out.size
      have h9 := hg5.size
      have h8 := gA.size
      have h7 := HW34.out
      omega
    have n0 := hgX.keeps (hB2 NB hNBl) n0
    have n1 := hgX.keeps (hB2 NB hNBl) n1
    have n2 := hgX.keeps (hB2 NB hNBl) n2
    have hABl : AB < w6.heap.size := hA6.out
    have k0 := hgX.keeps (hB2 AB hABl) k0
    have k1 := hgX.keeps (hB2 AB hABl) k1
    have k2 := hgX.keeps (hB2 AB hABl) k2
    have kfz : ∀ o, wc.frozen? ⟨AB, o, none⟩ = false := fun o => by
      rw [hgX.frozen o (Nat.lt_of_lt_of_le hABl g78.size) (hB2 AB hABl), g78.frozen o hABl]
      exact kf o
    have GW4 : Gr w4 wc := hgX.gr ((hg5.trans gA).trans g78) (fun j e => by
      have := hg5.size
      have := gA.size
      omega)
    have hoa := ho6.keepX hgX (fun b hb e => by
      have := ownBlock_lt ho5 b hb
      have := gA.size
      omega)
    have HOA := Lib.hid hoa
    have HGW4 := Lib.hid GW4
    have HIB := Lib.hid hob.isE
    have hll2 : ea.length + eb'.length ≤ 2000 := by
      have h1 := sumE_len lc ea
      have h2 := sumE_len lc eb
      have h3 := hea.2
      have h4 := heb.2
      unfold bytesE at h3 h4
      omega
    have hll : ea.length + eb'.length ≤ 1000000 := by omega
    have hAo : (Value.slice a5 ea.length c5).ownBlock ≠ some AB := fun e => by
      have := ownBlock_lt ho5 _ e
      omega
    have hEL2 : eb.length = eb'.length := hEL.symm
    have HEL := Lib.hid hEL2
    rw [HEL.out] at m2
    have m2 := m2
    have HIB2 : Hid (IsE wc (.slice (some ⟨B2, 0, none⟩) eb'.length c7) eb') := Lib.hid (by rw [← hEL2]; exact HIB.out)
    clear hEL hEL2
    have hBBl : BB ≠ B2 := fun e => by
      have := ownBlock_lt ho7 B2 rfl
      omega
    have m2 := hgX.keeps hBBl m2
    have hABc := lt_of_cell k0
    go_wp2_with (at_builtin; (refine append_ents (a0 := w4) (w := wc) rfl _ _ rfl (.slice a5 ea.length c5) ea rfl HOA.out (.slice (some ⟨B2, 0, none⟩) eb'.length c7) eb' rfl HIB2.out hll HGW4.out ?_); intro v9 w9 ho9 hg9 hx9 hv9; (have k0 := hx9.keeps hAo k0); (have k1 := hx9.keeps hAo k1); (have k2 := hx9.keeps hAo k2); (have kz : w9.frozen? ⟨AB, 2, none⟩ = false := (hx9.frozen 2 hABc hAo).trans (kfz 2)); (obtain ⟨a9, c9, rfl⟩ := ho9.form))
    have hAw : w4.heap.size ≤ AB := by
      have := hg5.size
      omega
    have G10 : Gr w4 (w9.setCell ⟨AB, 2, none⟩ (.slice a9 (ea.length + eb'.length) c9)) := hg9.setCell hAw _
    rw [List.length_append] at ho9 hv9
    have gS : GrX (fun b => b = AB) w9 (w9.setCell ⟨AB, 2, none⟩ (.slice a9 (ea.length + eb'.length) c9)) := GrX.setCell (S := fun b => b = AB) (p := ⟨AB, 2, none⟩) w9 _ rfl
    have ho10 := ho9.keepX gS (fun b hb e => by
      rcases hv9 with h1 | h1
      · exact hAo (by rw [← h1, hb, e])
      · rw [h1] at hb
        have := Option.some.inj hb
        omega)
    have hokM : ∀ e ∈ ea ++ eb', e.ok lc := by
      intro e he
      rcases List.mem_append.1 he with he | he
      · exact hea.1 e he
      · rw [← hebq] at he
        cases lc
        · exact reKeyE_ok hkz heb.1 e he
        · exact heb.1 e he
    have hBA : BB ≠ AB := by
      have := hg7.size
      have := hA6.out
      omega
    have hBo : ¬ ((Value.slice a5 ea.length c5).ownBlock = some BB) := fun e => by
      have := ownBlock_lt ho5 _ e
      have := hg7.size
      have := gA.size
      omega
    have m0 := gS.keeps hBA (hx9.keeps hBo (hgX.keeps hBBl m0))
    have k0' : (w9.setCell ⟨AB, 2, none⟩ (.slice a9 (ea.length + eb'.length) c9)).cell? ⟨AB, 0, none⟩ = some (.int .i64 (pa : Int)) := by
      rw [World.cell?_setCell_other _ _ _ _ (by simp)]
      exact k0
    have k1' : (w9.setCell ⟨AB, 2, none⟩ (.slice a9 (ea.length + eb'.length) c9)).cell? ⟨AB, 1, none⟩ = some (.bool lc) := by
      rw [World.cell?_setCell_other _ _ _ _ (by simp)]
      exact k1
    have k2' := World.cell?_setCell_same w9 ⟨AB, 2, none⟩ (.slice a9 (ea.length + eb'.length) c9) k2
    generalize w9.setCell ⟨AB, 2, none⟩ (.slice a9 (ea.length + eb'.length) c9) = w10 at *
    have hbm := bytes_n pa lc _ (ea ++ eb') w10 ho10.isE hokM (by rw [List.length_append]; omega)
    unfold nodeV at hbm
    obtain ⟨Z, hZ⟩ : ∃ Z, bytesE lc (ea ++ eb') = Z := ⟨_, rfl⟩
    rw [hZ] at HJE hbm
    refine hbm.mono ?_
    rintro e w11 ⟨rfl, hg11⟩
    have G11 := G10.trans hg11
    have n0 := G11.keeps HN4.out.1
    have n1 := G11.keeps HN4.out.2.1
    have n2 := G11.keeps HN4.out.2.2
    have r0 := G11.keeps HR4.out.1
    have r1 := G11.keeps HR4.out.2.1
    have r2 := G11.keeps HR4.out.2.2.1
    have rf : ∀ o, w11.frozen? ⟨RB, o, none⟩ = false := fun o => (G11.frozen o (lt_of_cell HR4.out.1)).trans (HR4.out.2.2.2 o)
    have GW := HG.out.trans G11
    have hRw : w.heap.size ≤ RB := by
      have := HJ.out.rb
      omega
    have hSR : ∀ b, (Value.slice (some ⟨SB, 0, none⟩) nl.length cap).ownBlock = some b → ¬ b = RB := fun b hb e => by
      have := ownBlock_lt ho b hb
      omega
    have how := ho.gr GW
    have HGW := Lib.hid GW
    have HHOW := Lib.hid how
    by_cases hZ1 : 1024 < Z
    · have hZi : (1024 : Int) < (Z : Int) := by omega
      rw [if_pos hZ1] at HJE
      have y := Lib.hid (three_set (v0 := .int .i64 (p : Int)) (v1 := .bool false) (v2 := .slice (some ⟨SB, 0, none⟩) nl.length cap) r0 r1 r2)
      have gR : GrX (fun b => b = RB) w11 (((w11.setCell ⟨RB, 0, none⟩ (.int .i64 (p : Int))).setCell ⟨RB, 1, none⟩ (.bool false)).setCell ⟨RB, 2, none⟩ (.slice (some ⟨SB, 0, none⟩) nl.length cap)) := ((GrX.setCell (S := fun b => b = RB) (p := ⟨RB, 0, none⟩) w11 _ rfl).trans (GrX.setCell (S := fun b => b = RB) (p := ⟨RB, 1, none⟩) _ _ rfl)).trans (GrX.setCell (S := fun b => b = RB) (p := ⟨RB, 2, none⟩) _ _ rfl)
      have GF := Lib.hid (gR.gr GW (fun j e => by omega))
      have OF := Lib.hid (how.keepX gR hSR)
      clear gR
      go_wp2_with fail
      obtain ⟨y0, y1, y2⟩ := y.out
      have gF := GF.out
      have oF := OF.out
      generalize (((w11.setCell ⟨RB, 0, none⟩ (.int .i64 (p : Int))).setCell ⟨RB, 1, none⟩ (.bool false)).setCell ⟨RB, 2, none⟩ (.slice (some ⟨SB, 0, none⟩) nl.length cap)) = w12 at *
      refine bodyPost_ret (v := .tuple #[.agg #[.int .i64 (p : Int), .bool false, .slice (some ⟨SB, 0, none⟩) nl.length cap], .nilIface]) (by simp [results, Try.results66, go_sem, y0, y1, y2]) rfl ?_
      rw [HJE.out]
      exact ⟨_, rfl, oF, h.gr gF, fun b hb => .inl hb, GrX.of_gr gF⟩
    · have hZi : ¬ (1024 : Int) < (Z : Int) := by omega
      rw [if_neg hZ1] at HJE
      have m0 := hg11.keeps m0
      have l0 := hg11.keeps k0'
      have l1 := hg11.keeps k1'
      have l2 := hg11.keeps k2'
      have hwr := write_n (h.gr GW) (ht.gr GW) (ho10.isE.gr hg11) hokM (by omega) hna.1
      unfold nodeV at hwr
      have HWR := Lib.hid hwr
      clear hwr
      have hNB11 := lt_of_cell n0
      have hNP : NB ≠ PB ∧ NB ≠ DB ∧ NB ≠ M := by omega
      have hRP : RB ≠ PB ∧ RB ≠ DB ∧ RB ≠ M := by omega
      have hBP : BB ≠ PB ∧ BB ≠ DB ∧ BB ≠ M := by
        have := hg7.size
        have := gw6.size
        omega
      go_wp2_with (go_at_call 40; refine HWR.out.mono ?_; rintro e w12 ⟨rfl, hp12, hf12⟩; (have n0 := hf12.keeps hNP.1 hNP.2.1 hNP.2.2 n0); (have n1 := hf12.keeps hNP.1 hNP.2.1 hNP.2.2 n1); (have n2 := hf12.keeps hNP.1 hNP.2.1 hNP.2.2 n2))
      have how12 := how.keepX hf12.2 (fun b hb e => by
        have := ownBlock_ge ho b hb
        omega)
      have hdl := delete_o a0 w12 _ nl (i + 1) how12 hi1 (by have := GW.size; have := hf12.size; omega) hnl
      obtain ⟨R, hR⟩ : ∃ R, nl.eraseIdx (i + 1) = R := ⟨_, rfl⟩
      rw [hR] at hdl HJE
      clear hR
      have hc1 : ((i + 1 : Nat) : Int) = (i : Int) + 1 := by omega
      have hc2 : (i : Int) + 1 + 1 = (i : Int) + 2 := by omega
      rw [hc1, hc2] at hdl
      have HDL := Lib.hid hdl
      clear hdl hc1 hc2
      have hSN : ¬ ((Value.slice (some ⟨SB, 0, none⟩) nl.length cap).ownBlock = some NB) := fun e => by
        have := ownBlock_lt ho _ e
        have := HJ.out.nb
        omega
      have nfz : w12.frozen? ⟨NB, 2, none⟩ = false := by
        rw [hf12.2.frozen 2 hNB11 (fun e => e.elim hNP.1 fun e => e.elim hNP.2.1 hNP.2.2), G11.frozen 2 (lt_of_cell HN4.out.1)]
        exact HNF4.out 2
      have hNB12 := lt_of_cell n0
      go_wp2_with (go_at_call 65; refine HDL.out.mono ?_; rintro e w13 ⟨v13, rfl, ho13, hx13, hob13⟩; obtain ⟨a13, c13, rfl⟩ := ho13.form; (have n0 := hx13.keeps hSN n0); (have n1 := hx13.keeps hSN n1); (have n2 := hx13.keeps hSN n2); (have nz := (hx13.frozen 2 hNB12 hSN).trans nfz))
      have hSg : ∀ b, (Value.slice (some ⟨SB, 0, none⟩) nl.length cap).ownBlock = some b → a0.heap.size ≤ b := fun b hb => ownBlock_ge ho b hb
      have hSl : ∀ b, (Value.slice (some ⟨SB, 0, none⟩) nl.length cap).ownBlock = some b → b < w.heap.size := fun b hb => ownBlock_lt ho b hb
      have hSR2 : ¬ ((Value.slice (some ⟨SB, 0, none⟩) nl.length cap).ownBlock = some RB) := fun e => by
        have := hSl _ e
        omega
      have hBw : w.heap.size ≤ BB := by
        have := hg7.size
        have := gw6.size
        omega
      have hSB2 : ¬ ((Value.slice (some ⟨SB, 0, none⟩) nl.length cap).ownBlock = some BB) := fun e => by
        have := hSl _ e
        omega
      have hNw : NB = w.heap.size := HJ.out.nb
      have hRw2 : RB = w.heap.size + 1 + 1 := HJ.out.rb
      have hRN : RB ≠ NB := by omega
      have hBN : BB ≠ NB := by
        have := hg7.size
        omega
      have hRB11 := lt_of_cell r0
      have r0 := hx13.keeps hSR2 (hf12.keeps hRP.1 hRP.2.1 hRP.2.2 r0)
      have r1 := hx13.keeps hSR2 (hf12.keeps hRP.1 hRP.2.1 hRP.2.2 r1)
      have r2 := hx13.keeps hSR2 (hf12.keeps hRP.1 hRP.2.1 hRP.2.2 r2)
      have m0 := hx13.keeps hSB2 (hf12.keeps hBP.1 hBP.2.1 hBP.2.2 m0)
      have rf13 : ∀ o, w13.frozen? ⟨RB, o, none⟩ = false := fun o => by
        rw [hx13.frozen o (Nat.lt_of_lt_of_le hRB11 hf12.size) hSR2, hf12.2.frozen o hRB11 (fun e => e.elim hRP.1 fun e => e.elim hRP.2.1 hRP.2.2)]
        exact rf o
      have gS : GrX (fun b => b = NB) w13 (w13.setCell ⟨NB, 2, none⟩ (.slice a13 R.length c13)) := GrX.setCell (S := fun b => b = NB) (p := ⟨NB, 2, none⟩) w13 _ rfl
      have hoN : ∀ b, (Value.slice a13 R.length c13).ownBlock = some b → ¬ b = NB := fun b hb e => hSN (by rw [← hob13, hb, e])
      have hoR : ∀ b, (Value.slice a13 R.length c13).ownBlock = some b → ¬ b = RB := fun b hb e => hSR2 (by rw [← hob13, hb, e])
      have hoP : ∀ b, (Value.slice a13 R.length c13).ownBlock = some b → ¬ (b = PB ∨ b = DB ∨ b = M) := fun b hb e => by
        have := hSg b (by rw [← hob13]; exact hb)
        omega
      have ho14 := ho13.keepX gS hoN
      have hp14 := (hp12.keepX hx13 (fun e => by have := hSg _ e; omega) (fun e => by have := hSg _ e; omega) (fun e => by have := hSg _ e; omega)).keepX gS (fun e => hNP.1 e.symm) (fun e => hNP.2.1 e.symm) (fun e => hNP.2.2 e.symm)
      have ht14 := (((ht.gr GW).pg hf12 hTn.1 hTn.2.1 hTn.2.2).keepX hx13 (fun e => by have := hSg _ e; omega)).keepX gS (fun e => by omega)
      have F14 : GrX (fun b => b = PB ∨ b = DB ∨ b = M ∨ (Value.slice (some ⟨SB, 0, none⟩) nl.length cap).ownBlock = some b) w (w13.setCell ⟨NB, 2, none⟩ (.slice a13 R.length c13)) :=
        (((GrX.of_gr GW).own hf12.2 (fun j e => .inl (e.elim .inl fun e => e.elim (fun e => .inr (.inl e)) fun e => .inr (.inr (.inl e))))).own hx13 (fun j e => .inl (.inr (.inr (.inr e))))).own gS (fun j e => .inr (by omega))
      have r0 := gS.keeps hRN r0
      have r1 := gS.keeps hRN r1
      have r2 := gS.keeps hRN r2
      have m0 := gS.keeps hBN m0
      have n0' : (w13.setCell ⟨NB, 2, none⟩ (.slice a13 R.length c13)).cell? ⟨NB, 0, none⟩ = some (.int .i64 (p : Int)) := by
        rw [World.cell?_setCell_other _ _ _ _ (by simp)]
        exact n0
      have n1' : (w13.setCell ⟨NB, 2, none⟩ (.slice a13 R.length c13)).cell? ⟨NB, 1, none⟩ = some (.bool false) := by
        rw [World.cell?_setCell_other _ _ _ _ (by simp)]
        exact n1
      have n2' := World.cell?_setCell_same w13 ⟨NB, 2, none⟩ (.slice a13 R.length c13) n2
      have rfz : ∀ o, (w13.setCell ⟨NB, 2, none⟩ (.slice a13 R.length c13)).frozen? ⟨RB, o, none⟩ = false := fun o => by
        have h13 := hx13.2.2.2.1
        have h12 := hf12.size
        rw [gS.frozen o (by omega) hRN]
        exact rf13 o
      clear HDL hx13 gS ho13 rf13 n0 n1 n2
      generalize w13.setCell ⟨NB, 2, none⟩ (.slice a13 R.length c13) = w14 at *
      have tp := ht14.p
      have hbM : bytesE lc (ea ++ eb') ≤ 1024 := by omega
      have hin : InU (c.write (pa : Nat) (pageE lc (ea ++ eb'))) pb2 := (write_fr (pg := d.pg) h.f hna.1 (pageE_size hokM hbM)).1.inU hnb.1 (by simpa using fun e : pb2 = pa => hpp e.symm)
      have hfr := fun W (g : Gr w14 W) => free_t (hp14.gr g) hin
      have HFR := Lib.hid hfr
      have HF14 := Lib.hid F14
      have HO14 := Lib.hid ho14
      have hRw14 : RB < w14.heap.size := lt_of_cell r0
      have hRf : ∀ (w5 : World) (o : Nat), PgF PB DB M M w14 w5 → w5.frozen? ⟨RB, o, none⟩ = false := fun w5 o f5 => (f5.2.frozen o hRw14 (fun e => e.elim hRP.1 fun e => e.elim hRP.2.1 hRP.2.2)).trans (rfz o)
      have HRF := Lib.hid hRf
      clear hfr hRf F14 ho14 hp14 ht14 hNw hRw2 hbM hin hokM h1i h2i hmx hil hil1 hb0i hb0 hll hll2 hBA hSl hSg k0 k1 k2 kz l0 l1 l2 k0' k1' k2' m1 y0 z0 z2 x2 hJR hZ hZ1 hZi q2 q3 q5 q6 b2 b3 b5 b6 kf kfz
      generalize (c.write (pa : Nat) (pageE lc (ea ++ eb'))).free (pb2 : Nat) = CF at *
      go_region_with (go_at_call 31; refine (HFR.out _ ?_).mono ?_; (with_reducible exact (Gr.refl _).drew); rintro e w5 ⟨rfl, hp5, hf5⟩; (have hf5' := (PgF.of_gr PB DB M (Gr.refl w14).drew).trans hf5); (have r0 := hf5'.keeps hRP.1 hRP.2.1 hRP.2.2 r0); (have r1 := hf5'.keeps hRP.1 hRP.2.1 hRP.2.2 r1); (have r2 := hf5'.keeps hRP.1 hRP.2.1 hRP.2.2 r2); (have x0 := HRF.out _ 0 hf5'); (have x1 := HRF.out _ 1 hf5'); (have x2 := HRF.out _ 2 hf5'); (have q0 := hf5'.keeps hNP.1 hNP.2.1 hNP.2.2 n0'); (have q1 := hf5'.keeps hNP.1 hNP.2.1 hNP.2.2 n1'); (have q2 := hf5'.keeps hNP.1 hNP.2.1 hNP.2.2 n2'))
      all_goals
        have y := Lib.hid (three_set (v0 := .int .i64 (p : Int)) (v1 := .bool false) (v2 := .slice a13 R.length c13) r0 r1 r2)
        have g3 := Lib.hid (three_gr w5 RB (.int .i64 (p : Int)) (.bool false) (.slice a13 R.length c13))
        go_wp2_with fail
        obtain ⟨y0, y1, y2⟩ := y.out
        have g3 := g3.out
        generalize (((w5.setCell ⟨RB, 0, none⟩ (.int .i64 (p : Int))).setCell ⟨RB, 1, none⟩ (.bool false)).setCell ⟨RB, 2, none⟩ (.slice a13 R.length c13)) = w9 at *
        refine bodyPost_ret (v := .tuple #[.agg #[.int .i64 (p : Int), .bool false, .slice a13 R.length c13], .nilIface]) (by simp [results, Try.results66, go_sem, y0, y1, y2]) rfl ?_
        rw [HJE.out]
        exact ⟨_, rfl, (HO14.out.keepX hf5'.2 hoP).keepX g3 hoR, hp5.keepX g3 (fun e => hRP.1 e.symm) (fun e => hRP.2.1 e.symm) (fun e => hRP.2.2 e.symm), fun b hb => .inl (by rw [← hob13]; exact hb), (HF14.out.own hf5'.2 (fun j e => .inl (e.elim .inl fun e => e.elim (fun e => .inr (.inl e)) fun e => .inr (.inr (.inl e))))).own g3 (fun j e => .inr (by have := HJ.out.rb; omega))⟩
end
end Go.Proofs.Ytmjkalpjciddbaa
