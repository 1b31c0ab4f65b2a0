/-
  (*Tree).put at a node with pages below.
-/
import Derived.Test.YtmjkalpjciddbaaMg12
import Derived.Deep.DeepCutAuto
import Derived.IntWalk
namespace Go.Proofs.Ytmjkalpjciddbaa
open Go Go.RowKit

/-- A world with so many blocks alone. -/
def cutW (w : World) (n : Nat) : World := { w with heap := w.heap.extract 0 n }
theorem cutW_size {w : World} {n : Nat} (h : n ≤ w.heap.size) : (cutW w n).heap.size = n := by
  unfold cutW
  simp
  omega
theorem cutW_gr {w : World} {n : Nat} (h : n ≤ w.heap.size) : Gr (cutW w n) w := by
  refine ⟨rfl, rfl, rfl, by rw [cutW_size h]; exact h, fun k hk => ?_⟩
  rw [cutW_size h] at hk
  unfold cutW
  show _ = (w.heap.extract 0 n)[k]?
  rw [Array.getElem?_extract, if_pos (by omega), Nat.zero_add]
theorem OwnE.base {a0 a1 w : World} {v : Value} {l : List En} (h : OwnE a0 w v l) (e : a1.heap.size = a0.heap.size) : OwnE a1 w v l := by
  unfold OwnE
  rw [e]
  exact h
theorem insert_o (a0 w : World) (v : Value) (l : List En) (k vb : Nat) (e : En) (h : OwnE a0 w v l) (hk : k ≤ l.length) (hg : a0.heap.size ≤ w.heap.size) (hl : l.length ≤ 10000) (hv : OneE w vb e) (hvb : v.ownBlock ≠ some vb) :
    Calls Try.prog 63 #[v, .int .i64 k, .slice (some ⟨vb, 0, none⟩) 1 1] w fun ex w' =>
      ∃ v', ex = .returned v' ∧ OwnE a0 w' v' (l.insertIdx k e) ∧ GrX (fun b => v.ownBlock = some b) w w' ∧ OwnTo v v' w :=
  (insert_e (cutW w a0.heap.size) w v l k vb e (h.base (cutW_size hg)) hk (cutW_gr hg) hl hv hvb).mono fun _ _ ⟨v', h1, h2, _, h4, h5⟩ => ⟨v', h1, h2.base (cutW_size hg).symm, h4, h5⟩
theorem delete_o (a0 w : World) (v : Value) (l : List En) (k : Nat) (h : OwnE a0 w v l) (hk : k < l.length) (hg : a0.heap.size ≤ w.heap.size) (hl : l.length ≤ 10000) :
    Calls Try.prog 65 #[v, .int .i64 k, .int .i64 ((k : Int) + 1)] w fun ex w' =>
      ∃ v', ex = .returned v' ∧ OwnE a0 w' v' (l.eraseIdx k) ∧ GrX (fun b => v.ownBlock = some b) w w' ∧ v'.ownBlock = v.ownBlock :=
  (delete_e (cutW w a0.heap.size) w v l k (h.base (cutW_size hg)) hk (cutW_gr hg) hl).mono fun _ _ ⟨v', h1, h2, _, h4, h5⟩ => ⟨v', h1, h2.base (cutW_size hg).symm, h4, h5⟩
theorem TreeAt.keepX {S : Nat → Prop} {w w' : World} {TP PB root : Nat} (h : TreeAt w TP PB root) (g : GrX S w w') (hs : ¬ S TP) : TreeAt w' TP PB root := ⟨g.keeps hs h.p, g.keeps hs h.r⟩
/-- What comes of a node, of what came below. -/
def nodeRes (c1 : Ch) (p : Nat) (l : List En) (K : Nat) : Option (Option En) → Ch × Option (Option En)
  | none => (c1, none)
  | some none => splitE false c1 p l
  | some (some m) => splitE false c1 p (l.insertIdx (K + 1) m)
section
variable {w : World} {PB DB M : Nat} {c : Ch} {sv : Head} {t : Int} {d : Dk}
set_option maxRecDepth 100000 in
set_option maxHeartbeats 4000000 in
theorem put_node (h : PgT w PB DB M c sv t d) {TP root : Nat} (ht : TreeAt w TP PB root) (hTn : TP ≠ PB ∧ TP ≠ DB ∧ TP ≠ M) {p : Nat} {l : List En} (hp : HasN c d.pg false p l) (hok : ∀ e ∈ l, e.ok false) (hb : bytesE false l ≤ 1024) (key item : ByteArray)
    {K : Nat} (hK : downE (keysE l) key = K) (hlt : K < l.length) {c1 : Ch} {o : Option (Option En)} (hp1 : InU c1 p) (ho : ∀ m, o = some (some m) → m.ok false)
    (hsub : ∀ W, Gr w W → Calls Try.prog 41 #[.pointer (some ⟨TP, 0, none⟩), .int .i64 (l[K].page : Int), .agg #[.string key, .string item, .int .i64 0]] W fun e w' => ∃ v, e = .returned v ∧ MoreAt W w' v o ∧ PgT w' PB DB M c1 sv t d ∧ PgF PB DB M M W w') :
    Calls Try.prog 41 #[.pointer (some ⟨TP, 0, none⟩), .int .i64 (p : Int), .agg #[.string key, .string item, .int .i64 0]] w fun e w' => ∃ v, e = .returned v ∧ MoreAt w w' v (nodeRes c1 p l K o).2 ∧ PgT w' PB DB M (nodeRes c1 p l K o).1 sv t d ∧ PgF PB DB M M w w' := by
  have hrd := fun W (g : Gr w W) => read_n (h.gr g).s (ht.gr g) hp hok hb
  have HRD := Lib.hid hrd
  clear hrd
  have HSUB := Lib.hid hsub
  clear hsub
  go_enter Try.func41, Try.ntmps41
  go_wp2_with fail
  have hg0 : Gr w (w.alloc (.cells #[.string key, .string item, .int .i64 0] 72)) := (Gr.refl w).alloc _
  have hrd := HRD.out _ hg0
  have f0 : (w.alloc (.cells #[.string key, .string item, .int .i64 0] 72)).cell? ⟨w.heap.size, 0, none⟩ = some (.string key) := by rw [World.cell?_alloc_new]; rfl
  have f1 : (w.alloc (.cells #[.string key, .string item, .int .i64 0] 72)).cell? ⟨w.heap.size, 1, none⟩ = some (.string item) := by rw [World.cell?_alloc_new]; rfl
  have f2 : (w.alloc (.cells #[.string key, .string item, .int .i64 0] 72)).cell? ⟨w.heap.size, 2, none⟩ = some (.int .i64 0) := by rw [World.cell?_alloc_new]; rfl
  have HG0 := Lib.hid hg0
  have hEBW : Hid (w.heap.size < (w.alloc (.cells #[.string key, .string item, .int .i64 0] 72)).heap.size) := Lib.hid (by simp)
  obtain ⟨WB, hWB⟩ : ∃ WB, w.alloc (.cells #[.string key, .string item, .int .i64 0] 72) = WB := ⟨_, rfl⟩
  rw [hWB] at hrd f0 f1 f2 HG0 hEBW ⊢
  clear hWB
  have HEB : ∃ EB, w.heap.size = EB := ⟨_, rfl⟩
  obtain ⟨EB, hEB⟩ := HEB
  rw [hEB] at f0 f1 f2 ⊢
  have hkl : (keysE l).length = l.length := by unfold keysE; rw [List.length_map]
  refine hrd.mono ?_
  rintro e w1 ⟨s', rfl, ho1, hg1⟩
  obtain ⟨ao, ca, rfl⟩ := ho1.form
  have hl : l.length ≤ 600 := by
    have := sumE_len false l
    unfold bytesE at hb
    omega
  have hfn := fun W (g : Gr w1 W) => find_n p false l (.slice ao l.length ca) key W (ho1.isE.gr g) (by omega)
  simp only [Bool.false_eq_true, if_false] at hfn
  have hga : Gr w1 (w1.alloc (.cells #[.int .i64 (p : Int), .bool false, .slice ao l.length ca] 84)) := (Gr.refl w1).alloc _
  unfold nodeV at *
  have HFN := Lib.hid hfn
  have f0 := hg1.keeps f0
  have f1 := hg1.keeps f1
  have f2 := hg1.keeps f2
  have f0 := hga.keeps f0
  have f1 := hga.keeps f1
  have f2 := hga.keeps f2
  have k0 : (w1.alloc (.cells #[.int .i64 (p : Int), .bool false, .slice ao l.length ca] 84)).cell? ⟨w1.heap.size, 0, none⟩ = some (.int .i64 (p : Int)) := by rw [World.cell?_alloc_new]; rfl
  have k1 : (w1.alloc (.cells #[.int .i64 (p : Int), .bool false, .slice ao l.length ca] 84)).cell? ⟨w1.heap.size, 1, none⟩ = some (.bool false) := by rw [World.cell?_alloc_new]; rfl
  have k2 : (w1.alloc (.cells #[.int .i64 (p : Int), .bool false, .slice ao l.length ca] 84)).cell? ⟨w1.heap.size, 2, none⟩ = some (.slice ao l.length ca) := by rw [World.cell?_alloc_new]; rfl
  have kf : ∀ o, (w1.alloc (.cells #[.int .i64 (p : Int), .bool false, .slice ao l.length ca] 84)).frozen? ⟨w1.heap.size, o, none⟩ = false := fun o => by simp
  clear hrd hfn
  go_wp2_with fail
  obtain ⟨NB, hNB⟩ : ∃ NB, w1.heap.size = NB := ⟨_, rfl⟩
  have hEN : EB < NB := by
    rw [← hNB]
    exact Nat.lt_of_lt_of_le (by rw [← hEB]; exact hEBW.out) hg1.size
  rw [hNB] at k0 k1 k2 kf ⊢
  rw [hK] at HFN
  generalize hitE (keysE l) key = hit at *
  rcases ho1.at' with ⟨_, e2⟩ | ⟨B, cap, e3, h2, h3, h4, h5, h6⟩
  · rw [e2] at hlt
    exact absurd hlt (by simp)
  obtain ⟨rfl, rfl⟩ : ao = some ⟨B, 0, none⟩ ∧ ca = cap := by
    injection e3 with e1 e2 e3
    exact ⟨e1, e3⟩
  refine (HFN.out _ hga).mono ?_
  rintro e w2 ⟨rfl, hg2⟩
  have hg3 := hga.trans hg2
  have f0 := hg2.keeps f0
  have f1 := hg2.keeps f1
  have f2 := hg2.keeps f2
  have k0 := hg2.keeps k0
  have k1 := hg2.keeps k1
  have k2 := hg2.keeps k2
  have ho2 := ho1.gr hg3
  have hKl : (K : Int) < (l.length : Int) := by omega
  obtain ⟨_, _, b2⟩ := (h5.gr hg3) K hlt
  rw [Nat.zero_add] at b2
  have hg4 := (HG0.out.trans hg1).trans hg3
  go_wp2_with fail
  have hsub := HSUB.out _ hg4.drew
  generalize (l[K].page : Int) = pgi at *
  have HSB := Lib.hid hsub
  have HRK := Lib.hid hK
  clear hsub hK
  go_cut [11, 12] (fun s11 s12 wx => ∃ x y, s11 = x ∧ s12 = y ∧ MoreAt w2 wx (.tuple #[x, y]) o ∧ PgT wx PB DB M c1 sv t d ∧ PgF PB DB M M w2 wx)
  case first =>
    go_region_with (go_at_call 41; refine HSB.out.mono ?_; rintro e w3 ⟨v, rfl, hm, hp3, hf3⟩; obtain ⟨v1, v2, rfl⟩ := hm.form)
    all_goals
      go_wp2_with fail
      go_meet
      exact ⟨_, _, rfl, rfl, hm.mono (Nat.le_refl _), hp3, (PgF.of_gr PB DB M (Gr.refl w2).drew).trans hf3⟩
  case rest =>
    obtain ⟨x, y, rfl, rfl, hm, hp3, hf3⟩ := hcut
    have hNB2 : NB < w2.heap.size := lt_of_cell k0
    have hNP : NB ≠ PB ∧ NB ≠ DB ∧ NB ≠ M := by
      have := h.lt
      have := HG0.out.size
      have := hg1.size
      omega
    have k0 := hf3.keeps hNP.1 hNP.2.1 hNP.2.2 k0
    have k1 := hf3.keeps hNP.1 hNP.2.1 hNP.2.2 k1
    have k2 := hf3.keeps hNP.1 hNP.2.1 hNP.2.2 k2
    have hwb : PB < WB.heap.size ∧ DB < WB.heap.size ∧ M < WB.heap.size := by
      have := h.lt
      have := HG0.out.size
      omega
    have kfz : wc.frozen? ⟨NB, 2, none⟩ = false := by
      rw [hf3.2.frozen 2 hNB2 (fun e => e.elim hNP.1 fun e => e.elim hNP.2.1 hNP.2.2), hg2.frozen 2 (by rw [← hNB]; simp)]
      exact kf 2
    have hB3 : ∀ b, (Value.slice (some ⟨B, 0, none⟩) l.length ca).ownBlock = some b → ¬ (b = PB ∨ b = DB ∨ b = M) := fun b hb e => by
      have := ownBlock_ge ho2 b hb
      omega
    have ho3 := ho2.keepX hf3.2 hB3
    have F3 := (PgF.of_gr PB DB M hg4).trans hf3
    have T3 : TreeAt wc TP PB root := (ht.gr hg4).pg hf3 hTn.1 hTn.2.1 hTn.2.2
    have HO := Lib.hid ho
    clear ho
    rcases o with _ | _ | m
    · have hm2 : (Value.tuple #[u11, u12]) = .tuple #[.pointer none, errV 12] := hm
      injection hm2 with hm2
      obtain ⟨rfl, rfl⟩ : u11 = .pointer none ∧ u12 = errV 12 := by simpa using hm2
      have hev : errV 12 = .iface 56 (.int .i64 12) := rfl
      rw [hev]
      go_wp2_with fail
      go_ret2
      exact ⟨_, rfl, rfl, hp3, F3⟩
    · have hm2 : (Value.tuple #[u11, u12]) = .tuple #[.pointer none, .nilIface] := hm
      injection hm2 with hm2
      obtain ⟨rfl, rfl⟩ : u11 = .pointer none ∧ u12 = .nilIface := by simpa using hm2
      have hsp := split_n hp3 T3 hTn ho3 hwb hok (by omega) hp1
      unfold nodeV at hsp
      have HSP := Lib.hid hsp
      clear hsp
      go_wp2_with (refine HSP.out.mono ?_; rintro e w4 ⟨v, rfl, hm4, hp4, hf4⟩; obtain ⟨v1, v2, rfl⟩ := hm4.form)
      go_ret2
      exact ⟨_, rfl, hm4.mono F3.size, hp4, F3.trans hf4⟩
    · obtain ⟨EC, hm2, hec, y0, y1, y2⟩ := hm
      injection hm2 with hm2
      obtain ⟨rfl, rfl⟩ : u11 = .pointer (some ⟨EC, 0, none⟩) ∧ u12 = .nilIface := by simpa using hm2
      go_wp2_with fail
      have hmo := HO.out m rfl
      have hg5 : Gr wc (wc.alloc (.cells #[.string m.key, .string m.item, .int .i64 (m.page : Int)] 72)) := (Gr.refl wc).alloc _
      have hv1 : OneE (wc.alloc (.cells #[.string m.key, .string m.item, .int .i64 (m.page : Int)] 72)).drew wc.heap.size m := ⟨by show (wc.heap.push _)[wc.heap.size]? = _; rw [Array.getElem?_push_size]; rfl⟩
      have hWB : WB.heap.size ≤ (wc.alloc (.cells #[.string m.key, .string m.item, .int .i64 (m.page : Int)] 72)).drew.heap.size := by
        have := hg1.size
        have := hg3.size
        have := hf3.size
        have := hg5.drew.size
        omega
      have hin := insert_o WB _ _ l (K + 1) wc.heap.size m (ho3.gr hg5.drew) (by omega) hWB (by omega) hv1 (fun e => by have := ownBlock_lt ho3 _ e; omega)
      have hK1 : ((K + 1 : Nat) : Int) = (K : Int) + 1 := by omega
      rw [hK1] at hin
      have HIN := Lib.hid hin
      have j0 := hg5.keeps k0
      have j1 := hg5.keeps k1
      have j2 := hg5.keeps k2
      have jf : (wc.alloc (.cells #[.string m.key, .string m.item, .int .i64 (m.page : Int)] 72)).frozen? ⟨NB, 2, none⟩ = false := (hg5.frozen 2 (lt_of_cell k0)).trans kfz
      have HG5 := Lib.hid hg5
      have hNo : ¬ ((Value.slice (some ⟨B, 0, none⟩) l.length ca).ownBlock = some NB) := fun e => by
        have := ownBlock_lt ho1 _ e
        omega
      clear hin hK1 hg5 hv1
      have hwr : IntKind.i64.wrap ((K : Int) + 1) = (K : Int) + 1 := IntWalk.i64_in _ (by omega)
      have hTS := T3.gr HG5.out.drew
      have hPS := hp3.gr HG5.out.drew
      have hFS := F3.trans (PgF.of_gr PB DB M HG5.out.drew)
      have hwz : w.heap.size ≤ WB.heap.size := HG0.out.size
      have hTPw := lt_of_cell ht.p
      have hWN : WB.heap.size ≤ NB := by
        have := hg1.size
        omega
      have hTB : ∀ b, (Value.slice (some ⟨B, 0, none⟩) l.length ca).ownBlock = some b → WB.heap.size ≤ b := fun b hb => ownBlock_ge ho2 b hb
      have hNW : NB < (wc.alloc (.cells #[.string m.key, .string m.item, .int .i64 (m.page : Int)] 72)).drew.heap.size := Nat.lt_of_lt_of_le hNB2 (Nat.le_trans hf3.size HG5.out.size)
      have hRok := okE_insert (k := K + 1) hok hmo
      have hRb : bytesE false (l.insertIdx (K + 1) m) ≤ 1400 := by
        have := sumE_insert (leaf := false) (y := m) l (K + 1)
        have h9 : m.sz false ≤ 162 := En.sz_le hmo
        unfold bytesE at hb ⊢
        omega
      have HNR : Hid (nodeRes c1 p l K (some (some m)) = splitE false c1 p (l.insertIdx (K + 1) m)) := rfl
      generalize l.insertIdx (K + 1) m = R at *
      have hFIN : ∀ w5 a5 c5, OwnE WB w5 (.slice a5 R.length c5) R → GrX (fun b => (Value.slice (some ⟨B, 0, none⟩) l.length ca).ownBlock = some b) (wc.alloc (.cells #[.string m.key, .string m.item, .int .i64 (m.page : Int)] 72)).drew w5 → OwnTo (Value.slice (some ⟨B, 0, none⟩) l.length ca) (.slice a5 R.length c5) (wc.alloc (.cells #[.string m.key, .string m.item, .int .i64 (m.page : Int)] 72)).drew →
          Calls Try.prog 64 #[.pointer (some ⟨TP, 0, none⟩), .agg #[.int .i64 (p : Int), .bool false, .slice a5 R.length c5]] (w5.setCell ⟨NB, 2, none⟩ (.slice a5 R.length c5)) fun e w' => ∃ v1 v2, e = .returned (.tuple #[v1, v2]) ∧ MoreAt w w' (.tuple #[v1, v2]) (nodeRes c1 p l K (some (some m))).2 ∧ PgT w' PB DB M (nodeRes c1 p l K (some (some m))).1 sv t d ∧ PgF PB DB M M w w' := by
        intro w5 a5 c5 x1 x2 x3
        have gS : GrX (fun b => b = NB) w5 (w5.setCell ⟨NB, 2, none⟩ (.slice a5 R.length c5)) := GrX.setCell (S := fun b => b = NB) (p := ⟨NB, 2, none⟩) w5 _ rfl
        have y1 := x1.keepX gS (fun b hb e => by
          rcases x3 b hb with h1 | h1
          · exact hNo (by rw [h1, e])
          · omega)
        have y2 := ((hPS.keepX x2 (fun e => by have := hTB _ e; omega) (fun e => by have := hTB _ e; omega) (fun e => by have := hTB _ e; omega)).keepX gS (fun e => hNP.1 e.symm) (fun e => hNP.2.1 e.symm) (fun e => hNP.2.2 e.symm))
        have y3 := (hTS.keepX x2 (fun e => by have := hTB _ e; omega)).keepX gS (fun e => by omega)
        have y4 := (hFS.own x2 (fun j e => by have := hTB _ e; omega)).own gS (fun j e => by omega)
        rw [HNR.out]
        exact (split_n y2 y3 hTn y1 hwb hRok hRb hp1).mono fun e w' ⟨v, z1, z2, z3, z4⟩ => by
          obtain ⟨v1, v2, rfl⟩ := z2.form
          exact ⟨v1, v2, z1, z2.mono y4.size, z3, y4.trans z4⟩
      have FIN := Lib.hid hFIN
      clear hFIN hTS hPS hFS hTB hRok hRb HNR
      go_region_with (go_at_call 63; refine HIN.out.mono ?_; rintro e w5 ⟨v5, rfl, ho5, hx5, hto⟩; obtain ⟨a5, c5, rfl⟩ := ho5.form; (have q2 := hx5.keeps hNo j2); (have qf : w5.frozen? ⟨NB, 2, none⟩ = false := (hx5.frozen 2 (Nat.lt_of_lt_of_le hNB2 (Nat.le_trans hf3.size HG5.out.size)) hNo).trans jf); (have q0 := hx5.keeps hNo j0); (have q1 := hx5.keeps hNo j1))
      all_goals
        go_wp2_with (refine (FIN.out _ _ _ ho5 hx5 hto).mono ?_; rintro e w9 ⟨v1, v2, rfl, z2, z3, z4⟩)
        go_ret2
        exact ⟨_, rfl, z2, z3, z4⟩
end
end Go.Proofs.Ytmjkalpjciddbaa
