/-
  (*Tree).split at a node's own slice; what a split is, in a tree.
-/
import Derived.Test.YtmjkalpjciddbaaTnP
namespace Go.Proofs.Ytmjkalpjciddbaa
open Go Go.RowKit

section
variable {w : World} {PB DB M : Nat} {c : Ch} {sv : Head} {t : Int} {d : Dk}
theorem split_n (h : PgT w PB DB M c sv t d) {TP root : Nat} (ht : TreeAt w TP PB root) (hTn : TP ≠ PB ∧ TP ≠ DB ∧ TP ≠ M) {leaf : Bool} {p : Nat} {l : List En} {s : Value} {a0 : World} (hs : OwnE a0 w s l) (ha : PB < a0.heap.size ∧ DB < a0.heap.size ∧ M < a0.heap.size)
    (hok : ∀ e ∈ l, e.ok leaf) (hb : bytesE leaf l ≤ 1400) (hp : InU c p) :
    Calls Try.prog 64 #[.pointer (some ⟨TP, 0, none⟩), nodeV p leaf s] w fun e w' => ∃ v, e = .returned v ∧ MoreAt w w' v (splitE leaf c p l).2 ∧ PgT w' PB DB M (splitE leaf c p l).1 sv t d ∧ PgF PB DB M M w w' := by
  by_cases hf : bytesE leaf l ≤ 1024
  · have e : splitE leaf c p l = (c.write (p : Nat) (pageE leaf l), some none) := by
      unfold splitE
      rw [if_pos hf]
    rw [e]
    exact (split_fits h ht hs.isE hok hf hp).mono fun _ _ ⟨h1, h2, h3⟩ => ⟨_, h1, rfl, h2, h3⟩
  · rcases hs.at' with ⟨_, rfl⟩ | ⟨B, cap, rfl, h2, h3, h4, h5, _⟩
    · exact absurd (bytes_nil leaf) hf
    · exact split_two h ht h4 (by omega) hTn h2 h5 hok (by omega) hb hp
end
section
variable {X : Type}
theorem splitL_E {en : ByteArray × X → En} (hkey : ∀ x, (en x).key = x.1) (leaf : Bool) (c : Ch) (p : Nat) (l old : List (ByteArray × X)) :
    (splitL en leaf c p l old).1 = (splitE leaf c p (l.map en)).1 ∧
    (∀ m, (splitL en leaf c p l old).2.2 = some (some m) → (splitE leaf c p (l.map en)).2 = some (some ⟨m.1, noB, m.2.1⟩)) ∧
    ((splitL en leaf c p l old).2.2 = some none → (splitE leaf c p (l.map en)).2 = some none) ∧ ((splitL en leaf c p l old).2.2 = none → (splitE leaf c p (l.map en)).2 = none) := by
  have hk : ∀ (l : List (ByteArray × X)), ((l.map en).head?.map En.key).getD noB = keyOf l := fun l => by
    unfold keyOf
    cases l with
    | nil => rfl
    | cons x r => simp [hkey]
  unfold splitL splitE
  split
  · exact ⟨rfl, fun m hm => (by simp at hm), fun _ => rfl, fun hm => (by simp at hm)⟩
  · cases allocF c.h with
    | none => exact ⟨rfl, fun m hm => (by simp at hm), fun hm => (by simp at hm), fun _ => rfl⟩
    | some q =>
      refine ⟨rfl, fun m hm => ?_, fun hm => (by simp at hm), fun hm => (by simp at hm)⟩
      have e : some (some (keyOf (l.drop (cutE leaf (l.map en))), (q, l.drop (cutE leaf (l.map en))))) = some (some m) := hm
      injection e with e
      injection e with e
      subst e
      show some (some _) = some (some _)
      rw [← List.map_drop, hk]
end
end Go.Proofs.Ytmjkalpjciddbaa

/-
  (*Tree).put at a leaf.
-/
namespace Go.Proofs.Ytmjkalpjciddbaa
open Go Go.RowKit

theorem MoreAt.form {w w' : World} {v : Value} {o : Option (Option En)} (h : MoreAt w w' v o) : ∃ a b, v = .tuple #[a, b] := by
  rcases o with _ | _ | e
  · exact ⟨_, _, h⟩
  · exact ⟨_, _, h⟩
  · obtain ⟨EB, h1, _⟩ := h
    exact ⟨_, _, h1⟩
theorem MoreAt.mono {w w0 w' : World} {v : Value} {o : Option (Option En)} (h : MoreAt w w' v o) (hle : w0.heap.size ≤ w.heap.size) : MoreAt w0 w' v o := by
  rcases o with _ | _ | e
  · exact h
  · exact h
  · obtain ⟨EB, h1, h2, h3⟩ := h
    exact ⟨EB, h1, Nat.le_trans hle h2, h3⟩
theorem okE_set {leaf : Bool} {l : List En} {k : Nat} {e : En} (h : ∀ x ∈ l, x.ok leaf) (he : e.ok leaf) : ∀ x ∈ l.set k e, x.ok leaf := fun x hx => by
  rcases List.mem_or_eq_of_mem_set hx with hx | hx
  · exact h x hx
  · rw [hx]; exact he
theorem okE_insert {leaf : Bool} {l : List En} {k : Nat} {e : En} (h : ∀ x ∈ l, x.ok leaf) (he : e.ok leaf) : ∀ x ∈ l.insertIdx k e, x.ok leaf := fun x hx => by
  by_cases hk : k ≤ l.length
  · rcases (List.mem_insertIdx hk).1 hx with hx | hx
    · rw [hx]; exact he
    · exact h x hx
  · rw [List.insertIdx_of_length_lt (by omega)] at hx
    exact h x hx
theorem ownE_set {a0 w : World} {l : List En} {B cap : Nat} (h : OwnE a0 w (.slice (some ⟨B, 0, none⟩) l.length cap) l) {k : Nat} (hk : k < l.length) (e : En) :
    OwnE a0 (w.setCells B (k * 3) e.cells) (.slice (some ⟨B, 0, none⟩) l.length cap) (l.set k e) := by
  rcases h.row.2 with ⟨_, e2⟩ | ⟨B', cap', cur, hv, hB, hh, hnc, hc, hsz, ht⟩
  · omega
  obtain ⟨rfl, rfl⟩ : B = B' ∧ cap = cap' := by
    injection hv with e1 e2 e3
    injection e1 with e1
    injection e1 with e1
    exact ⟨e1, e3⟩
  have hlt : B < w.heap.size := (Array.getElem?_eq_some_iff.1 hh).1
  have hcl := cellsE_len l
  have h3 : e.cells.length = 3 := rfl
  rw [setCells_row B e.cells (k * 3) cur w hh (by rw [h3]; omega)]
  have hsz2 : (cur.toList.take (k * 3) ++ e.cells ++ cur.toList.drop (k * 3 + e.cells.length)).toArray.size = cap * 3 := by
    simp only [List.size_toArray, List.length_append, List.length_take, List.length_drop, h3, Array.length_toList, hsz]
    omega
  obtain ⟨ct, _⟩ := cellsE_take l k (by omega)
  obtain ⟨_, cd⟩ := cellsE_take l (k + 1) (by omega)
  refine row_put hB hlt hc hnc (by rw [List.length_set]) hsz2 ?_ hh
  show (cur.toList.take (k * 3) ++ e.cells ++ cur.toList.drop (k * 3 + e.cells.length)).take (l.length * 3) = _
  have t1 : cur.toList.take (k * 3) = cellsE (l.take k) := by
    rw [← ct, ← ht, List.take_take, Nat.min_eq_left (by omega)]
  have t2 : (cellsE (l.take k)).length = k * 3 := by rw [cellsE_len, List.length_take, Nat.min_eq_left (by omega)]
  have t3 : (cur.toList.drop (k * 3 + 3)).take (l.length * 3 - (k * 3 + 3)) = cellsE (l.drop (k + 1)) := by
    rw [← cd, ← ht, List.drop_take, show (k + 1) * 3 = k * 3 + 3 by omega]
  rw [List.set_eq_take_append_cons_drop, if_pos hk, cellsE_append, t1, List.append_assoc, List.take_append, t2, List.take_of_length_le (by omega), List.take_append, h3, List.take_of_length_le (l := e.cells) (by rw [h3]; omega), show l.length * 3 - k * 3 - 3 = l.length * 3 - (k * 3 + 3) by omega, t3]
  rfl
section
variable {w : World} {PB DB M : Nat} {c : Ch} {sv : Head} {t : Int} {d : Dk}
set_option maxRecDepth 100000 in
set_option maxHeartbeats 4000000 in
theorem put_leaf (h : PgT w PB DB M c sv t d) {TP root : Nat} (ht : TreeAt w TP PB root) (hTn : TP ≠ PB ∧ TP ≠ DB ∧ TP ≠ M) {p : Nat} {l : List En} (hp : HasN c d.pg true p l) (hok : ∀ e ∈ l, e.ok true) (hb : bytesE true l ≤ 1024) (key item : ByteArray) (hk : key.size ≤ 60) (hi : item.size ≤ 100) :
    Calls Try.prog 41 #[.pointer (some ⟨TP, 0, none⟩), .int .i64 (p : Int), .agg #[.string key, .string item, .int .i64 0]] w fun e w' => ∃ v, e = .returned v ∧ MoreAt w w' v (splitE true c p (if hitE (keysE l) key then l.set (searchE (keysE l) key) ⟨key, item, 0⟩ else l.insertIdx (searchE (keysE l) key) ⟨key, item, 0⟩)).2 ∧
      PgT w' PB DB M (splitE true c p (if hitE (keysE l) key then l.set (searchE (keysE l) key) ⟨key, item, 0⟩ else l.insertIdx (searchE (keysE l) key) ⟨key, item, 0⟩)).1 sv t d ∧ PgF PB DB M M w w' := by
  have hrd := fun W (g : Gr w W) => read_n (h.gr g).s (ht.gr g) hp hok hb
  have HRD := Lib.hid hrd
  clear hrd
  obtain ⟨R, hR⟩ : ∃ R, (if hitE (keysE l) key then l.set (searchE (keysE l) key) ⟨key, item, 0⟩ else l.insertIdx (searchE (keysE l) key) ⟨key, item, 0⟩) = R := ⟨_, rfl⟩
  rw [hR]
  go_enter Try.func41, Try.ntmps41
  go_wp2_with fail
  have hg0 : Gr w (w.alloc (.cells #[.string key, .string item, .int .i64 0] 72)) := (Gr.refl w).alloc _
  have hrd := HRD.out _ hg0
  have f0 : (w.alloc (.cells #[.string key, .string item, .int .i64 0] 72)).cell? ⟨w.heap.size, 0, none⟩ = some (.string key) := by rw [World.cell?_alloc_new]; rfl
  have f1 : (w.alloc (.cells #[.string key, .string item, .int .i64 0] 72)).cell? ⟨w.heap.size, 1, none⟩ = some (.string item) := by rw [World.cell?_alloc_new]; rfl
  have f2 : (w.alloc (.cells #[.string key, .string item, .int .i64 0] 72)).cell? ⟨w.heap.size, 2, none⟩ = some (.int .i64 0) := by rw [World.cell?_alloc_new]; rfl
  have HG0 := Lib.hid hg0
  have hEBW : Hid (w.heap.size < (w.alloc (.cells #[.string key, .string item, .int .i64 0] 72)).heap.size) := Lib.hid (by simp)
  obtain ⟨WB, hWB⟩ : ∃ WB, w.alloc (.cells #[.string key, .string item, .int .i64 0] 72) = WB := ⟨_, rfl⟩
  rw [hWB] at hrd f0 f1 f2 HG0 hEBW ⊢
  clear hWB
  have HEB : ∃ EB, w.heap.size = EB := ⟨_, rfl⟩
  obtain ⟨EB, hEB⟩ := HEB
  rw [hEB] at f0 f1 f2 ⊢
  have hkl : (keysE l).length = l.length := by unfold keysE; rw [List.length_map]
  have hse := searchE_le (keysE l) key
  rw [hkl] at hse
  refine hrd.mono ?_
  rintro e w1 ⟨s', rfl, ho1, hg1⟩
  obtain ⟨ao, ca, rfl⟩ := ho1.form
  have hl : l.length ≤ 600 := by
    have := sumE_len true l
    unfold bytesE at hb
    omega
  have hfn := fun W (g : Gr w1 W) => find_n p true l (.slice ao l.length ca) key W (ho1.isE.gr g) (by omega)
  simp only [if_true] at hfn
  have hga : Gr w1 (w1.alloc (.cells #[.int .i64 (p : Int), .bool true, .slice ao l.length ca] 84)) := (Gr.refl w1).alloc _
  unfold nodeV at *
  have HFN := Lib.hid hfn
  have f0 := hg1.keeps f0
  have f1 := hg1.keeps f1
  have f2 := hg1.keeps f2
  have f0 := hga.keeps f0
  have f1 := hga.keeps f1
  have f2 := hga.keeps f2
  have k0 : (w1.alloc (.cells #[.int .i64 (p : Int), .bool true, .slice ao l.length ca] 84)).cell? ⟨w1.heap.size, 0, none⟩ = some (.int .i64 (p : Int)) := by rw [World.cell?_alloc_new]; rfl
  have k1 : (w1.alloc (.cells #[.int .i64 (p : Int), .bool true, .slice ao l.length ca] 84)).cell? ⟨w1.heap.size, 1, none⟩ = some (.bool true) := by rw [World.cell?_alloc_new]; rfl
  have k2 : (w1.alloc (.cells #[.int .i64 (p : Int), .bool true, .slice ao l.length ca] 84)).cell? ⟨w1.heap.size, 2, none⟩ = some (.slice ao l.length ca) := by rw [World.cell?_alloc_new]; rfl
  have kf : ∀ o, (w1.alloc (.cells #[.int .i64 (p : Int), .bool true, .slice ao l.length ca] 84)).frozen? ⟨w1.heap.size, o, none⟩ = false := fun o => by simp
  clear hrd hfn
  go_wp2_with fail
  obtain ⟨NB, hNB⟩ : ∃ NB, w1.heap.size = NB := ⟨_, rfl⟩
  have hEN : EB < NB := by
    rw [← hNB]
    exact Nat.lt_of_lt_of_le (by rw [← hEB]; exact hEBW.out) hg1.size
  rw [hNB] at k0 k1 k2 kf ⊢
  by_cases hh : hitE (keysE l) key = true
  · have hlt : searchE (keysE l) key < l.length := by rw [← hkl]; exact hitE_lt hh
    rw [hh] at HFN
    rw [if_pos hh] at hR
    rcases ho1.at' with ⟨_, e2⟩ | ⟨B, cap, e3, h2, h3, h4, h5, h6⟩
    · rw [e2] at hlt
      exact absurd hlt (by simp)
    obtain ⟨rfl, rfl⟩ : ao = some ⟨B, 0, none⟩ ∧ ca = cap := by
      injection e3 with e1 e2 e3
      exact ⟨e1, e3⟩
    generalize searchE (keysE l) key = K at *
    refine (HFN.out _ hga).mono ?_
    rintro e w2 ⟨rfl, hg2⟩
    have hg3 := hga.trans hg2
    have f0 := hg2.keeps f0
    have f1 := hg2.keeps f1
    have f2 := hg2.keeps f2
    have k0 := hg2.keeps k0
    have k1 := hg2.keeps k1
    have k2 := hg2.keeps k2
    have ho2 := ho1.gr hg3
    have hKl : (K : Int) < (l.length : Int) := by omega
    obtain ⟨b0, b1, b2⟩ := (h5.gr hg3) K hlt
    rw [Nat.zero_add] at b0 b1 b2
    have bf : ∀ o, w2.frozen? ⟨B, o, none⟩ = false := fun o => (hg3.frozen o h4).trans (h6 o)
    generalize l[K].key = x0 at *
    generalize l[K].item = x1 at *
    generalize (l[K].page : Int) = x2 at *
    have hos := Lib.hid (ownE_set ho2 hlt ⟨key, item, 0⟩)
    clear h5 h6
    go_wp2_with fail
    have hgx : GrX (fun b => b = B) w2 (((w2.setCell ⟨B, K * 3, none⟩ (.string key)).setCell ⟨B, K * 3 + 1, none⟩ (.string item)).setCell ⟨B, K * 3 + 2, none⟩ (.int .i64 0)) := ((GrX.setCell (S := fun b => b = B) (p := ⟨B, K * 3, none⟩) w2 _ rfl).trans (GrX.setCell (S := fun b => b = B) (p := ⟨B, K * 3 + 1, none⟩) _ _ rfl)).trans (GrX.setCell (S := fun b => b = B) (p := ⟨B, K * 3 + 2, none⟩) _ _ rfl)
    have hos3 : OwnE WB (((w2.setCell ⟨B, K * 3, none⟩ (.string key)).setCell ⟨B, K * 3 + 1, none⟩ (.string item)).setCell ⟨B, K * 3 + 2, none⟩ (.int .i64 0)) (.slice (some ⟨B, 0, none⟩) l.length ca) (l.set K ⟨key, item, 0⟩) := hos.out
    have hgw : Gr w (((w2.setCell ⟨B, K * 3, none⟩ (.string key)).setCell ⟨B, K * 3 + 1, none⟩ (.string item)).setCell ⟨B, K * 3 + 2, none⟩ (.int .i64 0)) := hgx.gr ((HG0.out.trans hg1).trans hg3) (fun b hb => by rw [hb]; exact Nat.le_trans HG0.out.size h3)
    generalize ((w2.setCell ⟨B, K * 3, none⟩ (.string key)).setCell ⟨B, K * 3 + 1, none⟩ (.string item)).setCell ⟨B, K * 3 + 2, none⟩ (.int .i64 0) = w3 at *
    have hsp := split_n (h.gr hgw) (ht.gr hgw) hTn hos3 (by have := h.lt; have := HG0.out.size; omega) (okE_set hok ⟨hk, hi, by show 0 < 2000; omega, fun _ => rfl, fun e => by cases e⟩) (by
      have := sumE_set (leaf := true) (y := ⟨key, item, 0⟩) l K
      have h9 : (⟨key, item, 0⟩ : En).sz true ≤ 162 := En.sz_le ⟨hk, hi, by show 0 < 2000; omega, fun _ => rfl, fun e => by cases e⟩
      unfold bytesE at hb ⊢
      omega) hp.1
    unfold nodeV at hsp
    refine hsp.mono ?_
    rintro e w4 ⟨v, rfl, hm, hp4, hf4⟩
    obtain ⟨v1, v2, rfl⟩ := hm.form
    go_wp2_with fail
    go_ret2
    rw [hR] at hm hp4
    exact ⟨_, rfl, hm.mono hgw.size, hp4, (PgF.of_gr PB DB M hgw).trans hf4⟩
  · have hh2 : hitE (keysE l) key = false := by simpa using hh
    rw [hh2] at HFN
    rw [if_neg hh] at hR
    generalize searchE (keysE l) key = K at *
    refine (HFN.out _ hga).mono ?_
    rintro e w2 ⟨rfl, hg2⟩
    have hg3 := hga.trans hg2
    have f0 := hg2.keeps f0
    have f1 := hg2.keeps f1
    have f2 := hg2.keeps f2
    have k0 := hg2.keeps k0
    have k1 := hg2.keeps k1
    have k2 := hg2.keeps k2
    have ho2 := ho1.gr hg3
    go_wp2_with fail
    have hv1 : OneE (w2.alloc (.cells #[.string key, .string item, .int .i64 0] 72)) w2.heap.size ⟨key, item, 0⟩ := ⟨by show (w2.heap.push _)[w2.heap.size]? = _; rw [Array.getElem?_push_size]; rfl⟩
    have g2a : Gr w2 (w2.alloc (.cells #[.string key, .string item, .int .i64 0] 72)) := (Gr.refl w2).alloc _
    have hin := insert_e WB _ _ l K w2.heap.size ⟨key, item, 0⟩ (ho2.gr g2a) hse ((hg1.trans hg3).trans g2a) (by omega) hv1 (fun e => by have := ownBlock_lt ho2 _ e; omega)
    have NB2 := lt_of_cell k0
    refine hin.mono ?_
    rintro e w3 ⟨v3, rfl, ho3, hg4, hx3, hto⟩
    have hNo : (Value.slice ao l.length ca).ownBlock ≠ some NB := fun e => by
      have := ownBlock_lt ho1 _ e
      omega
    have k0 := hx3.keeps hNo (g2a.keeps k0)
    have k1 := hx3.keeps hNo (g2a.keeps k1)
    have k2 := hx3.keeps hNo (g2a.keeps k2)
    have kfz : w3.frozen? ⟨NB, 2, none⟩ = false := by
      rw [hx3.frozen 2 (Nat.lt_of_lt_of_le NB2 g2a.size) hNo, g2a.frozen 2 NB2, hg2.frozen 2 (by rw [← hNB]; simp)]
      exact kf 2
    obtain ⟨a3, c3, rfl⟩ := ho3.form
    go_wp2_with fail
    have hgs : GrX (fun b => b = NB) w3 (w3.setCell ⟨NB, 2, none⟩ (.slice a3 (l.insertIdx K ⟨key, item, 0⟩).length c3)) := GrX.setCell (S := fun b => b = NB) (p := ⟨NB, 2, none⟩) w3 _ rfl
    have hvN : ∀ b, (Value.slice a3 (l.insertIdx K ⟨key, item, 0⟩).length c3).ownBlock = some b → ¬ b = NB := fun b hb e => by
      rcases hto b hb with h1 | h1
      · exact hNo (by rw [h1, e])
      · have := g2a.size
        omega
    have hos3 := ho3.keepX hgs hvN
    have hgw : Gr w (w3.setCell ⟨NB, 2, none⟩ (.slice a3 (l.insertIdx K ⟨key, item, 0⟩).length c3)) := hgs.gr (HG0.out.trans hg4) (fun b hb => by
      have := HG0.out.size
      have := hg1.size
      omega)
    rw [hR] at hos3 hgw
    have hRok : ∀ e ∈ R, e.ok true := by
      rw [← hR]
      exact okE_insert hok ⟨hk, hi, by show 0 < 2000; omega, fun _ => rfl, fun e => by cases e⟩
    have hRb : bytesE true R ≤ 1400 := by
      rw [← hR]
      have := sumE_insert (leaf := true) (y := ⟨key, item, 0⟩) l K
      have h9 : (⟨key, item, 0⟩ : En).sz true ≤ 162 := En.sz_le ⟨hk, hi, by show 0 < 2000; omega, fun _ => rfl, fun e => by cases e⟩
      unfold bytesE at hb ⊢
      omega
    generalize w3.setCell ⟨NB, 2, none⟩ (.slice a3 R.length c3) = w5 at *
    have hsp := split_n (h.gr hgw) (ht.gr hgw) hTn hos3 (by have := h.lt; have := HG0.out.size; omega) hRok hRb hp.1
    unfold nodeV at hsp
    refine hsp.mono ?_
    rintro e w4 ⟨v, rfl, hm, hp4, hf4⟩
    obtain ⟨v1, v2, rfl⟩ := hm.form
    go_wp2_with fail
    go_ret2
    exact ⟨_, rfl, hm.mono hgw.size, hp4, (PgF.of_gr PB DB M hgw).trans hf4⟩
end
end Go.Proofs.Ytmjkalpjciddbaa
