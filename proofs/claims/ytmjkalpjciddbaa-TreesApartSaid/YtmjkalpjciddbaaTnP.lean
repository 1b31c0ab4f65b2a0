/-
  (*Tree).split.
-/
import Derived.Test.YtmjkalpjciddbaaTnO
import Derived.Deep.DeepCutAuto
import Derived.Deep.RegionHeld3
namespace Go.Proofs.Ytmjkalpjciddbaa
open Go Go.RowKit

/-- A split, told of entries. -/
def splitE (leaf : Bool) (c : Ch) (p : Nat) (l : List En) : Ch × Option (Option En) :=
  if bytesE leaf l ≤ 1024 then (c.write (p : Nat) (pageE leaf l), some none)
  else match allocF c.h with
    | none => (c, none)
    | some q => ((c.alloc.write (p : Nat) (pageE leaf (l.take (cutE leaf l)))).write (q : Nat) (pageE leaf (l.drop (cutE leaf l))), some (some ⟨((l.drop (cutE leaf l)).head?.map En.key).getD noB, noB, q⟩))
/-- What a split gives: nothing, or an entry in a block of its own; and an error. -/
def MoreAt (w w' : World) (v : Value) : Option (Option En) → Prop
  | none => v = .tuple #[.pointer none, errV 12]
  | some none => v = .tuple #[.pointer none, .nilIface]
  | some (some e) => ∃ EB, v = .tuple #[.pointer (some ⟨EB, 0, none⟩), .nilIface] ∧ w.heap.size ≤ EB ∧ w'.cell? ⟨EB, 0, none⟩ = some (.string e.key) ∧ w'.cell? ⟨EB, 1, none⟩ = some (.string e.item) ∧ w'.cell? ⟨EB, 2, none⟩ = some (.int .i64 (e.page : Int))
section
variable {w : World} {PB DB M : Nat} {c : Ch} {sv : Head} {t : Int} {d : Dk}
set_option maxRecDepth 100000 in
set_option maxHeartbeats 4000000 in
theorem split_fits (h : PgT w PB DB M c sv t d) {TP root : Nat} (ht : TreeAt w TP PB root) {leaf : Bool} {p : Nat} {l : List En} {s : Value} (hs : IsE w s l) (hok : ∀ e ∈ l, e.ok leaf) (hb : bytesE leaf l ≤ 1024) (hp : InU c p) :
    Calls Try.prog 64 #[.pointer (some ⟨TP, 0, none⟩), nodeV p leaf s] w fun e w' => e = .returned (.tuple #[.pointer none, .nilIface]) ∧ PgT w' PB DB M (c.write (p : Nat) (pageE leaf l)) sv t d ∧ PgF PB DB M M w w' := by
  have hl : l.length ≤ 600 := by
    have := sumE_len leaf l
    unfold bytesE at hb
    omega
  have hby := fun w' (g : Gr w w') => bytes_n p leaf s l w' (hs.gr g) hok (by omega)
  have hwr := fun w' (g : Gr w w') => write_n (h.gr g) (ht.gr g) (hs.gr g) hok hb hp
  obtain ⟨ao, ca, rfl⟩ := hs.form
  unfold nodeV at *
  have hg0 : Gr w (w.alloc (.cells #[.int .i64 (p : Int), .bool leaf, .slice ao l.length ca] 84)) := (Gr.refl w).alloc _
  have c0 : ∀ w', Gr (w.alloc (.cells #[.int .i64 (p : Int), .bool leaf, .slice ao l.length ca] 84)) w' → w'.cell? ⟨w.heap.size, 0, none⟩ = some (.int .i64 (p : Int)) ∧ w'.cell? ⟨w.heap.size, 1, none⟩ = some (.bool leaf) ∧ w'.cell? ⟨w.heap.size, 2, none⟩ = some (.slice ao l.length ca) := fun w' g => ⟨g.keeps (by rw [World.cell?_alloc_new]; rfl), g.keeps (by rw [World.cell?_alloc_new]; rfl), g.keeps (by rw [World.cell?_alloc_new]; rfl)⟩
  obtain ⟨k0, k1, k2⟩ := c0 _ (Gr.refl _)
  have hbi : (bytesE leaf l : Int) ≤ 1024 := by omega
  have HW := Lib.hid hwr
  clear hwr
  go_enter Try.func64, Try.ntmps64
  go_wp2_with (go_at_call 77; refine (hby _ hg0).mono ?_; rintro e w1 ⟨rfl, hg1⟩; have hg2 := hg0.trans hg1; obtain ⟨k0, k1, k2⟩ := c0 _ hg1)
  go_wp2_with (go_at_call 40; refine (HW.out _ hg2).mono ?_; rintro e w2 ⟨rfl, hp2, hf2⟩)
  go_ret2
  exact ⟨rfl, hp2, (PgF.of_gr PB DB M hg2).trans hf2⟩
/-- A node that was made of a clone. -/
structure CloneAt (w6 W : World) (MB : Nat) (a7 : Option Addr) (c7 q : Nat) (leaf : Bool) (m : List En) : Prop where
  g : Gr w6 W
  own : OwnE w6 W (.slice a7 m.length c7) m
  ge : w6.heap.size ≤ MB
  c0 : W.cell? ⟨MB, 0, none⟩ = some (.int .i64 (q : Int))
  c1 : W.cell? ⟨MB, 1, none⟩ = some (.bool leaf)
  c2 : W.cell? ⟨MB, 2, none⟩ = some (.slice a7 m.length c7)
theorem cloneA {w6 w7 : World} {a7 : Option Addr} {c7 q : Nat} {leaf : Bool} {m : List En} (hg7 : Gr w6.drew w7) (ho7 : OwnE w6.drew w7 (.slice a7 m.length c7) m) :
    CloneAt w6 (w7.alloc (.cells #[.int .i64 (q : Int), .bool leaf, .slice a7 m.length c7] 84)) w7.heap.size a7 c7 q leaf m := by
  have hg := gr_undrew hg7
  exact ⟨hg.alloc _, (ho7.back (Gr.refl w6).drew).gr ((Gr.refl w7).alloc _), hg.size, by rw [World.cell?_alloc_new]; rfl, by rw [World.cell?_alloc_new]; rfl, by rw [World.cell?_alloc_new]; rfl⟩
theorem cloneB {w6 w7 : World} {a7 : Option Addr} {c7 q : Nat} {leaf : Bool} {m : List En} (hg7 : Gr (w6.alloc (.cells #[.int .i64 0, .bool false, .slice none 0 0] 84)).drew w7) (ho7 : OwnE (w6.alloc (.cells #[.int .i64 0, .bool false, .slice none 0 0] 84)).drew w7 (.slice a7 m.length c7) m)
    (z0 : w7.cell? ⟨w6.heap.size, 0, none⟩ = some (.int .i64 0)) (z1 : w7.cell? ⟨w6.heap.size, 1, none⟩ = some (.bool false)) (z2 : w7.cell? ⟨w6.heap.size, 2, none⟩ = some (.slice none 0 0)) :
    CloneAt w6 (((w7.setCell ⟨w6.heap.size, 0, none⟩ (.int .i64 (q : Int))).setCell ⟨w6.heap.size, 1, none⟩ (.bool leaf)).setCell ⟨w6.heap.size, 2, none⟩ (.slice a7 m.length c7)) w6.heap.size a7 c7 q leaf m := by
  have hga : Gr w6 (w6.alloc (.cells #[.int .i64 0, .bool false, .slice none 0 0] 84)).drew := ((Gr.refl w6).alloc _).drew
  have hg := hga.trans hg7
  have hgx := ((GrX.setCell (S := fun b => b = w6.heap.size) (p := ⟨w6.heap.size, 0, none⟩) w7 (.int .i64 (q : Int)) rfl).trans (GrX.setCell (S := fun b => b = w6.heap.size) (p := ⟨w6.heap.size, 1, none⟩) _ (.bool leaf) rfl)).trans (GrX.setCell (S := fun b => b = w6.heap.size) (p := ⟨w6.heap.size, 2, none⟩) _ (.slice a7 m.length c7) rfl)
  refine ⟨hgx.gr hg fun b hb => by omega, (ho7.back hga).keepX hgx fun b hb e => ?_, Nat.le_refl _, ?_, ?_, ?_⟩
  · have := ownBlock_ge ho7 b hb
    have h2 : (w6.alloc (.cells #[.int .i64 0, .bool false, .slice none 0 0] 84)).drew.heap.size = w6.heap.size + 1 := by simp
    omega
  · rw [World.cell?_setCell_other _ _ _ _ (by simp), World.cell?_setCell_other _ _ _ _ (by simp), World.cell?_setCell_same _ _ _ z0]
  · rw [World.cell?_setCell_other _ _ _ _ (by simp), World.cell?_setCell_same _ _ _ ((World.cell?_setCell_other _ _ _ _ (by simp)).trans z1)]
  · rw [World.cell?_setCell_same _ _ _ ((World.cell?_setCell_other _ _ _ _ (by simp)).trans ((World.cell?_setCell_other _ _ _ _ (by simp)).trans z2))]
theorem cutK_iff (leaf : Bool) (half : Nat) : ∀ (l : List En) (acc i : Nat), i ≤ cutK leaf half acc l → i < l.length → (acc + sumE leaf (l.take i) < half ↔ i < cutK leaf half acc l)
  | [], acc, i, _, h => by simp at h
  | e :: l, acc, 0, _, _ => by
    unfold cutK
    rw [List.take_zero]
    simp only [sumE, List.map_nil, List.sum_nil, Nat.add_zero]
    split <;> rename_i hc
    · exact ⟨fun _ => Nat.succ_pos _, fun _ => hc⟩
    · exact ⟨fun h => absurd h hc, fun h => absurd h (by omega)⟩
  | e :: l, acc, i + 1, h, hl => by
    unfold cutK at h ⊢
    split at h <;> rename_i hc
    · rw [if_pos hc]
      have ih := cutK_iff leaf half l (acc + e.sz leaf) i (by omega) (by simpa using hl)
      rw [List.take_succ_cons, sumE_cons]
      constructor
      · intro hh
        have := ih.1 (by omega)
        omega
      · intro hh
        have := ih.2 (by omega)
        omega
    · omega
theorem EntsAt.drop {w : World} {b off : Nat} {l : List En} (h : EntsAt w b off l) (k : Nat) : EntsAt w b (off + k * 3) (l.drop k) := fun i hi => by
  rw [List.length_drop] at hi
  have := h (k + i) (by omega)
  rw [List.getElem_drop, show off + k * 3 + i * 3 = off + (k + i) * 3 by omega]
  exact this
theorem EntsAt.take {w : World} {b off : Nat} {l : List En} (h : EntsAt w b off l) (k : Nat) : EntsAt w b off (l.take k) := fun i hi => by
  rw [List.length_take] at hi
  rw [List.getElem_take]
  exact h i (by omega)
set_option maxRecDepth 100000 in
set_option maxHeartbeats 16000000 in
theorem split_two (h : PgT w PB DB M c sv t d) {TP root : Nat} (ht : TreeAt w TP PB root) {leaf : Bool} {p : Nat} {l : List En} {B cap : Nat} (hB : B < w.heap.size) (hBn : B ≠ PB ∧ B ≠ DB ∧ B ≠ M) (hTn : TP ≠ PB ∧ TP ≠ DB ∧ TP ≠ M) (hcap : l.length ≤ cap) (hE : EntsAt w B 0 l) (hok : ∀ e ∈ l, e.ok leaf) (hb : 1024 < bytesE leaf l) (hb2 : bytesE leaf l ≤ 1400) (hp : InU c p) :
    Calls Try.prog 64 #[.pointer (some ⟨TP, 0, none⟩), nodeV p leaf (.slice (some ⟨B, 0, none⟩) l.length cap)] w fun e w' => ∃ v, e = .returned v ∧ MoreAt w w' v (splitE leaf c p l).2 ∧ PgT w' PB DB M (splitE leaf c p l).1 sv t d ∧ PgF PB DB M M w w' := by
  have hl : l.length ≤ 800 := by
    have := sumE_len leaf l
    unfold bytesE at hb2
    omega
  have hs : IsE w (.slice (some ⟨B, 0, none⟩) l.length cap) l := .inr ⟨B, 0, cap, rfl, hB, hE⟩
  have hby := fun w' (g : Gr w w') => bytes_n p leaf _ l w' (hs.gr g) hok (by omega)
  unfold nodeV at *
  have hg0 : Gr w (w.alloc (.cells #[.int .i64 (p : Int), .bool leaf, .slice (some ⟨B, 0, none⟩) l.length cap] 84)) := (Gr.refl w).alloc _
  have c0 : ∀ w', Gr (w.alloc (.cells #[.int .i64 (p : Int), .bool leaf, .slice (some ⟨B, 0, none⟩) l.length cap] 84)) w' → w'.cell? ⟨w.heap.size, 0, none⟩ = some (.int .i64 (p : Int)) ∧ w'.cell? ⟨w.heap.size, 1, none⟩ = some (.bool leaf) ∧ w'.cell? ⟨w.heap.size, 2, none⟩ = some (.slice (some ⟨B, 0, none⟩) l.length cap) := fun w' g => ⟨g.keeps (by rw [World.cell?_alloc_new]; rfl), g.keeps (by rw [World.cell?_alloc_new]; rfl), g.keeps (by rw [World.cell?_alloc_new]; rfl)⟩
  obtain ⟨k0, k1, k2⟩ := c0 _ (Gr.refl _)
  have hbi : ¬ (bytesE leaf l : Int) ≤ 1024 := by omega
  obtain ⟨NB, hNB⟩ : ∃ NB, w.heap.size = NB := ⟨_, rfl⟩
  obtain ⟨cu1, cu2, cu3, cu4⟩ := cutE_bounds hok hb hb2
  obtain ⟨Bz, hBz⟩ : ∃ Bz, bytesE leaf l = Bz := ⟨_, rfl⟩
  obtain ⟨K, hK⟩ : ∃ K, cutE leaf l = K := ⟨_, rfl⟩
  have hiff := fun i => cutK_iff leaf (Bz / 2) l 0 i
  have hKK : cutK leaf (Bz / 2) 0 l = K := by rw [← hK, ← hBz]; rfl
  rw [hKK] at hiff
  rw [hK] at cu1 cu2 cu3 cu4
  rw [hBz] at hbi hby hb hb2
  have HK := Lib.hid hK
  have HBZ := Lib.hid hBz
  have HIF := Lib.hid hiff
  have HOK := Lib.hid hok
  have HNB := Lib.hid hNB
  clear hK hBz hKK hiff hok
  go_enter Try.func64, Try.ntmps64
  go_wp2_with (go_at_call 77; refine (hby _ hg0).mono ?_; rintro e w1 ⟨rfl, hg1⟩; have hg2 := hg0.trans hg1; obtain ⟨k0, k1, k2⟩ := c0 _ hg1)
  have HG1 := Lib.hid hg1
  clear hg1 k0 k1 k2
  have HG2 := Lib.hid hg2
  have C0 := Lib.hid c0
  rw [HNB.out] at C0
  have hE1 := hE.gr hg2
  go_loopw [6, 7] (fun hv kv w' => ∃ i : Nat, i ≤ K ∧ kv = .int .i64 i ∧ hv = .int .i64 (sumE leaf (l.take i) : Nat) ∧ Gr w1 w') (fun _ kv _ => K - (RowKit.intOf kv).toNat)
  case atStart => exact ⟨0, Nat.zero_le _, rfl, rfl, Gr.refl _⟩
  case round =>
    obtain ⟨i, hi, rfl, rfl, hg⟩ := hrel
    obtain ⟨n0, n1, n2⟩ := C0.out _ (HG1.out.trans hg)
    have hil : i < l.length := by omega
    have hif := HIF.out i hi hil
    rw [Nat.zero_add] at hif
    obtain ⟨c1, c2, c3⟩ := hE1.gr hg i hil
    have hnx := sumE_take_next leaf l i hil
    have hsz := En.sz_le (HOK.out l[i] (List.getElem_mem hil))
    have hcs := size_n p leaf (.slice (some ⟨B, 0, none⟩) l.length cap) l[i] (HOK.out l[i] (List.getElem_mem hil))
    unfold nodeV En.val at hcs
    rw [Nat.zero_add] at c1 c2 c3
    generalize l[i].sz leaf = z at *
    generalize l[i].key = ky at *
    generalize l[i].item = it at *
    generalize (l[i].page : Int) = pgi at *
    have hS2 := hnx
    have hSm : sumE leaf (l.take i) ≤ 200000 := by
      have := sumE_le leaf (l.take i) fun e he => HOK.out e (List.mem_of_mem_take he)
      have : (l.take i).length ≤ 800 := by rw [List.length_take]; omega
      omega
    generalize sumE leaf (l.take i) = S at *
    have HS2 := Lib.hid hnx
    clear hnx hS2
    have hdv : Int.tdiv (Bz : Int) 2 = ((Bz / 2 : Nat) : Int) := by
      rw [Int.tdiv_eq_ediv_of_nonneg (by omega)]
      omega
    obtain ⟨H2, hH2⟩ : ∃ H2, Bz / 2 = H2 := ⟨_, rfl⟩
    rw [hH2] at hif hdv
    have hGW := HG2.out.trans hg
    have HBY := Lib.hid hby
    clear hby
    by_cases hlt : i < K
    · have hh : S < H2 := hif.2 hlt
      have hhi : (S : Int) < (H2 : Int) := by omega
      have hil2 : (i : Int) < (l.length : Int) := by omega
      go_wp2_with (go_at_call 77; refine (HBY.out _ hGW).mono ?_; rintro e w3 ⟨rfl, hg3⟩; obtain ⟨n0, n1, n2⟩ := C0.out _ ((HG1.out.trans hg).trans hg3); (have c1 := hg3.keeps c1); (have c2 := hg3.keeps c2); (have c3 := hg3.keeps c3))
      have hg4 := hGW.trans hg3
      have hgx := hg.trans hg3
      clear hg3
      go_region_with (go_at_call 78; refine (hcs _).mono ?_; rintro e w5 ⟨rfl, hg5⟩)
      all_goals
        go_wp2_with fail
        refine ⟨⟨i + 1, by omega, by go_num, ?_, hgx.trans (gr_undrew hg5)⟩, by simp [RowKit.intOf]; omega⟩
        rw [HS2.out]
        go_num
    · have hiK : i = K := by omega
      subst hiK
      have hh : ¬ S < H2 := fun e => hlt (hif.1 e)
      have hhi : ¬ (S : Int) < (H2 : Int) := by omega
      have tp := (ht.gr hGW).p
      go_wp2_with (go_at_call 77; refine (HBY.out _ hGW).mono ?_; rintro e w3 ⟨rfl, hg3⟩; obtain ⟨n0, n1, n2⟩ := C0.out _ ((HG1.out.trans hg).trans hg3); (have tp := hg3.keeps tp))
      have hg4 := hGW.trans hg3
      have hga := (HG1.out.trans hg).trans hg3
      cases ha : allocF c.h with
      | none =>
        have hv : allocV c = .tuple #[.int .i64 0, .iface 56 (.int .i64 12)] := by unfold allocV; rw [ha]
        have hal := alloc_t (h.gr hg4)
        have hca : c.alloc = c := by unfold Ch.alloc; rw [ha]
        rw [hv, hca] at hal
        have hsp : splitE leaf c p l = (c, none) := by
          unfold splitE
          rw [if_neg (by rw [HBZ.out]; omega), ha]
        have HSP := Lib.hid hsp
        clear hsp
        refine hal.mono ?_
        rintro e w6 ⟨rfl, hp6, hf6⟩
        go_wp2_with fail
        go_ret2
        rw [HSP.out]
        exact ⟨_, rfl, rfl, hp6, (PgF.of_gr PB DB M hg4).trans hf6⟩
      | some q =>
        have hv : allocV c = .tuple #[.int .i64 (q : Int), .nilIface] := by unfold allocV; rw [ha]
        have hal := alloc_t (h.gr hg4)
        rw [hv] at hal
        refine hal.mono ?_
        rintro e w6 ⟨rfl, hp6, hf6⟩
        have hNP : NB ≠ PB ∧ NB ≠ DB ∧ NB ≠ M := by
          have := h.lt
          have := HNB.out
          omega
        have n0 := hf6.keeps hNP.1 hNP.2.1 hNP.2.2 n0
        have n1 := hf6.keeps hNP.1 hNP.2.1 hNP.2.2 n1
        have n2 := hf6.keeps hNP.1 hNP.2.1 hNP.2.2 n2
        have nf : ∀ o, w6.frozen? ⟨NB, o, none⟩ = false := fun o => by
          have := HNB.out
          rw [hf6.2.frozen o (by have := hga.size; simp at this; omega) (fun e => e.elim hNP.1 fun e => e.elim hNP.2.1 hNP.2.2), hga.frozen o (by simp; omega), ← HNB.out]
          simp
        have hE6 := (hE.gr hg4).keepX hf6.2 (fun e => e.elim hBn.1 fun e => e.elim hBn.2.1 hBn.2.2)
        have tp6 := (ht.gr hg4).pg hf6 hTn.1 hTn.2.1 hTn.2.2
        go_wp2_with fail
        have hii : (i : Int) ≤ (l.length : Int) := by omega
        have hci : ¬ cap = i := by omega
        have hcl : ∀ W, Gr w6 W → Calls Try.prog 79 #[.slice (some ⟨B, i * 3, none⟩) (l.length - i) (cap - i)] W fun ex w' => ∃ v', ex = .returned v' ∧ OwnE W w' v' (l.drop i) ∧ Gr W w' := fun W g =>
          clone_e (l.drop i) _ W (.inr ⟨B, i * 3, cap - i, by rw [List.length_drop], Nat.lt_of_lt_of_le hB (Nat.le_trans (Nat.le_trans hg4.size hf6.size) g.size), by have := (hE6.gr g).drop i; rwa [Nat.zero_add] at this⟩) (by rw [List.length_drop]; omega)
        have HCL := Lib.hid hcl
        clear hcl
        have hz : ∀ W', Gr (w6.alloc (.cells #[.int .i64 0, .bool false, .slice none 0 0] 84)).drew W' → (W'.cell? ⟨w6.heap.size, 0, none⟩ = some (.int .i64 0) ∧ W'.cell? ⟨w6.heap.size, 1, none⟩ = some (.bool false) ∧ W'.cell? ⟨w6.heap.size, 2, none⟩ = some (.slice none 0 0)) ∧ ∀ o, W'.frozen? ⟨w6.heap.size, o, none⟩ = false := fun W' g => by
          have g' := gr_undrew g
          exact ⟨⟨g'.keeps (by rw [World.cell?_alloc_new]; rfl), g'.keeps (by rw [World.cell?_alloc_new]; rfl), g'.keeps (by rw [World.cell?_alloc_new]; rfl)⟩, fun o => (g'.frozen o (by simp)).trans (by simp)⟩
        have HZ := Lib.hid hz
        clear hz
        have g6 : Gr w6 (w6.alloc (.cells #[.int .i64 0, .bool false, .slice none 0 0] 84)) := (Gr.refl w6).alloc _
        have y0 := g6.keeps n0
        have y1 := g6.keeps n1
        have y2 := g6.keeps n2
        clear g6
        have HLD := Lib.hid (List.length_drop (i := i) (l := l))
        go_cut [10] (fun s10 wx => ∃ MB a7 c7, s10 = .pointer (some ⟨MB, 0, none⟩) ∧ CloneAt w6 wx MB a7 c7 q leaf (List.drop i l))
        case first =>
          go_region_with (go_at_call 79; first
            | ((with_reducible refine (HCL.out w6.drew ?_).mono ?_); (repeat (with_reducible first | exact Gr.refl _ | refine Gr.drew ?_ | refine Gr.alloc ?_ _)); rintro e w7 ⟨v7, rfl, ho7, hg7⟩; obtain ⟨a7, c7, rfl⟩ := ho7.form; (have q0 := (gr_undrew hg7).keeps n0); (have q1 := (gr_undrew hg7).keeps n1); (have q2 := (gr_undrew hg7).keeps n2); (have r1 := ((Gr.refl w7).alloc (.cells #[.int .i64 0, .bool false, .slice none 0 0] 84)).keeps q1))
            | ((with_reducible refine (HCL.out (w6.alloc (.cells #[.int .i64 0, .bool false, .slice none 0 0] 84)).drew ?_).mono ?_); (repeat (with_reducible first | exact Gr.refl _ | refine Gr.drew ?_ | refine Gr.alloc ?_ _)); rintro e w7 ⟨v7, rfl, ho7, hg7⟩; obtain ⟨a7, c7, rfl⟩ := ho7.form; obtain ⟨⟨z0, z1, z2⟩, zf⟩ := HZ.out _ hg7; (have q0 := (gr_undrew hg7).keeps y0); (have q1 := (gr_undrew hg7).keeps y1); (have q2 := (gr_undrew hg7).keeps y2)))
          all_goals
            go_wp2_with fail
            go_meet
            rw [← HLD.out]
            first
              | exact ⟨_, _, _, rfl, cloneA hg7 ho7⟩
              | exact ⟨_, _, _, rfl, cloneB hg7 ho7 z0 z1 z2⟩
        case rest =>
          obtain ⟨MB, a7, c7, rfl, hC⟩ := hcut
          have m0 := hC.g.keeps n0
          have m1 := hC.g.keeps n1
          have m2 := hC.g.keeps n2
          have mf : wc.frozen? ⟨NB, 2, none⟩ = false := (hC.g.frozen 2 (lt_of_cell n0)).trans (nf 2)
          have HC := Lib.hid hC
          have e0 := hC.c0
          have e1 := hC.c1
          have e2 := hC.c2
          clear hC y0 y1 y2 HZ HCL
          have hTN : TP ≠ NB := by
            have := lt_of_cell ht.p
            have := HNB.out
            omega
          have hMN : MB ≠ NB := by
            have := lt_of_cell n0
            have := HC.out.ge
            omega
          have gS : GrX (fun b => b = NB) wc (wc.setCell ⟨NB, 2, none⟩ (.slice (some ⟨B, 0, none⟩) i cap)) := GrX.setCell (S := fun b => b = NB) (p := ⟨NB, 2, none⟩) wc _ rfl
          have pS := (hp6.gr HC.out.g).keepX gS (fun e => hNP.1 e.symm) (fun e => hNP.2.1 e.symm) (fun e => hNP.2.2 e.symm)
          have tS : TreeAt (wc.setCell ⟨NB, 2, none⟩ (.slice (some ⟨B, 0, none⟩) i cap)) TP PB root := ⟨gS.keeps hTN (tp6.gr HC.out.g).p, gS.keeps hTN (tp6.gr HC.out.g).r⟩
          have hBN : B ≠ NB := by
            have := HNB.out
            omega
          have iS : IsE (wc.setCell ⟨NB, 2, none⟩ (.slice (some ⟨B, 0, none⟩) i cap)) (.slice (some ⟨B, 0, none⟩) i cap) (l.take i) := by
            refine .inr ⟨B, 0, cap, ?_, ?_, ((hE6.gr HC.out.g).keepX gS hBN).take i⟩
            · rw [List.length_take, Nat.min_eq_left (Nat.le_of_lt cu2)]
            · have := HC.out.g.size
              have := gS.2.2.2.1
              have := hg4.size
              have := hf6.size
              omega
          have okT : ∀ e ∈ l.take i, e.ok leaf := fun e he => HOK.out e (List.mem_of_mem_take he)
          have okD : ∀ e ∈ l.drop i, e.ok leaf := fun e he => HOK.out e (List.mem_of_mem_drop he)
          obtain ⟨u1, u2, u3, u4, u5⟩ := alloc_fr (pg := d.pg) h.f ha
          have hpA : InU c.alloc p := u1.inU hp (by simp)
          have hw8 := write_n pS tS iS okT cu3 hpA
          have ownS := HC.out.own.keepX gS (fun b hb e => by
            have := ownBlock_ge HC.out.own b hb
            have := lt_of_cell n0
            omega)
          have s0 := gS.keeps hMN e0
          have s1 := gS.keeps hMN e1
          have s2 := gS.keeps hMN e2
          have HPS := Lib.hid pS
          have HTS := Lib.hid tS
          have hMP : MB ≠ PB ∧ MB ≠ DB ∧ MB ≠ M := by
            have := hp6.lt
            have := HC.out.ge
            omega
          have HGS := Lib.hid gS
          unfold nodeV at hw8
          clear pS tS gS e0 e1 e2
          go_wp2_with (refine hw8.mono ?_; rintro e w8 ⟨rfl, hp8, hf8⟩)
          have s0 := hf8.keeps hMP.1 hMP.2.1 hMP.2.2 s0
          have s1 := hf8.keeps hMP.1 hMP.2.1 hMP.2.2 s1
          have s2 := hf8.keeps hMP.1 hMP.2.1 hMP.2.2 s2
          have own8 := ownS.keepX hf8.2 (fun b hb e => by
            have := ownBlock_ge ownS b hb
            have := hp6.lt
            omega)
          have F8 : PgF PB DB M M w w8 := by
            have x1 := ((PgF.of_gr PB DB M hg4).trans hf6).trans (PgF.of_gr PB DB M HC.out.g)
            exact (x1.own HGS.out (fun j e => by have := HNB.out; omega)).trans hf8
          cases hld : l.drop i with
          | nil =>
            have := congrArg List.length hld
            rw [List.length_drop, List.length_nil] at this
            omega
          | cons e9 r9 =>
            rw [hld] at own8 okD s2
            obtain ⟨A, c9, e9', _, _, hA, hEn, _⟩ : ∃ A cap, (.slice a7 (e9 :: r9).length c7 : Value) = .slice (some ⟨A, 0, none⟩) (e9 :: r9).length cap ∧ (e9 :: r9).length ≤ cap ∧ w6.heap.size ≤ A ∧ A < w8.heap.size ∧ EntsAt w8 A 0 (e9 :: r9) ∧ ∀ o, w8.frozen? ⟨A, o, none⟩ = false := own8.at'.resolve_left (fun h => by simpa using h.2)
            obtain ⟨rfl, rfl⟩ : a7 = some ⟨A, 0, none⟩ ∧ c7 = c9 := by
              injection e9' with e1 e2 e3
              exact ⟨e1, e3⟩
            have q1 := (hEn 0 (by simp)).1
            have hspl : splitE leaf c p l = (((c.alloc.write (p : Nat) (pageE leaf (l.take i))).write (q : Nat) (pageE leaf (e9 :: r9))), some (some ⟨e9.key, noB, q⟩)) := by
              unfold splitE
              rw [if_neg (by rw [HBZ.out]; omega), ha]
              simp only [HK.out, hld]
              rfl
            have HSP := Lib.hid hspl
            have hA8 : InU (c.alloc.write (p : Nat) (pageE leaf (l.take i))) q := by
              obtain ⟨v1, v2, v3⟩ := write_fr (pg := d.pg) u1.fine hpA (pageE_size okT cu3)
              exact v1.inU u2 (by
                intro e
                have : q = p := by simpa using e
                rw [this, hp.2.2] at u3
                exact Bool.noConfusion u3)
            have T8 : TreeAt w8 TP PB root := HTS.out.pg hf8 hTn.1 hTn.2.1 hTn.2.2
            have hb9 : bytesE leaf (e9 :: r9) ≤ 1024 := by rw [← hld]; exact cu4
            obtain ⟨L, hL⟩ : ∃ L, (e9 :: r9).length = L := ⟨_, rfl⟩
            have hL0 : 0 < L := by rw [← hL]; simp
            have hLi : (0 : Int) < (L : Int) := by omega
            have is8 := own8.isE
            rw [hL] at is8 s2
            have hwm := fun W (g : Gr w8 W) => write_n (hp8.gr g) (T8.gr g) (is8.gr g) okD hb9 hA8
            unfold nodeV at hwm
            have HWM := Lib.hid hwm
            clear hwm hspl is8 hL
            have q1' : w8.cell? ⟨A, 0, none⟩ = some (.string e9.key) := q1
            have hAP : A ≠ PB ∧ A ≠ DB ∧ A ≠ M := by
              have := hp6.lt
              omega
            generalize pageE leaf (e9 :: r9) = P9 at *
            generalize e9.key = k9 at *
            have Y0 : w8.drew.cell? ⟨MB, 0, none⟩ = some (.int .i64 (q : Int)) := s0
            have Y1 : w8.drew.cell? ⟨MB, 1, none⟩ = some (.bool leaf) := s1
            have Y2 : w8.drew.cell? ⟨MB, 2, none⟩ = some (.slice (some ⟨A, 0, none⟩) L c7) := s2
            have Y3 : w8.drew.cell? ⟨A, 0, none⟩ = some (.string k9) := q1'
            have Gc : Gr w8 w8.drew := (Gr.refl w8).drew
            have ga : Gr w8 (w8.alloc (.cells #[.string k9, .string ⟨#[]⟩, .int .i64 (q : Int)] 72)) := (Gr.refl w8).alloc _
            have b0 := ga.keeps s0
            have b1 := ga.keeps s1
            have b2 := ga.keeps s2
            have HGA := Lib.hid ga
            have HF8 := Lib.hid F8
            have HP8 := Lib.hid hp8
            have hn8 : w8.heap.size ≠ PB ∧ w8.heap.size ≠ DB ∧ w8.heap.size ≠ M := by
              have := hp8.lt
              omega
            have hfin1 : ∀ w9, PgT w9 PB DB M ((c.alloc.write (p : Nat) (pageE leaf (l.take i))).write (q : Nat) P9) sv t d → PgF PB DB M M w8.drew w9 → ∃ v, (Ending.returned (.tuple #[.pointer (some ⟨w9.heap.size, 0, none⟩), .nilIface]) : Ending) = .returned v ∧ MoreAt w (w9.alloc (.cells #[.string k9, .string ⟨#[]⟩, .int .i64 (q : Int)] 72)) v (splitE leaf c p l).2 ∧ PgT (w9.alloc (.cells #[.string k9, .string ⟨#[]⟩, .int .i64 (q : Int)] 72)) PB DB M (splitE leaf c p l).1 sv t d ∧ PgF PB DB M M w (w9.alloc (.cells #[.string k9, .string ⟨#[]⟩, .int .i64 (q : Int)] 72)) := by
              intro w9 x1 x2
              rw [HSP.out]
              have x3 := HF8.out.trans ((PgF.of_gr PB DB M Gc).trans x2)
              have x4 : Gr w9 (w9.alloc (.cells #[.string k9, .string ⟨#[]⟩, .int .i64 (q : Int)] 72)) := (Gr.refl w9).alloc _
              exact ⟨_, rfl, ⟨w9.heap.size, rfl, x3.size, by rw [World.cell?_alloc_new]; rfl, by rw [World.cell?_alloc_new]; rfl, by rw [World.cell?_alloc_new]; rfl⟩, x1.gr x4, x3.trans (PgF.of_gr PB DB M x4)⟩
            have hfin2 : ∀ w9, PgT w9 PB DB M ((c.alloc.write (p : Nat) (pageE leaf (l.take i))).write (q : Nat) P9) sv t d → PgF PB DB M M (w8.alloc (.cells #[.string k9, .string ⟨#[]⟩, .int .i64 (q : Int)] 72)).drew w9 → ∃ v, (Ending.returned (.tuple #[.pointer (some ⟨w8.heap.size, 0, none⟩), .nilIface]) : Ending) = .returned v ∧ MoreAt w w9 v (splitE leaf c p l).2 ∧ PgT w9 PB DB M (splitE leaf c p l).1 sv t d ∧ PgF PB DB M M w w9 := by
              intro w9 x1 x2
              rw [HSP.out]
              have x3 := (PgF.of_gr PB DB M HGA.out.drew).trans x2
              exact ⟨_, rfl, ⟨w8.heap.size, rfl, HF8.out.size, x2.keeps hn8.1 hn8.2.1 hn8.2.2 (by rw [World.cell?_drew, World.cell?_alloc_new]; rfl), x2.keeps hn8.1 hn8.2.1 hn8.2.2 (by rw [World.cell?_drew, World.cell?_alloc_new]; rfl), x2.keeps hn8.1 hn8.2.1 hn8.2.2 (by rw [World.cell?_drew, World.cell?_alloc_new]; rfl)⟩, x1, HF8.out.trans x3⟩
            have FIN1 := Lib.hid hfin1
            have FIN2 := Lib.hid hfin2
            clear hfin1 hfin2
            clear ga F8 hp8
            go_region_with (go_at_call 40; first
              | ((with_reducible refine (HWM.out w8.drew ?_).mono ?_); (with_reducible exact Gc); rintro e w9 ⟨rfl, hp9, hf9⟩; (have t2 := hf9.keeps hMP.1 hMP.2.1 hMP.2.2 Y2); (have t3 := hf9.keeps hAP.1 hAP.2.1 hAP.2.2 Y3))
              | ((with_reducible refine (HWM.out (w8.alloc (.cells #[.string k9, .string ⟨#[]⟩, .int .i64 (q : Int)] 72)).drew ?_).mono ?_); (with_reducible exact HGA.out.drew); rintro e w9 ⟨rfl, hp9, hf9⟩))
            all_goals
              go_wp2_with fail
              go_ret2
              first
                | exact FIN1.out _ hp9 hf9
                | exact FIN2.out _ hp9 hf9
end
end Go.Proofs.Ytmjkalpjciddbaa
