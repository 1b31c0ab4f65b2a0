/-
  Pairs in memory.
-/
import Derived.Test.YtmjkalpjciddbaaMg10
import Derived.Test.YtmjkalpjciddbaaMg13
import Derived.Deep.DeepCutAuto
import Derived.Laws.EntriesVeiled
namespace Go.Proofs.Ytmjkalpjciddbaa
open Go Go.RowKit Go.Lib

abbrev GPair : Type := ByteArray × ByteArray
def pcells (x : GPair) : List Value := [.string x.1, .string x.2]
def cellsP (l : List GPair) : List Value := l.flatMap pcells
/-- A slice of pairs in a block that was made behind so many blocks. -/
def OwnP (n : Nat) (w : World) (v : Value) (l : List GPair) : Prop := w.ownsRow n 78 2 v l.length (cellsP l)
theorem OwnP.row {n : Nat} {w : World} {v : Value} {l : List GPair} (h : OwnP n w v l) : w.ownsRow n 78 2 v l.length (cellsP l) := h
theorem info_pair : (Try.prog.info? 78).map (fun i => (i.zero, i.size, i.bytes)) = some (some (.agg #[.string ⟨#[]⟩, .string ⟨#[]⟩]), 2, 32) := by kernel_rfl
theorem info_pair_parts : ∃ i0, Try.prog.info? 78 = some i0 ∧ i0.zero = some (.agg #[.string ⟨#[]⟩, .string ⟨#[]⟩]) ∧ i0.size = 2 ∧ i0.bytes = 32 := by
  have h := info_pair
  cases h0 : Try.prog.info? 78 with
  | none => rw [h0] at h; cases h
  | some i0 =>
    rw [h0] at h
    have h := Option.some.inj h
    simp only [Prod.mk.injEq] at h
    exact ⟨i0, rfl, h.1, h.2.1, h.2.2⟩
theorem cellsP_append (a b : List GPair) : cellsP (a ++ b) = cellsP a ++ cellsP b := by
  unfold cellsP
  rw [List.flatMap_append]
theorem cellsP_len : ∀ l : List GPair, (cellsP l).length = l.length * 2
  | [] => rfl
  | e :: l => by
    have := cellsP_len l
    unfold cellsP at *
    rw [List.flatMap_cons, List.length_append, this]
    simp only [pcells, List.length_cons, List.length_nil]
    omega
theorem cellsP_get : ∀ (l : List GPair) (i : Nat) (h : i < l.length), (cellsP l)[i * 2]? = some (.string l[i].1) ∧ (cellsP l)[i * 2 + 1]? = some (.string l[i].2)
  | e :: l, 0, _ => ⟨rfl, rfl⟩
  | e :: l, i + 1, h => by
    obtain ⟨h1, h2⟩ := cellsP_get l i (by simpa using h)
    have e1 : cellsP (e :: l) = .string e.1 :: .string e.2 :: cellsP l := rfl
    rw [e1, show (i + 1) * 2 = i * 2 + 1 + 1 by omega]
    simp only [List.getElem?_cons_succ, List.getElem_cons_succ, h1, h2, and_self]
theorem OwnP.at' {n : Nat} {w : World} {v : Value} {l : List GPair} (h : OwnP n w v l) : (v = .slice none 0 0 ∧ l = []) ∨ ∃ B cap, v = .slice (some ⟨B, 0, none⟩) l.length cap ∧ l.length ≤ cap ∧ n ≤ B ∧ B < w.heap.size ∧ (∀ i (h : i < l.length), w.cell? ⟨B, i * 2, none⟩ = some (.string l[i].1) ∧ w.cell? ⟨B, i * 2 + 1, none⟩ = some (.string l[i].2)) ∧ ∀ o, w.frozen? ⟨B, o, none⟩ = false := by
  have hc := fun g hg => World.ownsRow.cells (g := g) h.row hg
  rcases h.row.2 with ⟨rfl, h0⟩ | ⟨g, cap, cur, rfl, hb, hh, hle, _⟩
  · exact .inl ⟨rfl, List.eq_nil_of_length_eq_zero h0⟩
  · refine .inr ⟨g, cap, rfl, hle, hb, (Array.getElem?_eq_some_iff.1 hh).1, fun i hi => ?_, fun o => Lib.frozen_of_heap hh _⟩
    have hg := cellsP_get l i hi
    have c1 := hc g rfl _ _ hg.1
    have c2 := hc g rfl _ _ hg.2
    have e : ∀ j, (⟨g, 0, none⟩ : Addr).add j = ⟨g, j, none⟩ := by
      intro j; unfold Addr.add; split <;> simp_all
    rw [e] at c1 c2
    exact ⟨c1, c2⟩
theorem OwnP.form {n : Nat} {w : World} {v : Value} {l : List GPair} (h : OwnP n w v l) : ∃ ao c, v = .slice ao l.length c := by
  rcases h.at' with ⟨rfl, rfl⟩ | ⟨B, cap, rfl, _⟩
  · exact ⟨none, 0, rfl⟩
  · exact ⟨_, cap, rfl⟩
theorem OwnP.gr {n : Nat} {w w' : World} {v : Value} {l : List GPair} (h : OwnP n w v l) (g : Gr w w') : OwnP n w' v l := ownsRow_gr h g
theorem OwnP.nil (n : Nat) (w : World) : OwnP n w (.slice none 0 0) [] := World.ownsRow_nil _ _ _ _
theorem OwnP.keepX {S : Nat → Prop} {n : Nat} {w w' : World} {v : Value} {l : List GPair} (h : OwnP n w v l) (g : GrX S w w') (hs : ∀ b, v.ownBlock = some b → ¬ S b) : OwnP n w' v l := by
  refine ⟨h.row.1, ?_⟩
  rcases h.row.2 with h1 | ⟨g', cap, cur, h1, hb, hh, h2⟩
  · exact .inl h1
  · exact .inr ⟨g', cap, cur, h1, hb, (g.block (Array.getElem?_eq_some_iff.1 hh).1 (hs g' (by rw [h1]; rfl))).trans hh, h2⟩
theorem ownP_ge {n : Nat} {w : World} {v : Value} {l : List GPair} (h : OwnP n w v l) : ∀ b, v.ownBlock = some b → n ≤ b := ownBlock_ge h
theorem ownP_lt {n : Nat} {w : World} {v : Value} {l : List GPair} (h : OwnP n w v l) : ∀ b, v.ownBlock = some b → b < w.heap.size := ownBlock_lt h
theorem pcells_one (x : GPair) : ∀ u ∈ pcells x, u.oneCell' = true := by
  intro u hu
  unfold pcells at hu
  simp only [List.mem_cons, List.not_mem_nil, or_false] at hu
  rcases hu with h | h <;> (rw [h]; rfl)
/-- 'append(out, Pair{..})'. -/
theorem append_pair {n : Nat} {w : World} {ops : Array Oper} {rest : List Oper} {o : Oper} {a : Act} {Q : Exit → Act → World → Prop} (hgd : o.guard = none) (s x : Operand)
    (ho : o.op = .call { callee := .builtin .append, args := #[s, x], argTypes := #[74, 74] }) (v : Value) (us : List GPair) (e : GPair) (hs : a.eval s = v) (hown : OwnP n w v us) (B : Nat) (hB : w.heap.size = B) (hx : a.eval x = .slice (some ⟨B, 0, none⟩) 1 1) (hl : us.length ≤ 100000000) (hn : n ≤ w.heap.size)
    (h : ∀ v' w', OwnP n w' v' (us ++ [e]) → GrX (fun b => v.ownBlock = some b) w w' → (v'.ownBlock = v.ownBlock ∨ ∃ b, v'.ownBlock = some b ∧ w.heap.size ≤ b) → wpList Try.prog ops Q rest (a.put o.dst v') w') : wpList Try.prog ops Q (o :: rest) a (w.alloc (.cells #[.string e.1, .string e.2] 78)) := by
  obtain ⟨i0, hinf, hz0, hz1, hz2⟩ := info_pair_parts
  subst hB
  refine wpList_append_own_at _ hgd s x 74 ho n 78 i0 (.agg #[.string ⟨#[]⟩, .string ⟨#[]⟩]) 2 32 Try.underlying74 hinf hz0 hz1 hz2 rfl (by decide) v us.length (cellsP us) hs (hown.gr ((Gr.refl w).alloc _)) ⟨w.heap.size, 0, none⟩ 1 1 (pcells e) hx rfl ?_ (pcells_one e) (by unfold maxLen; omega) (by omega) (by simp; omega)
    (fun v' w' h1 h2 _ h4 => h v' w' ?_ ⟨h2.os, h2.tape, h2.output, by have := h2.size; simp at this; omega, fun k hk hs => (h2.block k (by simp; omega) (fun e => hs e.symm)).trans (Below.heap_alloc _ _ _ hk)⟩ ?_)
  · intro j u hj
    rw [add_lit3, World.cell?_alloc_new, Nat.zero_add]
    simpa [pcells] using hj
  · unfold OwnP
    rw [List.length_append, cellsP_append]
    have : cellsP [e] = pcells e := by unfold cellsP; simp
    rw [this]
    exact h1
  · rcases h4 with h4 | h4
    · exact .inl h4
    · refine .inr ⟨_, h4, ?_⟩
      simp
end Go.Proofs.Ytmjkalpjciddbaa

/-
  (*Tree).Walk's closure at a leaf.
-/
namespace Go.Proofs.Ytmjkalpjciddbaa
open Go Go.RowKit

/-- What the closure has captured, besides what it writes. -/
structure WkS (w : World) (FT FF FM FO FW TP : Nat) (from_ : ByteArray) : Prop where
  ft : w.cell? ⟨FT, 0, none⟩ = some (.pointer (some ⟨TP, 0, none⟩))
  ff : w.cell? ⟨FF, 0, none⟩ = some (.string from_)
  fm : w.cell? ⟨FM, 0, none⟩ = some (.int .i64 (-1))
  fw : w.cell? ⟨FW, 0, none⟩ = some (.func (.func 43) #[] #[.pointer (some ⟨FT, 0, none⟩), .pointer (some ⟨FF, 0, none⟩), .pointer (some ⟨FM, 0, none⟩), .pointer (some ⟨FO, 0, none⟩), .pointer (some ⟨FW, 0, none⟩)])
  ne : FO ≠ FT ∧ FO ≠ FF ∧ FO ≠ FM ∧ FO ≠ FW
theorem WkS.keepX {S : Nat → Prop} {w w' : World} {FT FF FM FO FW TP : Nat} {s : ByteArray} (h : WkS w FT FF FM FO FW TP s) (g : GrX S w w') (h1 : ¬ S FT) (h2 : ¬ S FF) (h3 : ¬ S FM) (h4 : ¬ S FW) : WkS w' FT FF FM FO FW TP s :=
  ⟨g.keeps h1 h.ft, g.keeps h2 h.ff, g.keeps h3 h.fm, g.keeps h4 h.fw, h.ne⟩
theorem WkS.gr {w w' : World} {FT FF FM FO FW TP : Nat} {s : ByteArray} (h : WkS w FT FF FM FO FW TP s) (g : Gr w w') : WkS w' FT FF FM FO FW TP s := ⟨g.keeps h.ft, g.keeps h.ff, g.keeps h.fm, g.keeps h.fw, h.ne⟩
/-- What the closure writes: the pairs so far. -/
structure OutS (n : Nat) (w : World) (FO : Nat) (v : Value) (out : List GPair) : Prop where
  c : w.cell? ⟨FO, 0, none⟩ = some v
  f : w.frozen? ⟨FO, 0, none⟩ = false
  o : OwnP n w v out
theorem OutS.gr {n : Nat} {w w' : World} {FO : Nat} {v : Value} {out : List GPair} (h : OutS n w FO v out) (g : Gr w w') : OutS n w' FO v out := ⟨g.keeps h.c, (g.frozen 0 (lt_of_cell h.c)).trans h.f, h.o.gr g⟩
/-- It was called: so many pairs more. -/
def WkP (n : Nat) (w w' : World) (FO : Nat) (v : Value) (out : List GPair) : Prop := ∃ v', OutS n w' FO v' out ∧ GrX (fun b => b = FO ∨ v.ownBlock = some b) w w' ∧ OwnTo v v' w
theorem GrX.ownS {S T : Nat → Prop} {w w1 w2 : World} (h : GrX S w w1) (k : GrX T w1 w2) (ht : ∀ j, T j → S j ∨ w.heap.size ≤ j) : GrX S w w2 :=
  ⟨k.1.trans h.1, k.2.1.trans h.2.1, k.2.2.1.trans h.2.2.1, Nat.le_trans h.2.2.2.1 k.2.2.2.1, fun j hj hs => (k.block (Nat.lt_of_lt_of_le hj h.2.2.2.1) (fun e => (ht j e).elim hs fun e => by omega)).trans (h.block hj hs)⟩
def pairE (e : En) : GPair := (e.key, e.item)
section
variable {w : World} {PB DB M : Nat} {c : Ch} {sv : Head} {t : Int} {d : Dk}
set_option maxRecDepth 100000 in
set_option maxHeartbeats 4000000 in
theorem walk_leaf (h : PgT w PB DB M c sv t d) {TP root : Nat} (ht : TreeAt w TP PB root) {p : Nat} {l : List En} (hp : HasN c d.pg true p l) (hok : ∀ e ∈ l, e.ok true) (hb : bytesE true l ≤ 1024) {FT FF FM FO FW : Nat} {s : ByteArray} (hw : WkS w FT FF FM FO FW TP s)
    {n : Nat} {v : Value} {out : List GPair} (ho : OutS n w FO v out) (hn : FT < n ∧ FF < n ∧ FM < n ∧ FO < n ∧ FW < n) (hnw : n ≤ w.heap.size) (hlen : out.length + 600 ≤ 100000000) :
    Calls Try.prog 43 #[.int .i64 (p : Int), .pointer (some ⟨FT, 0, none⟩), .pointer (some ⟨FF, 0, none⟩), .pointer (some ⟨FM, 0, none⟩), .pointer (some ⟨FO, 0, none⟩), .pointer (some ⟨FW, 0, none⟩)] w fun e w' => e = .returned .nilIface ∧ WkP n w w' FO v (out ++ (l.drop (searchE (keysE l) s)).map pairE) := by
  have hrd := read_n h.s ht hp hok hb
  obtain ⟨K, hK⟩ : ∃ K, searchE (keysE l) s = K := ⟨_, rfl⟩
  have hKl : K ≤ l.length := by
    have := searchE_le (keysE l) s
    have h2 : (keysE l).length = l.length := by unfold keysE; rw [List.length_map]
    omega
  have hl : l.length ≤ 600 := by
    have := sumE_len true l
    unfold bytesE at hb
    omega
  rw [hK]
  obtain ⟨RR, hRR⟩ : ∃ RR, out ++ (l.drop K).map pairE = RR := ⟨_, rfl⟩
  rw [hRR]
  have HRR := Lib.hid hRR
  clear hRR
  have ft := hw.ft
  have ff := hw.ff
  have fm := hw.fm
  have fo := ho.c
  have HRD := Lib.hid hrd
  have HW := Lib.hid hw
  have HO := Lib.hid ho
  clear hrd
  go_enter Try.func43, Try.ntmps43
  go_wp2_with fail
  refine HRD.out.mono ?_
  rintro e w1 ⟨s', rfl, ho1, hg1⟩
  obtain ⟨ao, ca, rfl⟩ := ho1.form
  have hfn := fun W (g : Gr w1 W) => find_n p true l (.slice ao l.length ca) s W (ho1.isE.gr g) (by omega)
  simp only [if_true, hK] at hfn
  unfold nodeV at *
  have HFN := Lib.hid hfn
  clear hfn
  replace ft := hg1.keeps ft
  replace ff := hg1.keeps ff
  replace fm := hg1.keeps fm
  replace fo := hg1.keeps fo
  have hga : Gr w1 (w1.alloc (.cells #[.int .i64 (p : Int), .bool true, .slice ao l.length ca] 84)) := (Gr.refl w1).alloc _
  replace ft := hga.keeps ft
  replace ff := hga.keeps ff
  replace fm := hga.keeps fm
  replace fo := hga.keeps fo
  have k0 : (w1.alloc (.cells #[.int .i64 (p : Int), .bool true, .slice ao l.length ca] 84)).cell? ⟨w1.heap.size, 0, none⟩ = some (.int .i64 (p : Int)) := by rw [World.cell?_alloc_new]; rfl
  have k1 : (w1.alloc (.cells #[.int .i64 (p : Int), .bool true, .slice ao l.length ca] 84)).cell? ⟨w1.heap.size, 1, none⟩ = some (.bool true) := by rw [World.cell?_alloc_new]; rfl
  have k2 : (w1.alloc (.cells #[.int .i64 (p : Int), .bool true, .slice ao l.length ca] 84)).cell? ⟨w1.heap.size, 2, none⟩ = some (.slice ao l.length ca) := by rw [World.cell?_alloc_new]; rfl
  go_wp2_with fail
  obtain ⟨NB, hNB⟩ : ∃ NB, w1.heap.size = NB := ⟨_, rfl⟩
  rw [hNB] at k0 k1 k2 ⊢
  refine (HFN.out _ hga).mono ?_
  rintro e w2 ⟨rfl, hg3⟩
  replace ft := hg3.keeps ft
  replace ff := hg3.keeps ff
  replace fm := hg3.keeps fm
  replace fo := hg3.keeps fo
  replace k0 := hg3.keeps k0
  replace k1 := hg3.keeps k1
  replace k2 := hg3.keeps k2
  have hKi : (K : Int) ≤ (l.length : Int) := by omega
  have hNw : w.heap.size ≤ NB := by
    rw [← hNB]
    exact hg1.size
  have hgw := (hg1.trans hga).trans hg3
  have hL0 : Hid (∃ v', OutS n w2 FO v' (out ++ ((l.drop K).take 0).map pairE) ∧ GrX (fun b => b = FO ∨ v.ownBlock = some b) w2 w2 ∧ OwnTo v v' w2) := Lib.hid ⟨v, by
    rw [List.take_zero, List.map_nil, List.append_nil]
    exact HO.out.gr hgw, GrX.refl _ _, fun b hb => .inl hb⟩
  have HGW := Lib.hid hgw
  have HK := Lib.hid hK
  have ho2 := ho1.gr (hga.trans hg3)
  have HO2 := Lib.hid ho2
  have HNW := Lib.hid hNw
  clear hgw hK ho2 hNw hNB
  rcases Nat.lt_or_ge K l.length with hKl2 | hKl2
  · rcases ho1.at' with ⟨_, e2⟩ | ⟨B, cap, e3, h2, h3, h4, h5, h6⟩
    · rw [e2] at hKl2
      exact absurd hKl2 (by simp)
    obtain ⟨rfl, rfl⟩ : ao = some ⟨B, 0, none⟩ ∧ ca = cap := by
      injection e3 with e1 e2 e3
      exact ⟨e1, e3⟩
    have hcK : ¬ ca = K := by omega
    have H5 := Lib.hid (h5.gr (hga.trans hg3))
    have hBn : n ≤ B := by omega
    have hvB : ∀ b, v.ownBlock = some b → b < w.heap.size := fun b hb => ownP_lt HO.out.o b hb
    have HVB := Lib.hid hvB
    clear h5 h6 hvB e3
    go_wp2_with fail
    have hBw2 : B < w2.heap.size := by
      have := hga.size
      have := hg3.size
      omega
    have hm : ((l.length - K : Nat) : Int) = ((l.length - K : Nat) : Int) := rfl
    go_loopw [35] (fun iv w' => ∃ (i : Nat), i ≤ l.length - K ∧ iv = .int .i64 i ∧ ∃ v', OutS n w' FO v' (out ++ ((l.drop K).take i).map pairE) ∧ GrX (fun b => b = FO ∨ v.ownBlock = some b) w2 w' ∧ OwnTo v v' w2) (fun iv _ => l.length - K - (RowKit.intOf iv).toNat)
    case atStart => exact ⟨0, Nat.zero_le _, rfl, hL0.out⟩
    case round =>
      obtain ⟨i, hi, rfl, v', hO, hG, hT⟩ := hrel
      by_cases hlt : i < l.length - K
      · have hlti : (i : Int) < ((l.length - K : Nat) : Int) := by omega
        have hS : ∀ j, (j < n ∧ j ≠ FO) ∨ w.heap.size ≤ j → ¬ (j = FO ∨ v.ownBlock = some j) := fun j hj e => by
          rcases e with e | e
          · omega
          · have h8 := HVB.out j e
            have h9 := ownP_ge HO.out.o j e
            omega
        have hne := HW.out.ne
        replace fm := hG.keeps (hS FM (.inl ⟨hn.2.2.1, fun e => hne.2.2.1 e.symm⟩)) fm
        replace k1 := hG.keeps (hS NB (.inr HNW.out)) k1
        obtain ⟨b0, b1, b2⟩ := (H5.out.keepX hG (hS B (.inr h3))) (K + i) (by omega)
        rw [show 0 + (K + i) * 3 = K * 3 + i * 3 by omega] at b0 b1 b2
        replace fo := hO.c
        have ff' := hO.f
        have HTE : Hid ((l.drop K).take (i + 1) = (l.drop K).take i ++ [l[K + i]]) := Lib.hid (by
          rw [List.take_succ_eq_append_getElem (by rw [List.length_drop]; exact hlt), List.getElem_drop])
        generalize l[K + i] = en at *
        obtain ⟨ky, it, pgi⟩ := en
        have HOO := Lib.hid hO
        have HG := Lib.hid hG
        have HT := Lib.hid hT
        have HS := Lib.hid hS
        clear hO hG hT hS hne hm
        have hgb : Gr wr (wr.alloc (.cells #[.string ky, .string it, .int .i64 (pgi : Int)] 72)) := (Gr.refl wr).alloc _
        replace fm := hgb.keeps fm
        replace k1 := hgb.keeps k1
        replace fo := hgb.keeps fo
        replace ff' := (hgb.frozen 0 (lt_of_cell HOO.out.c)).trans ff'
        have e0 : (wr.alloc (.cells #[.string ky, .string it, .int .i64 (pgi : Int)] 72)).cell? ⟨wr.heap.size, 0, none⟩ = some (.string ky) := by rw [World.cell?_alloc_new]; rfl
        have e1 : (wr.alloc (.cells #[.string ky, .string it, .int .i64 (pgi : Int)] 72)).cell? ⟨wr.heap.size, 1, none⟩ = some (.string it) := by rw [World.cell?_alloc_new]; rfl
        have e2 : (wr.alloc (.cells #[.string ky, .string it, .int .i64 (pgi : Int)] 72)).cell? ⟨wr.heap.size, 2, none⟩ = some (.int .i64 (pgi : Int)) := by rw [World.cell?_alloc_new]; rfl
        obtain ⟨P0, hP0⟩ : ∃ P0, out ++ ((l.drop K).take i).map pairE = P0 := ⟨_, rfl⟩
        have hlo : P0.length ≤ 100000000 := by
          rw [← hP0, List.length_append, List.length_map, List.length_take, List.length_drop]
          omega
        rw [hP0] at HOO
        obtain ⟨P1, hP1⟩ : ∃ P1, P0 ++ [(ky, it)] = P1 := ⟨_, rfl⟩
        have HP0 := Lib.hid hP0
        have HP1 := Lib.hid hP1
        clear hP0 hP1
        have HO1 := Lib.hid ((HOO.out.gr hgb).o)
        have hnW : n ≤ (wr.alloc (.cells #[.string ky, .string it, .int .i64 (pgi : Int)] 72)).heap.size := by
          have h7 := HGW.out.size
          have h8 := HG.out.2.2.2.1
          have h9 := hgb.size
          omega
        have hFOn : FO < n := hn.2.2.2.1
        have hvF : ¬ v'.ownBlock = some FO := fun e => by
          have := ownP_ge HOO.out.o FO e
          omega
        go_wp2_with (at_builtin; (refine append_pair (n := n) (w := wr.alloc (.cells #[.string ky, .string it, .int .i64 (pgi : Int)] 72)) rfl _ _ rfl v' P0 (ky, it) rfl HO1.out (wr.heap.size + 1) (by simp) rfl hlo hnW ?_); intro v3 w3 ho3 hx3 hv3; rw [HP1.out] at ho3; (have fo3 := hx3.keeps hvF fo); (have ff3 : w3.frozen? ⟨FO, 0, none⟩ = false := (hx3.frozen 0 (lt_of_cell fo) hvF).trans ff'); (obtain ⟨a3, c3, rfl⟩ := ho3.form); (have HO3 := Lib.hid ho3); (have HX3 := Lib.hid hx3); (have HV3 := Lib.hid hv3); clear ho3 hx3 hv3)
        have hpe : pairE ⟨ky, it, pgi⟩ = (ky, it) := rfl
        have hOE : out ++ ((l.drop K).take (i + 1)).map pairE = P1 := by
          rw [HTE.out, List.map_append, List.map_singleton, hpe, ← List.append_assoc, HP0.out]
          exact HP1.out
        have gS : GrX (fun b => b = FO) w3 (w3.setCell ⟨FO, 0, none⟩ (.slice a3 P1.length c3)) := GrX.setCell (S := fun b => b = FO) (p := ⟨FO, 0, none⟩) w3 _ rfl
        have hOF : ∀ b, (Value.slice a3 P1.length c3).ownBlock = some b → ¬ b = FO := fun b hb e => by
          have := ownP_ge HO3.out b hb
          omega
        have hG3 : GrX (fun b => b = FO ∨ v.ownBlock = some b) w2 (w3.setCell ⟨FO, 0, none⟩ (.slice a3 P1.length c3)) := by
          refine GrX.ownS (GrX.ownS HG.out ((GrX.of_gr hgb).trans HX3.out) (fun j e => ?_)) gS (fun j e => .inl (.inl e))
          rcases HT.out j e with e | e
          · exact .inl (.inr e)
          · exact .inr e
        refine ⟨⟨i + 1, by omega, by go_num, _, ⟨World.cell?_setCell_same w3 ⟨FO, 0, none⟩ _ fo3, by simpa using ff3, ?_⟩, hG3, fun b hb => ?_⟩, by simp [RowKit.intOf]; omega⟩
        · rw [hOE]
          exact HO3.out.keepX gS hOF
        · rcases HV3.out with e | ⟨b', e, h9⟩
          · rw [e] at hb
            exact HT.out b hb
          · rw [e] at hb
            have h8 := HG.out.2.2.2.1
            have h7 := hgb.size
            have := Option.some.inj hb
            exact .inr (by omega)
      · have hlti : ¬ (i : Int) < ((l.length - K : Nat) : Int) := by omega
        have hte : (l.drop K).take i = l.drop K := List.take_of_length_le (by rw [List.length_drop]; omega)
        rw [hte] at hO
        have HR : Hid (WkP n w wr FO v RR) := Lib.hid ⟨v', by rw [← HRR.out]; exact hO, (GrX.of_gr HGW.out).trans hG, fun b hb => by
          rcases hT b hb with e | e
          · exact .inl e
          · exact .inr (Nat.le_trans HGW.out.size e)⟩
        clear hO hG hT hte hm
        go_wp2_with fail
        go_ret
        exact ⟨rfl, HR.out⟩
  · have hKe : l.length = K := by omega
    have hdr : l.drop K = [] := List.drop_eq_nil_of_le (by omega)
    have HR : Hid (WkP n w w2 FO v RR) := Lib.hid (by
      rw [← HRR.out, hdr, List.map_nil, List.append_nil]
      exact ⟨v, HO.out.gr HGW.out, GrX.of_gr HGW.out, fun b hb => .inl hb⟩)
    have hz : l.length - K = 0 := by omega
    clear hKe hdr
    go_wp2_with fail
    all_goals
      go_loopw [35] (fun iv w' => iv = .int .i64 0 ∧ w' = w2) (fun _ _ => 0)
      case atStart => exact ⟨rfl, rfl⟩
      case round =>
        obtain ⟨rfl, rfl⟩ := hrel
        go_wp2_with fail
        go_ret
        exact ⟨rfl, HR.out⟩
end
end Go.Proofs.Ytmjkalpjciddbaa

/-
  (*Tree).Walk's closure at a node with pages below.
-/
namespace Go.Proofs.Ytmjkalpjciddbaa
open Go Go.RowKit

section
variable {w : World} {PB DB M : Nat} {c : Ch} {sv : Head} {t : Int} {d : Dk}
set_option maxRecDepth 100000 in
set_option maxHeartbeats 4000000 in
theorem walk_node (h : PgT w PB DB M c sv t d) {TP root : Nat} (ht : TreeAt w TP PB root) {p : Nat} {l : List En} (hp : HasN c d.pg false p l) (hok : ∀ e ∈ l, e.ok false) (hb : bytesE false l ≤ 1024) {FT FF FM FO FW : Nat} {s : ByteArray} (hw : WkS w FT FF FM FO FW TP s)
    {n : Nat} {v : Value} {out : List GPair} (ho : OutS n w FO v out) (hn : FT < n ∧ FF < n ∧ FM < n ∧ FO < n ∧ FW < n) (hnw : n ≤ w.heap.size) (hPn : PB < n ∧ DB < n ∧ M < n ∧ TP < n) (hFn : FO ≠ PB ∧ FO ≠ DB ∧ FO ≠ M ∧ FO ≠ TP) {outs : List (List GPair)} {K : Nat} (hK : downE (keysE l) s = K) (hKl2 : K < l.length) (hol : outs.length = l.length)
    (hsub : ∀ j (hj : K + j < l.length) W v, PgT W PB DB M c sv t d → TreeAt W TP PB root → WkS W FT FF FM FO FW TP s → OutS n W FO v (out ++ ((outs.drop K).take j).flatten) → n ≤ W.heap.size →
      Calls Try.prog 43 #[.int .i64 (l[K + j].page : Int), .pointer (some ⟨FT, 0, none⟩), .pointer (some ⟨FF, 0, none⟩), .pointer (some ⟨FM, 0, none⟩), .pointer (some ⟨FO, 0, none⟩), .pointer (some ⟨FW, 0, none⟩)] W fun e w' => e = .returned .nilIface ∧ WkP n W w' FO v (out ++ ((outs.drop K).take (j + 1)).flatten)) :
    Calls Try.prog 43 #[.int .i64 (p : Int), .pointer (some ⟨FT, 0, none⟩), .pointer (some ⟨FF, 0, none⟩), .pointer (some ⟨FM, 0, none⟩), .pointer (some ⟨FO, 0, none⟩), .pointer (some ⟨FW, 0, none⟩)] w fun e w' => e = .returned .nilIface ∧ WkP n w w' FO v (out ++ (outs.drop K).flatten) := by
  have hrd := read_n h.s ht hp hok hb
  have hl : l.length ≤ 600 := by
    have := sumE_len false l
    unfold bytesE at hb
    omega
  obtain ⟨RR, hRR⟩ : ∃ RR, out ++ (outs.drop K).flatten = RR := ⟨_, rfl⟩
  rw [hRR]
  have HRR := Lib.hid hRR
  clear hRR
  have ft := hw.ft
  have ff := hw.ff
  have fm := hw.fm
  have fo := ho.c
  have HRD := Lib.hid hrd
  have HSUB := Lib.hid hsub
  clear hsub
  have HW := Lib.hid hw
  have HO := Lib.hid ho
  clear hrd
  go_enter Try.func43, Try.ntmps43
  go_wp2_with fail
  refine HRD.out.mono ?_
  rintro e w1 ⟨s', rfl, ho1, hg1⟩
  obtain ⟨ao, ca, rfl⟩ := ho1.form
  have hfn := fun W (g : Gr w1 W) => find_n p false l (.slice ao l.length ca) s W (ho1.isE.gr g) (by omega)
  simp only [Bool.false_eq_true, if_false, hK] at hfn
  unfold nodeV at *
  have HFN := Lib.hid hfn
  clear hfn
  replace ft := hg1.keeps ft
  replace ff := hg1.keeps ff
  replace fm := hg1.keeps fm
  replace fo := hg1.keeps fo
  have hga : Gr w1 (w1.alloc (.cells #[.int .i64 (p : Int), .bool false, .slice ao l.length ca] 84)) := (Gr.refl w1).alloc _
  replace ft := hga.keeps ft
  replace ff := hga.keeps ff
  replace fm := hga.keeps fm
  replace fo := hga.keeps fo
  have k0 : (w1.alloc (.cells #[.int .i64 (p : Int), .bool false, .slice ao l.length ca] 84)).cell? ⟨w1.heap.size, 0, none⟩ = some (.int .i64 (p : Int)) := by rw [World.cell?_alloc_new]; rfl
  have k1 : (w1.alloc (.cells #[.int .i64 (p : Int), .bool false, .slice ao l.length ca] 84)).cell? ⟨w1.heap.size, 1, none⟩ = some (.bool false) := by rw [World.cell?_alloc_new]; rfl
  have k2 : (w1.alloc (.cells #[.int .i64 (p : Int), .bool false, .slice ao l.length ca] 84)).cell? ⟨w1.heap.size, 2, none⟩ = some (.slice ao l.length ca) := by rw [World.cell?_alloc_new]; rfl
  go_wp2_with fail
  obtain ⟨NB, hNB⟩ : ∃ NB, w1.heap.size = NB := ⟨_, rfl⟩
  rw [hNB] at k0 k1 k2 ⊢
  refine (HFN.out _ hga).mono ?_
  rintro e w2 ⟨rfl, hg3⟩
  replace ft := hg3.keeps ft
  replace ff := hg3.keeps ff
  replace fm := hg3.keeps fm
  replace fo := hg3.keeps fo
  replace k0 := hg3.keeps k0
  replace k1 := hg3.keeps k1
  replace k2 := hg3.keeps k2
  have hKi : (K : Int) ≤ (l.length : Int) := by omega
  have hNw : w.heap.size ≤ NB := by
    rw [← hNB]
    exact hg1.size
  have hgw := (hg1.trans hga).trans hg3
  have hL0 : Hid (∃ v', OutS n w2 FO v' (out ++ ((outs.drop K).take 0).flatten) ∧ GrX (fun b => b = FO ∨ v.ownBlock = some b) w2 w2 ∧ OwnTo v v' w2) := Lib.hid ⟨v, by
    rw [List.take_zero, List.flatten_nil, List.append_nil]
    exact HO.out.gr hgw, GrX.refl _ _, fun b hb => .inl hb⟩
  have HGW := Lib.hid hgw
  have hgw0 := hgw
  have ho2 := ho1.gr (hga.trans hg3)
  have HO2 := Lib.hid ho2
  have HNW := Lib.hid hNw
  clear hgw ho2 hNw hNB
  have HP2 := Lib.hid (h.gr hgw0)
  have HT2 := Lib.hid (ht.gr hgw0)
  have HW2 := Lib.hid (hw.gr hgw0)
  clear hgw0
  rcases ho1.at' with ⟨_, e2⟩ | ⟨B, cap, e3, h2, h3, h4, h5, h6⟩
  · rw [e2] at hKl2
    exact absurd hKl2 (by simp)
  obtain ⟨rfl, rfl⟩ : ao = some ⟨B, 0, none⟩ ∧ ca = cap := by
    injection e3 with e1 e2 e3
    exact ⟨e1, e3⟩
  have hcK : ¬ ca = K := by omega
  have H5 := Lib.hid (h5.gr (hga.trans hg3))
  have hBn : n ≤ B := by omega
  have hvB : ∀ b, v.ownBlock = some b → b < w.heap.size := fun b hb => ownP_lt HO.out.o b hb
  have HVB := Lib.hid hvB
  clear h5 h6 hvB e3
  go_wp2_with fail
  have hBw2 : B < w2.heap.size := by
    have := hga.size
    have := hg3.size
    omega
  go_loopw [35] (fun iv w' => ∃ (i : Nat), i ≤ l.length - K ∧ iv = .int .i64 i ∧ ∃ v', OutS n w' FO v' (out ++ ((outs.drop K).take i).flatten) ∧ GrX (fun b => b = FO ∨ v.ownBlock = some b) w2 w' ∧ OwnTo v v' w2) (fun iv _ => l.length - K - (RowKit.intOf iv).toNat)
  case atStart => exact ⟨0, Nat.zero_le _, rfl, hL0.out⟩
  case round =>
    obtain ⟨i, hi, rfl, v', hO, hG, hT⟩ := hrel
    by_cases hlt : i < l.length - K
    · have hlti : (i : Int) < ((l.length - K : Nat) : Int) := by omega
      have hS : ∀ j, (j < n ∧ j ≠ FO) ∨ w.heap.size ≤ j → ¬ (j = FO ∨ v.ownBlock = some j) := fun j hj e => by
        rcases e with e | e
        · omega
        · have h8 := HVB.out j e
          have h9 := ownP_ge HO.out.o j e
          omega
      have hne := HW.out.ne
      replace fm := hG.keeps (hS FM (.inl ⟨hn.2.2.1, fun e => hne.2.2.1 e.symm⟩)) fm
      have fw := hG.keeps (hS FW (.inl ⟨hn.2.2.2.2, fun e => hne.2.2.2 e.symm⟩)) HW2.out.fw
      replace k1 := hG.keeps (hS NB (.inr HNW.out)) k1
      have hKi2 : K + i < l.length := by omega
      obtain ⟨b0, b1, b2⟩ := (H5.out.keepX hG (hS B (.inr h3))) (K + i) hKi2
      rw [show 0 + (K + i) * 3 = K * 3 + i * 3 by omega] at b0 b1 b2
      have hpr := HP2.out.keepX hG (hS PB (.inl ⟨hPn.1, fun e => hFn.1 e.symm⟩)) (hS DB (.inl ⟨hPn.2.1, fun e => hFn.2.1 e.symm⟩)) (hS M (.inl ⟨hPn.2.2.1, fun e => hFn.2.2.1 e.symm⟩))
      have htr := HT2.out.keepX hG (hS TP (.inl ⟨hPn.2.2.2, fun e => hFn.2.2.2 e.symm⟩))
      have hwr := HW2.out.keepX hG (hS FT (.inl ⟨hn.1, fun e => hne.1 e.symm⟩)) (hS FF (.inl ⟨hn.2.1, fun e => hne.2.1 e.symm⟩)) (hS FM (.inl ⟨hn.2.2.1, fun e => hne.2.2.1 e.symm⟩)) (hS FW (.inl ⟨hn.2.2.2.2, fun e => hne.2.2.2 e.symm⟩))
      have hnr : n ≤ wr.heap.size := by
        have h7 := HGW.out.size
        have h8 := hG.2.2.2.1
        omega
      have hsb := fun W (g : Gr wr W) => HSUB.out i hKi2 W v' (hpr.gr g) (htr.gr g) (hwr.gr g) (hO.gr g) (Nat.le_trans hnr g.size)
      generalize l[K + i] = en at *
      obtain ⟨ky, it, pgi⟩ := en
      have HSB := Lib.hid hsb
      have HG := Lib.hid hG
      have HT := Lib.hid hT
      clear hO hG hT hS hne hpr htr hwr hsb
      have hgb : Gr wr (wr.alloc (.cells #[.string ky, .string it, .int .i64 (pgi : Int)] 72)) := (Gr.refl wr).alloc _
      replace fm := hgb.keeps fm
      replace fw := hgb.keeps fw
      replace k1 := hgb.keeps k1
      have e0 : (wr.alloc (.cells #[.string ky, .string it, .int .i64 (pgi : Int)] 72)).cell? ⟨wr.heap.size, 0, none⟩ = some (.string ky) := by rw [World.cell?_alloc_new]; rfl
      have e1 : (wr.alloc (.cells #[.string ky, .string it, .int .i64 (pgi : Int)] 72)).cell? ⟨wr.heap.size, 1, none⟩ = some (.string it) := by rw [World.cell?_alloc_new]; rfl
      have e2 : (wr.alloc (.cells #[.string ky, .string it, .int .i64 (pgi : Int)] 72)).cell? ⟨wr.heap.size, 2, none⟩ = some (.int .i64 (pgi : Int)) := by rw [World.cell?_alloc_new]; rfl
      go_wp2_with fail
      refine (HSB.out _ hgb).mono ?_
      rintro e w3 ⟨rfl, v3, ho3, hx3, ht3⟩
      have HFIN : Hid (OutS n w3 FO v3 (out ++ ((outs.drop K).take (i + 1)).flatten) ∧ GrX (fun b => b = FO ∨ v.ownBlock = some b) w2 w3 ∧ OwnTo v v3 w2) := Lib.hid ⟨ho3, GrX.ownS (GrX.ownS HG.out (GrX.of_gr (S := fun _ => False) hgb) (fun j e => e.elim)) hx3 (fun j e => by
        rcases e with e | e
        · exact .inl (.inl e)
        · rcases HT.out j e with e | e
          · exact .inl (.inr e)
          · exact .inr e), fun b hb => by
        rcases ht3 b hb with e | e
        · exact HT.out b e
        · have h8 := HG.out.2.2.2.1
          have h7 := hgb.size
          exact .inr (by omega)⟩
      clear ho3 hx3 ht3
      go_wp2_with fail
      exact ⟨⟨i + 1, by omega, by go_num, _, HFIN.out⟩, by simp [RowKit.intOf]; omega⟩
    · have hlti : ¬ (i : Int) < ((l.length - K : Nat) : Int) := by omega
      have hte : (outs.drop K).take i = outs.drop K := List.take_of_length_le (by rw [List.length_drop]; omega)
      rw [hte] at hO
      have HR : Hid (WkP n w wr FO v RR) := Lib.hid ⟨v', by rw [← HRR.out]; exact hO, (GrX.of_gr HGW.out).trans hG, fun b hb => by
        rcases hT b hb with e | e
        · exact .inl e
        · exact .inr (Nat.le_trans HGW.out.size e)⟩
      clear hO hG hT hte
      go_wp2_with fail
      go_ret
      exact ⟨rfl, HR.out⟩
end
end Go.Proofs.Ytmjkalpjciddbaa

/-
  (*Tree).Walk's closure hands on the pairs that the plain function tells.
-/
namespace Go.Proofs.Ytmjkalpjciddbaa
open Go Go.RowKit

theorem nodup_lt : ∀ (N : Nat) (l : List Nat), l.Nodup → (∀ k ∈ l, k < N) → l.length ≤ N
  | 0, l, _, h => by
    cases l with
    | nil => exact Nat.le_refl _
    | cons a r => exact absurd (h a List.mem_cons_self) (Nat.not_lt_zero _)
  | N + 1, l, hn, h => by
    by_cases hm : N ∈ l
    · have h1 := nodup_lt N (l.erase N) (hn.erase N) fun k hk => by
        have h2 := (hn.mem_erase_iff).1 hk
        have := h k h2.2
        have := h2.1
        omega
      rw [List.length_erase_of_mem hm] at h1
      omega
    · have h1 := nodup_lt N l hn fun k hk => by
        have h2 := h k hk
        have : k ≠ N := fun e => hm (e ▸ hk)
        omega
      omega
theorem walkT_len (s : ByteArray) : ∀ {d : Nat} {x : T d}, x.okT → (walkT s x).length ≤ 600 * x.pages.length
  | 0, x, h => by
    obtain ⟨p, l⟩ : Nat × List (ByteArray × ByteArray) := x
    have h1 : bytesE true (l.map enL) ≤ 1024 := h.2.1
    have h2 := sumE_len true (l.map enL)
    rw [List.length_map] at h2
    unfold bytesE at h1
    show (l.drop _).length ≤ 600 * ([p] : List Nat).length
    rw [List.length_drop, List.length_singleton]
    omega
  | d + 1, x, h => by
    obtain ⟨p, l⟩ : Nat × List (ByteArray × T d) := x
    have ho : ∀ y ∈ l, y.2.okT := h.2
    have step : ∀ m : List (ByteArray × T d), (∀ y ∈ m, y.2.okT) → (m.flatMap fun y => walkT s y.2).length ≤ 600 * (m.flatMap fun y => y.2.pages).length := by
      intro m
      induction m with
      | nil => intro _; simp
      | cons y m ih =>
        intro hm
        rw [List.flatMap_cons, List.flatMap_cons, List.length_append, List.length_append]
        have h1 := walkT_len s (hm y List.mem_cons_self)
        have h2 := ih fun z hz => hm z (List.mem_cons_of_mem _ hz)
        omega
    show ((l.drop (downE (l.map Prod.fst) s)).flatMap fun y => walkT s y.2).length ≤ 600 * (p :: l.flatMap fun y => y.2.pages).length
    have h1 := step (l.drop (downE (l.map Prod.fst) s)) fun y hy => ho y (List.mem_of_mem_drop hy)
    have h2 : (l.flatMap fun y => y.2.pages).length = ((l.take (downE (l.map Prod.fst) s)).flatMap fun y => y.2.pages).length + ((l.drop (downE (l.map Prod.fst) s)).flatMap fun y => y.2.pages).length := by
      rw [← List.length_append, ← List.flatMap_append, List.take_append_drop]
    rw [List.length_cons, h2]
    omega
theorem flat_walk_len (s : ByteArray) {d : Nat} : ∀ m : List (ByteArray × T d), (∀ y ∈ m, y.2.okT) → (m.flatMap fun y => walkT s y.2).length ≤ 600 * (m.flatMap fun y => y.2.pages).length
  | [], _ => by simp
  | y :: m, hm => by
    rw [List.flatMap_cons, List.flatMap_cons, List.length_append, List.length_append]
    have h1 := walkT_len s (hm y List.mem_cons_self)
    have h2 := flat_walk_len s m fun z hz => hm z (List.mem_cons_of_mem _ hz)
    omega
section
variable {PB DB M : Nat} {c : Ch} {sv : Head} {t : Int} {dk : Dk}
theorem walk_t {TP root FT FF FM FO FW n : Nat} {s : ByteArray} (hn : FT < n ∧ FF < n ∧ FM < n ∧ FO < n ∧ FW < n) (hPn : PB < n ∧ DB < n ∧ M < n ∧ TP < n) (hFn : FO ≠ PB ∧ FO ≠ DB ∧ FO ≠ M ∧ FO ≠ TP) : ∀ {m : Nat} {x : T m} {w : World} {v : Value} {out : List GPair}, PgT w PB DB M c sv t dk → TreeAt w TP PB root → WkS w FT FF FM FO FW TP s → OutS n w FO v out → n ≤ w.heap.size → x.lays c dk.pg → x.okT → out.length + 600 * x.pages.length ≤ 100000000 →
    Calls Try.prog 43 #[.int .i64 (x.pg : Int), .pointer (some ⟨FT, 0, none⟩), .pointer (some ⟨FF, 0, none⟩), .pointer (some ⟨FM, 0, none⟩), .pointer (some ⟨FO, 0, none⟩), .pointer (some ⟨FW, 0, none⟩)] w fun e w' => e = .returned .nilIface ∧ WkP n w w' FO v (out ++ walkT s x)
  | 0, x, w, v, out, h, ht, hw, ho, hnw, hl, hok, hb => by
    obtain ⟨p, l⟩ : Nat × List (ByteArray × ByteArray) := x
    have hb2 : out.length + 600 * ([p] : List Nat).length ≤ 100000000 := hb
    rw [List.length_singleton] at hb2
    have hp := walk_leaf h ht (p := p) (l := l.map enL) hl hok.2.2 hok.2.1 hw ho hn hnw (by omega)
    rw [keysE_L] at hp
    have e : ((l.map enL).drop (searchE (l.map Prod.fst) s)).map pairE = walkT s (d := 0) (p, l) := by
      show _ = l.drop (searchE (l.map Prod.fst) s)
      rw [← List.map_drop, List.map_map]
      have : (pairE ∘ enL) = id := by funext y; rfl
      rw [this, List.map_id]
    rw [e] at hp
    exact hp
  | m + 1, x, w, v, out, h, ht, hw, ho, hnw, hl, hok, hb => by
    obtain ⟨p, l⟩ : Nat × List (ByteArray × T m) := x
    have hne : l.map Prod.fst ≠ [] := fun e => hok.1.1 (by
      have : l = [] := List.map_eq_nil_iff.1 e
      show l.map enN = []
      rw [this]
      rfl)
    have hdl := downE_lt hne s
    rw [List.length_map] at hdl
    obtain ⟨K, hK⟩ : ∃ K, downE (l.map Prod.fst) s = K := ⟨_, rfl⟩
    rw [hK] at hdl
    have hb2 : out.length + 600 * (p :: l.flatMap fun y => y.2.pages).length ≤ 100000000 := hb
    have hlays : ∀ y ∈ l, y.2.lays c dk.pg := hl.2
    have hoks : ∀ y ∈ l, y.2.okT := hok.2
    have hfl : ∀ j, (((l.map fun y => walkT s y.2).drop K).take j).flatten = ((l.drop K).take j).flatMap fun y => walkT s y.2 := fun j => by
      rw [← List.map_drop, ← List.map_take, List.flatMap_def]
    have hfl2 : ((l.map fun y => walkT s y.2).drop K).flatten = (l.drop K).flatMap fun y => walkT s y.2 := by
      rw [← List.map_drop, List.flatMap_def]
    have hp := walk_node h ht (p := p) (l := l.map enN) hl.1 hok.1.2.2 hok.1.2.1 hw ho hn hnw hPn hFn (outs := l.map fun y => walkT s y.2) (K := K) (by rw [keysE_N]; exact hK) (by rw [List.length_map]; exact hdl) (by rw [List.length_map, List.length_map]) (fun j hj W v1 q1 q2 q3 q4 q5 => by
      have hj2 : K + j < l.length := by rw [List.length_map] at hj; exact hj
      have hm : l[K + j] ∈ l := List.getElem_mem hj2
      have hpe : (l.map enN)[K + j] = enN l[K + j] := List.getElem_map _
      have hpp : (((l.map enN)[K + j]).page : Int) = (l[K + j].2.pg : Int) := by rw [hpe]; rfl
      rw [hpp]
      have hsplit : l = l.take K ++ ((l.drop K).take j ++ (l[K + j] :: l.drop (K + j + 1))) := by
        rw [← List.drop_eq_getElem_cons hj2, ← List.drop_drop, List.take_append_drop, List.take_append_drop]
      have hln : (l.flatMap fun y => y.2.pages).length = ((l.take K).flatMap fun y => y.2.pages).length + ((((l.drop K).take j).flatMap fun y => y.2.pages).length + (l[K + j].2.pages.length + ((l.drop (K + j + 1)).flatMap fun y => y.2.pages).length)) := by
        have h1 := congrArg (fun z : List (ByteArray × T m) => (z.flatMap fun y => y.2.pages).length) hsplit
        simp only [List.flatMap_append, List.flatMap_cons, List.length_append] at h1
        exact h1
      have hle := flat_walk_len s ((l.drop K).take j) fun y hy => hoks y (List.mem_of_mem_drop (List.mem_of_mem_take hy))
      have ih := walk_t hn hPn hFn (x := l[K + j].2) q1 q2 q3 q4 q5 (hlays _ hm) (hoks _ hm) (by
        rw [List.length_append, hfl]
        rw [List.length_cons] at hb2
        omega)
      have e2 : out ++ (((l.map fun y => walkT s y.2).drop K).take (j + 1)).flatten = out ++ (((l.map fun y => walkT s y.2).drop K).take j).flatten ++ walkT s l[K + j].2 := by
        rw [hfl, hfl, List.take_succ_eq_append_getElem (by rw [List.length_drop]; omega), List.flatMap_append, List.append_assoc, List.getElem_drop]
        simp
      rw [e2]
      exact ih)
    rw [hfl2] at hp
    have e3 : walkT s (d := m + 1) (p, l) = (l.drop K).flatMap fun y => walkT s y.2 := by rw [← hK]; rfl
    rw [e3]
    exact hp
end
end Go.Proofs.Ytmjkalpjciddbaa

/-
  (*Tree).Walk.
-/
namespace Go.Proofs.Ytmjkalpjciddbaa
open Go Go.RowKit

theorem box_new (w : World) (v : Value) (t : TypeId) : (w.alloc (.cells #[v] t)).cell? ⟨w.heap.size, 0, none⟩ = some v := by rw [World.cell?_alloc_new]; rfl
theorem boxes_at (w : World) (a b e : Value) (ta tb te : TypeId) :
    (((w.alloc (.cells #[a] ta)).alloc (.cells #[b] tb)).alloc (.cells #[e] te)).cell? ⟨w.heap.size, 0, none⟩ = some a ∧ (((w.alloc (.cells #[a] ta)).alloc (.cells #[b] tb)).alloc (.cells #[e] te)).cell? ⟨w.heap.size + 1, 0, none⟩ = some b ∧ (((w.alloc (.cells #[a] ta)).alloc (.cells #[b] tb)).alloc (.cells #[e] te)).cell? ⟨w.heap.size + 1 + 1, 0, none⟩ = some e ∧ Gr w (((w.alloc (.cells #[a] ta)).alloc (.cells #[b] tb)).alloc (.cells #[e] te)) ∧ (((w.alloc (.cells #[a] ta)).alloc (.cells #[b] tb)).alloc (.cells #[e] te)).heap.size = w.heap.size + 1 + 1 + 1 := by
  have g1 : Gr w (w.alloc (.cells #[a] ta)) := (Gr.refl w).alloc _
  have g2 : Gr (w.alloc (.cells #[a] ta)) ((w.alloc (.cells #[a] ta)).alloc (.cells #[b] tb)) := (Gr.refl _).alloc _
  have g3 : Gr ((w.alloc (.cells #[a] ta)).alloc (.cells #[b] tb)) (((w.alloc (.cells #[a] ta)).alloc (.cells #[b] tb)).alloc (.cells #[e] te)) := (Gr.refl _).alloc _
  have s1 : (w.alloc (.cells #[a] ta)).heap.size = w.heap.size + 1 := by simp
  have s2 : ((w.alloc (.cells #[a] ta)).alloc (.cells #[b] tb)).heap.size = w.heap.size + 1 + 1 := by simp
  have c1 := box_new w a ta
  have c2 := box_new (w.alloc (.cells #[a] ta)) b tb
  have c3 := box_new ((w.alloc (.cells #[a] ta)).alloc (.cells #[b] tb)) e te
  rw [s1] at c2
  rw [s2] at c3
  exact ⟨g3.keeps (g2.keeps c1), g3.keeps c2, c3, (g1.trans g2).trans g3, by simp⟩
theorem boxes2_at (w : World) (a v : Value) (ta tb : TypeId) : Gr w ((w.alloc (.cells #[a] ta)).alloc (.cells #[v] tb)) ∧ ((w.alloc (.cells #[a] ta)).alloc (.cells #[v] tb)).cell? ⟨w.heap.size, 0, none⟩ = some a ∧ ((w.alloc (.cells #[a] ta)).alloc (.cells #[v] tb)).cell? ⟨w.heap.size + 1, 0, none⟩ = some v ∧ ((w.alloc (.cells #[a] ta)).alloc (.cells #[v] tb)).frozen? ⟨w.heap.size, 0, none⟩ = false ∧ ((w.alloc (.cells #[a] ta)).alloc (.cells #[v] tb)).heap.size = w.heap.size + 1 + 1 := by
  have g1 : Gr w (w.alloc (.cells #[a] ta)) := (Gr.refl w).alloc _
  have g2 : Gr (w.alloc (.cells #[a] ta)) ((w.alloc (.cells #[a] ta)).alloc (.cells #[v] tb)) := (Gr.refl _).alloc _
  have s1 : (w.alloc (.cells #[a] ta)).heap.size = w.heap.size + 1 := by simp
  have c1 := box_new w a ta
  have f1 : (w.alloc (.cells #[a] ta)).frozen? ⟨w.heap.size, 0, none⟩ = false := by simp
  have c2 := box_new (w.alloc (.cells #[a] ta)) v tb
  rw [s1] at c2
  exact ⟨g1.trans g2, g2.keeps c1, c2, (g2.frozen 0 (by simp)).trans f1, by simp⟩
theorem OwnP.back {n n' : Nat} {w : World} {v : Value} {l : List GPair} (h : OwnP n w v l) (g : n' ≤ n) : OwnP n' w v l := by
  refine ⟨h.row.1, ?_⟩
  rcases h.row.2 with h1 | ⟨g', cap, cur, h1, hb, hh⟩
  · exact .inl h1
  · exact .inr ⟨g', cap, cur, h1, Nat.le_trans g hb, hh⟩
theorem down_t {w : World} {PB DB M : Nat} {c : Ch} {sv : Head} {t : Int} {d : Dk} (h : PgT w PB DB M c sv t d) : Calls Try.prog 22 #[.pointer (some ⟨PB, 0, none⟩)] w (Ret w (.bool false)) := by
  obtain ⟨n', _, hp⟩ := h.s.pg
  have h4 := hp.down
  go_enter Try.func22, Try.ntmps22
  go_wp2_with fail
  go_ret
  exact Ret.mk rfl (Gr.refl _)
section
variable {w : World} {PB DB M : Nat} {c : Ch} {sv : Head} {t : Int} {d : Dk}
set_option maxRecDepth 100000 in
set_option maxHeartbeats 4000000 in
theorem walk_n (h : PgT w PB DB M c sv t d) {TP root : Nat} (ht : TreeAt w TP PB root) (hr : root < 8) (s : ByteArray) {tr : Tr} (hl : tr.lays c d.pg root) :
    Calls Try.prog 27 #[.pointer (some ⟨TP, 0, none⟩), .string s, .int .i64 (-1)] w fun e w' => ∃ v, e = .returned (.tuple #[v, .nilIface]) ∧ OwnP w.heap.size w' v (walkR tr s) ∧ Gr w w' := by
  obtain ⟨RR, hRR⟩ : ∃ RR, walkR tr s = RR := ⟨_, rfl⟩
  rw [hRR]
  have HRR := Lib.hid hRR
  clear hRR
  have hlt := h.lt
  have htl := lt_of_cell ht.p
  obtain ⟨b0, b1, b2, hg0, hz0⟩ := boxes_at w (.pointer (some ⟨TP, 0, none⟩)) (.string s) (.int .i64 (-1)) 33 9 3
  have tp := ht.gr hg0
  have hdn := down_t (h.gr hg0)
  have HDN := Lib.hid hdn
  have HG0 := Lib.hid hg0
  have HZ0 := Lib.hid hz0
  have htp := tp.p
  clear hdn hz0 hg0 tp
  go_enter Try.func27, Try.ntmps27
  go_wp2_with fail
  obtain ⟨W3, hW3⟩ : ∃ W3, ((w.alloc (.cells #[.pointer (some ⟨TP, 0, none⟩)] 33)).alloc (.cells #[.string s] 9)).alloc (.cells #[.int .i64 (-1)] 3) = W3 := ⟨_, rfl⟩
  rw [hW3] at b0 b1 b2 HDN HG0 HZ0 htp ⊢
  clear hW3
  obtain ⟨FT, hFT⟩ : ∃ FT, w.heap.size = FT := ⟨_, rfl⟩
  rw [hFT] at b0 b1 b2 HZ0 ⊢
  have HFT := Lib.hid hFT
  clear hFT
  refine HDN.out.mono ?_
  rintro e w1 ⟨rfl, hg1⟩
  replace b0 := hg1.keeps b0
  replace b1 := hg1.keeps b1
  replace b2 := hg1.keeps b2
  replace htp := hg1.keeps htp
  obtain ⟨gb, z0, z1, z2, z3⟩ := boxes2_at w1 (.slice none 0 0) (.func (.func 43) #[] #[.pointer (some ⟨FT, 0, none⟩), .pointer (some ⟨FT + 1, 0, none⟩), .pointer (some ⟨FT + 1 + 1, 0, none⟩), .pointer (some ⟨w1.heap.size, 0, none⟩), .pointer (some ⟨w1.heap.size + 1, 0, none⟩)]) 74 81
  have HGB := Lib.hid gb
  have HZ3 := Lib.hid z3
  have HG1 := Lib.hid hg1
  have hst := start_n (h.gr ((HG0.out.trans hg1).trans gb)) (ht.gr ((HG0.out.trans hg1).trans gb)) hr
  have HST := Lib.hid hst
  replace b0 := gb.keeps b0
  replace b1 := gb.keeps b1
  replace b2 := gb.keeps b2
  have HZ := Lib.hid z2
  clear gb z3 hg1 hst z2
  go_wp2_with fail
  obtain ⟨FO, hFO⟩ : ∃ FO, w1.heap.size = FO := ⟨_, rfl⟩
  rw [hFO] at z0 z1 HZ HGB HZ3 HST b0 b1 b2 ⊢
  obtain ⟨W5, hW5⟩ : ∃ W5, (w1.alloc (.cells #[.slice none 0 0] 74)).alloc (.cells #[.func (.func 43) #[] #[.pointer (some ⟨FT, 0, none⟩), .pointer (some ⟨FT + 1, 0, none⟩), .pointer (some ⟨FT + 1 + 1, 0, none⟩), .pointer (some ⟨FO, 0, none⟩), .pointer (some ⟨FO + 1, 0, none⟩)]] 81) = W5 := ⟨_, rfl⟩
  rw [hW5] at z0 z1 HZ HGB HZ3 HST b0 b1 b2 ⊢
  clear hW5
  have hFO1 : FT + 1 + 1 < FO := by
    have h7 := HZ0.out
    have h8 := HG1.out.size
    omega
  have HFO := Lib.hid hFO
  clear hFO
  have hwk : WkS W5 FT (FT + 1) (FT + 1 + 1) FO (FO + 1) TP s := ⟨b0, b1, b2, z1, by omega⟩
  have hos : OutS (FO + 1 + 1) W5 FO (.slice none 0 0) [] := ⟨z0, HZ.out, OwnP.nil _ _⟩
  refine HST.out.mono ?_
  rintro e w6 ⟨rfl, hg6⟩
  have hG5 : Gr w W5 := (HG0.out.trans HG1.out).trans HGB.out
  have hG6 := hG5.trans hg6
  have hw6 := hwk.gr hg6
  have ho6 := hos.gr hg6
  have z0 := hg6.keeps z0
  have z1 := hg6.keeps z1
  have h3 := HZ3.out
  have h7 := HFT.out
  clear hwk hos
  cases tr with
  | none =>
    have hr0 : c.h.roots root = 0 := hl
    have HR : Hid (OwnP w.heap.size w6 (.slice none 0 0) RR ∧ Gr w w6) := Lib.hid ⟨by rw [← HRR.out]; exact OwnP.nil _ _, hG6⟩
    clear h3 h7 hG5 hG6 hg6 hw6 ho6
    go_wp2_with fail
    go_ret2
    exact ⟨_, rfl, HR.out⟩
  | some x =>
    obtain ⟨q1, q2, q3, q4⟩ := hl
    have hus := T.lays_used q2
    have hpl := nodup_lt 2000 x.2.pages q4 (fun k hk => (hus k hk).2.1)
    have hp1 := (hus _ (T.pg_mem x.2)).1
    have hpp : (0 : Int) < c.h.roots root := by omega
    have hwt := walk_t (n := FO + 1 + 1) (by omega) (by omega) (by omega) (h.gr hG6) (ht.gr hG6) hw6 ho6 (by have := hg6.size; omega) q2 q3 (by simp; omega)
    have HWT := Lib.hid hwt
    have HG6 := Lib.hid hG6
    have hwFO : w.heap.size ≤ FO := by omega
    have hwFO2 : w.heap.size ≤ FO + 1 + 1 := by omega
    clear h3 h7 hG5 hG6 hg6 hw6 ho6 hwt hus q2 q3 q4
    go_wp2_with fail
    refine HWT.out.mono ?_
    rintro e w7 ⟨rfl, v7, ho7, hx7, ht7⟩
    have hg7 : Gr w w7 := hx7.gr HG6.out (fun j e => by
      rcases e with e | e
      · omega
      · cases e)
    have z7 := ho7.c
    have HR : Hid (OwnP w.heap.size w7 v7 RR ∧ Gr w w7) := Lib.hid ⟨by rw [← HRR.out]; exact ho7.o.back hwFO2, hg7⟩
    obtain ⟨a7, c7, e7⟩ := ho7.o.form
    clear ho7 hx7 ht7 hg7
    subst e7
    go_wp2_with fail
    go_ret2
    exact ⟨_, rfl, HR.out⟩
end
end Go.Proofs.Ytmjkalpjciddbaa
