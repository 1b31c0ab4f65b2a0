/-
  match.Parse: what it throws it hands back.
-/
import Derived.Test.YthenhglpljdhfaaDoorMtM
import Derived.Defers
import Derived.Recover
import Derived.Laws.Pointers
import Derived.Stop.Asserts
namespace Go.Proofs.YthenhglpljdhfaaDoor
open Go Go.RowKit

theorem is_wrong (n : Int) (W : World) : (Instr.typeAssert (.iface 130 (.agg #[.int .i64 n])) 20 130 true).run Tryd.prog W = .ok (.tuple #[.agg #[.int .i64 n], .bool true]) W := by kernel_rfl
set_option maxRecDepth 100000 in
theorem catch_thrown (B1 B2 : Nat) (x1 x2 : Value) (n : Int) (older : List PanicEntry) (w : World) (h1 : w.cell? ⟨B1, 0, none⟩ = some x1) (z1 : w.frozen? ⟨B1, 0, none⟩ = false) (h2 : w.cell? ⟨B2, 0, none⟩ = some x2) (z2 : w.frozen? ⟨B2, 0, none⟩ = false) (hne : B1 ≠ B2) :
    CallsD Tryd.prog 74 #[.pointer (some ⟨B1, 0, none⟩), .pointer (some ⟨B2, 0, none⟩)] (.panicking ({ v := .iface 130 (.agg #[.int .i64 n]), recovered := false } :: older)) w fun e u' w' =>
      e = .returned (.tuple #[]) ∧ u' = .panicking ({ v := .iface 130 (.agg #[.int .i64 n]), recovered := true } :: older) ∧ w'.cell? ⟨B1, 0, none⟩ = some (.pointer none) ∧ w'.cell? ⟨B2, 0, none⟩ = some (.iface 31 (.int .i64 n)) ∧ GrX (fun i => i = B1 ∨ i = B2) w w' := by
  have hb1 := lt_of_cell h1
  have hb2 := lt_of_cell h2
  refine callsD_of_wpS Tryd.func74 rfl fun c₀ cs hu => ?_
  apply wpS_seq
  apply wpS_region
  simp [wpOpsS, go_sem, recoverD, hu, Tryd.ntmps74, Exit.thenS]
  apply wpS_seq
  apply wpS_region
  simp [wpOpsS, go_sem, Exit.thenS, Array.replicate]
  refine wpS_cond (t := true) (by simp [Act.eval]) ?_
  simp only [if_true]
  apply wpS_seq
  apply wpS_region
  simp [wpOpsS, go_sem, Exit.thenS, is_wrong]
  apply wpS_seq
  apply wpS_seq
  apply wpS_region
  simp [wpOpsS, go_sem, Exit.thenS]
  refine wpS_cond (t := false) (by simp [Act.eval]) ?_
  simp only [Bool.false_eq_true, if_false]
  refine wpS_of_wp (wp_skip ?_)
  simp only [Exit.thenS]
  refine wpS_of_wp ?_
  have hgA : Gr w (w.alloc (.cells #[.int .i64 n] 130)) := (Gr.refl w).alloc _
  have c0 : (w.alloc (.cells #[.int .i64 n] 130)).cell? ⟨w.heap.size, 0, none⟩ = some (.int .i64 n) := by rw [World.cell?_alloc_new]; rfl
  have k1 := hgA.keeps h1
  have k2 := hgA.keeps h2
  have f1 := (hgA.frozen 0 hb1).trans z1
  have f2 := (hgA.frozen 0 hb2).trans z2
  have hn1 : (⟨B1, 0, none⟩ : Addr) ≠ ⟨B2, 0, none⟩ := by simp
  have hn2 : (⟨B2, 0, none⟩ : Addr) ≠ ⟨B1, 0, none⟩ := by simp
  have HG := Lib.hid hgA
  have hsz : w.heap.size ≠ B1 := by omega
  have hsz2 : w.heap.size ≠ B2 := by omega
  clear h1 h2 z1 z2 hgA
  generalize w.alloc (.cells #[.int .i64 n] 130) = W1 at *
  generalize w.heap.size = A at *
  go_region
  have e1 : ((W1.setCell ⟨B1, 0, none⟩ (.pointer none)).setCell ⟨B2, 0, none⟩ (.iface 31 (.int .i64 n))).drew.cell? ⟨B1, 0, none⟩ = some (.pointer none) :=
    (World.cell?_setCell_other _ _ _ _ hn2).trans (World.cell?_setCell_same _ _ _ k1)
  have e2 : ((W1.setCell ⟨B1, 0, none⟩ (.pointer none)).setCell ⟨B2, 0, none⟩ (.iface 31 (.int .i64 n))).drew.cell? ⟨B2, 0, none⟩ = some (.iface 31 (.int .i64 n)) :=
    World.cell?_setCell_same _ _ _ ((World.cell?_setCell_other _ _ _ _ hn1).trans k2)
  have e3 : GrX (fun i => i = B1 ∨ i = B2) w ((W1.setCell ⟨B1, 0, none⟩ (.pointer none)).setCell ⟨B2, 0, none⟩ (.iface 31 (.int .i64 n))).drew :=
    (((GrX.of_gr HG.out).trans (GrX.setCell _ _ (.inl rfl))).trans (GrX.setCell _ _ (.inr rfl))).trans (GrX.drew _)
  generalize ((W1.setCell ⟨B1, 0, none⟩ (.pointer none)).setCell ⟨B2, 0, none⟩ (.iface 31 (.int .i64 n))).drew = W2 at *
  clear k1 k2 f1 f2 c0 HG hn1 hn2 hsz hsz2
  cases c₀
  simp_all [bodyPostS, results, Tryd.results74]
set_option maxRecDepth 100000 in
theorem catch_idle (p1 p2 : Addr) (w : World) :
    CallsD Tryd.prog 74 #[.pointer (some p1), .pointer (some p2)] .returning w fun e u' w' => e = .returned (.tuple #[]) ∧ u' = .returning ∧ w' = w := by
  refine callsD_of_wpS Tryd.func74 rfl fun c₀ cs hu => ?_
  apply wpS_seq
  apply wpS_region
  simp [wpOpsS, go_sem, recoverD, hu, Tryd.ntmps74, Exit.thenS]
  apply wpS_seq
  apply wpS_region
  simp [wpOpsS, go_sem, Exit.thenS, Array.replicate]
  refine wpS_cond (t := false) (by simp [Act.eval]) ?_
  simp only [Bool.false_eq_true, if_false]
  refine wpS_of_wp (wp_skip ?_)
  cases c₀
  simp_all [bodyPostS, results, Tryd.results74]
theorem cut_len : ∀ (n : Nat) (l : List UInt8) (ps : List ByteArray), cutN n l = some ps → ps.length ≤ l.length ∧ ∀ p ∈ ps, p.size ≤ l.length := by
  intro n
  induction n with
  | zero =>
    intro l ps h
    cases l with
    | nil => simp only [cutN, Option.some.injEq] at h; subst h; simp
    | cons c r => simp [cutN] at h
  | succ n ih =>
    intro l ps h
    cases l with
    | nil => simp only [cutN, Option.some.injEq] at h; subst h; simp
    | cons c r =>
      have step : ∀ (x : List UInt8) (y : List UInt8) (ps : List ByteArray), x.length ≥ 1 → x.length + y.length ≤ (c :: r).length → (cutN n y).map (bsL x :: ·) = some ps → ps.length ≤ (c :: r).length ∧ ∀ p ∈ ps, p.size ≤ (c :: r).length := by
        intro x y ps hx hxy h
        simp only [Option.map_eq_some_iff] at h
        obtain ⟨qs, hq, rfl⟩ := h
        obtain ⟨h1, h2⟩ := ih y qs hq
        refine ⟨by simp only [List.length_cons] at *; omega, fun p hp => ?_⟩
        rcases List.mem_cons.1 hp with rfl | hp
        · rw [size_data, bsL_data]
          omega
        · have := h2 p hp
          omega
      simp only [cutN] at h
      split at h
      · obtain ⟨h1, h2⟩ := ih r ps h
        exact ⟨by simp only [List.length_cons]; omega, fun p hp => by have := h2 p hp; simp only [List.length_cons]; omega⟩
      · split at h
        · split at h
          · cases h
          · refine step (c :: r.takeWhile (· != 34)) _ ps (by simp) ?_ h
            rename_i hna
            obtain ⟨hlt, _⟩ := tw_lt (· != 34) r (by simpa using hna)
            simp only [List.length_cons, List.length_drop]
            omega
        · split at h
          · exact step [c] r ps (by simp) (by simp; omega) h
          · rename_i hs
            refine step ((c :: r).takeWhile (fun x => !signB x)) _ ps ?_ ?_ h
            · have : signB c = false := by simpa using hs
              simp [this]
            · have := congrArg List.length (List.takeWhile_append_dropWhile (p := fun x => !signB x) (l := c :: r))
              rw [List.length_append] at this
              omega
theorem WordsAt.grX {S : Nat → Prop} {N : Nat} {w w' : World} {v : Value} {ws : List ByteArray} (h : WordsAt N w v ws) (g : GrX S w w') (hS : ∀ i, S i → i ≤ N) : WordsAt N w' v ws := by
  obtain ⟨ao, c, b, h1, h2, h3⟩ := h
  exact ⟨ao, c, b, h1, h2, fun i hi => g.keeps (fun e => by have := hS b e; have := (h2 (by omega)).2; omega) (h3 i hi)⟩
theorem QAt.grX {S : Nat → Prop} {N : Nat} {w w' : World} (g : GrX S w w') (hS : ∀ i, S i → i ≤ N) : ∀ (q : Qy) (b : Nat), QAt N w q b → QAt N w' q b
  | .leaf kind ws far, b, ⟨h0, h1, ⟨v, h2, h3⟩, h4, h5, h6⟩ =>
    have hb : ¬ S b := fun e => by have := hS b e; omega
    ⟨h0, g.keeps hb h1, ⟨v, g.keeps hb h2, h3.grX g hS⟩, g.keeps hb h4, g.keeps hb h5, g.keeps hb h6⟩
  | .node kind l r, b, ⟨h0, h1, h2, h3, bl, br, h4, h5, h6, h7⟩ =>
    have hb : ¬ S b := fun e => by have := hS b e; omega
    ⟨h0, g.keeps hb h1, g.keeps hb h2, g.keeps hb h3, bl, br, g.keeps hb h4, g.keeps hb h5, QAt.grX g hS l bl h6, QAt.grX g hS r br h7⟩
theorem pAt_own {w : World} {B : Nat} {v : Value} {ws : List ByteArray} (h : OwnS w B v ws) (T : TypeId) : PAt w.heap.size (w.alloc (.cells #[v] T)) ws := by
  obtain ⟨ao, c, b, h1, h2, h3⟩ := own_open h
  have hc : ws.length ≤ c := by
    rcases h.2 with ⟨e, h0⟩ | ⟨g, cap, cur, e, _, hh, hn, _⟩
    · omega
    · rw [h1] at e
      cases e
      exact hn
  have hb : 0 < ws.length → b < w.heap.size := fun hp => lt_of_cell (h3 0 hp)
  refine ⟨ao, c, b, 0, by rw [World.cell?_alloc_new, ← h1]; rfl, hc, h2, fun hp => by have := hb hp; omega, fun i hi => ((Gr.refl w).alloc _).keeps (h3 i hi), ?_⟩
  simp
theorem heap_new (w : World) (o : Obj) : (w.alloc o).heap[w.heap.size]? = some o := by
  show (w.heap.push o)[w.heap.size]? = some o
  simp
theorem PAt.setBox {N B : Nat} {w : World} {r : List ByteArray} {v : Value} {T : TypeId} (h : PAt N w r) (hb : w.heap[B]? = some (.cells #[.pointer none] T (0, 0))) (hne : B ≠ N) : PAt N (w.setCell ⟨B, 0, none⟩ v) r := by
  obtain ⟨ao, c, b, off, h1, h2, h3, h4, h5, h6⟩ := h
  refine ⟨ao, c, b, off, (World.cell?_setCell_other _ _ _ _ (by simp)).trans h1, h2, h3, h4, fun i hi => ?_, by rw [World.frozen?_setCell]; exact h6⟩
  have h7 := h5 i hi
  have hbB : B ≠ b := by
    intro e
    subst e
    rw [World.cell?] at h7
    simp only [hb] at h7
    rcases Nat.eq_zero_or_pos (off + i) with h0 | h0
    · rw [h0] at h7
      simp at h7
    · rw [Array.getElem?_eq_none (by simp; omega)] at h7
      cases h7
  exact (World.cell?_setCell_other _ _ _ _ (by simp)).trans h7
def ParsePost (w : World) (r : Option Qy × Int) (e : Ending) (w' : World) : Prop :=
  match r with
  | (some q, _) => ∃ N b, e = .returned (.tuple #[.pointer (some ⟨b, 0, none⟩), .nilIface]) ∧ QAt N w' q b ∧ Gr w w'
  | (none, n) => e = .returned (.tuple #[.pointer none, .iface 31 (.int .i64 n)]) ∧ Gr w w'
set_option maxRecDepth 100000 in
set_option maxHeartbeats 1600000 in
theorem parse_t (s : ByteArray) (hs : s.size ≤ 1000) (w : World) (he : EndsAt w) : Calls Tryd.prog 51 #[.string s] w (ParsePost w (askS s)) := by
  have hmf : ∀ (fn : Fn) (first cap : Array Value) (w : World), (Instr.makeFunc fn first cap).run Tryd.prog w = .ok (.func fn first cap) w := fun _ _ _ _ => rfl
  have hcut := cut_t s hs
  have hgW : Gr w ((w.alloc (.cells #[.pointer none] 88)).alloc (.cells #[.nilIface] 35)) := ((Gr.refl w).alloc _).alloc _
  have hg1 : Gr (w.alloc (.cells #[.pointer none] 88)) ((w.alloc (.cells #[.pointer none] 88)).alloc (.cells #[.nilIface] 35)) := (Gr.refl _).alloc _
  have b1 : ((w.alloc (.cells #[.pointer none] 88)).alloc (.cells #[.nilIface] 35)).heap[w.heap.size]? = some (.cells #[.pointer none] 88 (0, 0)) := (hg1.block _ (by simp)).trans (heap_new w _)
  have c1 : ((w.alloc (.cells #[.pointer none] 88)).alloc (.cells #[.nilIface] 35)).cell? ⟨w.heap.size, 0, none⟩ = some (.pointer none) := hg1.keeps (by rw [World.cell?_alloc_new]; rfl)
  have c2 : ((w.alloc (.cells #[.pointer none] 88)).alloc (.cells #[.nilIface] 35)).cell? ⟨w.heap.size + 1, 0, none⟩ = some .nilIface := by
    have := World.cell?_alloc_new (w := w.alloc (.cells #[.pointer none] 88)) #[.nilIface] 35 0
    rw [show (w.alloc (.cells #[.pointer none] 88)).heap.size = w.heap.size + 1 by simp] at this
    exact this
  have f1 : ((w.alloc (.cells #[.pointer none] 88)).alloc (.cells #[.nilIface] 35)).frozen? ⟨w.heap.size, 0, none⟩ = false := by simp
  have f2 : ((w.alloc (.cells #[.pointer none] 88)).alloc (.cells #[.nilIface] 35)).frozen? ⟨w.heap.size + 1, 0, none⟩ = false := by simp
  have hlt := lt_of_cell c2
  have he2 := he.gr hgW
  have HB1 := Lib.hid b1
  have HE := Lib.hid he2
  have hne : w.heap.size ≠ w.heap.size + 1 := by omega
  generalize hask : askS s = R
  have HASK := Lib.hid hask
  clear b1 he he2 hg1 hask
  have HCUT := Lib.hid hcut
  clear hcut
  have hwB : w.heap.size ≤ w.heap.size := Nat.le_refl _
  go_enter_defers Tryd.func51, Tryd.ntmps51
  go_wp2_with fail
  generalize (w.alloc (.cells #[.pointer none] 88)).alloc (.cells #[.nilIface] 35) = W2 at *
  generalize hB : w.heap.size = B at *
  cases hc : cutN s.size s.data.toList with
  | none =>
    have hR := HASK.out
    unfold askS at hR
    rw [hc] at hR
    subst hR
    refine (HCUT.out W2).mono ?_
    rw [hc]
    rintro e w3 ⟨rfl, hg3⟩
    have k1 := hg3.keeps c1
    have k2 := hg3.keeps c2
    have z1 := (hg3.frozen 0 (lt_of_cell c1)).trans f1
    have z2 := (hg3.frozen 0 (lt_of_cell c2)).trans f2
    have hgF := hgW.trans hg3
    unfold Thrown
    go_wp2_with fail
    refine leaves_cons (f := 74) (args := #[.pointer (some ⟨B, 0, none⟩), .pointer (some ⟨B + 1, 0, none⟩)]) (by simp) (by simp [go_sem]) ?_
    refine (catch_thrown B (B + 1) _ _ 3 [] _ k1 z1 k2 z2 hne).mono ?_
    rintro e u' w'' ⟨rfl, rfl, r1, r2, hgx⟩
    have hgZ := hgx.gr hgF (fun i hi => by rcases hi with rfl | rfl <;> omega)
    clear k1 k2 z1 z2 hgx hgF
    simp [Leaves, settle, results, Tryd.results51, go_sem, r1, r2]
    exact ⟨rfl, hgZ⟩
  | some ps =>
    have hR := HASK.out
    unfold askS at hR
    rw [hc] at hR
    change (match anyK 13 ps with | .bad n => (none, n) | .ok q r => if r = [] then (some q, 0) else (none, 3)) = R at hR
    obtain ⟨hpl, hpz⟩ := cut_len _ _ _ hc
    have hpo := cut_ok _ _ _ hc
    rw [← size_data] at hpl hpz
    have HRR := Lib.hid hR
    clear hR
    refine (HCUT.out W2).mono ?_
    rw [hc]
    rintro e w3 ⟨v, rfl, hown, hg3⟩
    obtain ⟨ao, cc, bb, rfl, _, _⟩ := own_open hown
    have hpa := pAt_own hown 134
    have hgA : Gr w3 (w3.alloc (.cells #[.slice ao ps.length cc] 134)) := (Gr.refl w3).alloc _
    have hen : 0 ≠ w3.heap.size := Nat.ne_of_lt (HE.out.gr hg3).lt
    have hin : InP w3.heap.size (w3.alloc (.cells #[.slice ao ps.length cc] 134)) ps := ⟨hpa, by omega, fun p hp => ⟨hpo p hp, by have := hpz p hp; omega⟩, (HE.out.gr hg3).gr hgA, hen⟩
    have hgB := hg3.trans hgA
    have hN : B + 1 < w3.heap.size := Nat.lt_of_lt_of_le hlt hg3.size
    have k1 := hgB.keeps c1
    have k2 := hgB.keeps c2
    have z1 := (hgB.frozen 0 (lt_of_cell c1)).trans f1
    have z2 := (hgB.frozen 0 (lt_of_cell c2)).trans f2
    have kb := (hgB.block _ (lt_of_cell c1)).trans HB1.out
    have hgC := hgW.trans hgB
    have hap := any_k w3.heap.size 13 0 rfl ps _ hin
    rw [show ((0 : Nat) : Int) = 0 from rfl] at hap
    have hless := anyK_less 13 ps
    have HIN := Lib.hid hin
    have HKB := Lib.hid kb
    clear hc hpl hpz hpo hpa hown hgA hin kb c1 c2 f1 f2 hg3 hgB
    go_wp2_with fail
    generalize w3.alloc (.cells #[.slice ao ps.length cc] 134) = w4 at *
    generalize w3.heap.size = N at *
    refine hap.mono ?_
    cases hA : anyK 13 ps with
    | bad n =>
      rintro e w5 ⟨rfl, hg5⟩
      have hR := HRR.out
      rw [hA] at hR
      change (none, n) = R at hR
      subst hR
      have z1 := (hg5.frozen 0 (lt_of_cell k1) (show ¬ B = N by omega)).trans z1
      have z2 := (hg5.frozen 0 (lt_of_cell k2) (show ¬ B + 1 = N by omega)).trans z2
      have k1 := hg5.keeps (show ¬ B = N by omega) k1
      have k2 := hg5.keeps (show ¬ B + 1 = N by omega) k2
      have hgF := hg5.gr hgC (fun i hi => by rw [hi]; omega)
      unfold Thrown
      go_wp2_with fail
      refine leaves_cons (f := 74) (args := #[.pointer (some ⟨B, 0, none⟩), .pointer (some ⟨B + 1, 0, none⟩)]) (by simp) (by simp [go_sem]) ?_
      refine (catch_thrown B (B + 1) _ _ n [] _ k1 z1 k2 z2 hne).mono ?_
      rintro e u' w'' ⟨rfl, rfl, r1, r2, hgx⟩
      have hgZ := hgx.gr hgF (fun i hi => by rcases hi with rfl | rfl <;> omega)
      clear k1 k2 z1 z2 hgx hgF
      simp [Leaves, settle, results, Tryd.results51, go_sem, r1, r2]
      exact ⟨rfl, hgZ⟩
    | ok q r =>
      rintro e w5 ⟨b, rfl, hq5, hp5, hg5⟩
      have hR := HRR.out
      rw [hA] at hR
      change (if r = [] then (some q, 0) else (none, 3)) = R at hR
      have z1 := (hg5.frozen 0 (lt_of_cell k1) (show ¬ B = N by omega)).trans z1
      have z2 := (hg5.frozen 0 (lt_of_cell k2) (show ¬ B + 1 = N by omega)).trans z2
      have kb5 := (hg5.block (lt_of_cell k1) (show ¬ B = N by omega)).trans HKB.out
      have k1 := hg5.keeps (show ¬ B = N by omega) k1
      have k2 := hg5.keeps (show ¬ B + 1 = N by omega) k2
      have hgF := hg5.gr hgC (fun i hi => by rw [hi]; omega)
      have hpr := hless q r hA
      have hrl : r.length ≤ 1000 := Nat.le_trans hpr.1.length_le HIN.out.2.1
      have hpx := fun v => PAt.setBox (v := v) hp5 kb5 (show B ≠ N by omega)
      have hnx := next_t N r hrl _ (hpx (.pointer (some ⟨b, 0, none⟩)))
      have HQ := Lib.hid hq5
      have hgS := GrX.setCell (S := fun i => i = B) w5 (p := ⟨B, 0, none⟩) (.pointer (some ⟨b, 0, none⟩)) rfl
      by_cases hr0 : r = []
      · rw [if_pos hr0] at hR
        subst hR hr0
        clear hpr hrl hpx hp5 kb5 hA HRR
        go_wp2_with (go_at_call 77; refine hnx.mono ?_; rintro e w6 ⟨rfl, rfl⟩; rw [show pkB [] = ⟨#[]⟩ from rfl])
        have hn1 : (⟨B, 0, none⟩ : Addr) ≠ ⟨B + 1, 0, none⟩ := by simp
        have hn2 : (⟨B + 1, 0, none⟩ : Addr) ≠ ⟨B, 0, none⟩ := by simp
        have r1 : (((w5.setCell ⟨B, 0, none⟩ (.pointer (some ⟨b, 0, none⟩))).setCell ⟨B, 0, none⟩ (.pointer (some ⟨b, 0, none⟩))).setCell ⟨B + 1, 0, none⟩ .nilIface).cell? ⟨B, 0, none⟩ = some (.pointer (some ⟨b, 0, none⟩)) :=
          (World.cell?_setCell_other _ _ _ _ hn2).trans (World.cell?_setCell_same _ _ _ (World.cell?_setCell_same _ _ _ k1))
        have r2 : (((w5.setCell ⟨B, 0, none⟩ (.pointer (some ⟨b, 0, none⟩))).setCell ⟨B, 0, none⟩ (.pointer (some ⟨b, 0, none⟩))).setCell ⟨B + 1, 0, none⟩ .nilIface).cell? ⟨B + 1, 0, none⟩ = some .nilIface :=
          World.cell?_setCell_same _ _ _ ((World.cell?_setCell_other _ _ _ _ hn1).trans ((World.cell?_setCell_other _ _ _ _ hn1).trans k2))
        have hgx : GrX (fun i => i = B ∨ i = B + 1) w5 (((w5.setCell ⟨B, 0, none⟩ (.pointer (some ⟨b, 0, none⟩))).setCell ⟨B, 0, none⟩ (.pointer (some ⟨b, 0, none⟩))).setCell ⟨B + 1, 0, none⟩ .nilIface) :=
          ((GrX.setCell _ _ (.inl rfl)).trans (GrX.setCell _ _ (.inl rfl))).trans (GrX.setCell _ _ (.inr rfl))
        generalize (((w5.setCell ⟨B, 0, none⟩ (.pointer (some ⟨b, 0, none⟩))).setCell ⟨B, 0, none⟩ (.pointer (some ⟨b, 0, none⟩))).setCell ⟨B + 1, 0, none⟩ .nilIface) = WF at *
        refine leaves_cons (f := 74) (args := #[.pointer (some ⟨B, 0, none⟩), .pointer (some ⟨B + 1, 0, none⟩)]) (by simp) (by simp [go_sem]) ?_
        refine (catch_idle ⟨B, 0, none⟩ ⟨B + 1, 0, none⟩ _).mono ?_
        rintro e u' w'' ⟨rfl, rfl, rfl⟩
        have hgZ := hgx.gr hgF (fun i hi => by rcases hi with rfl | rfl <;> omega)
        have hQF := QAt.grX hgx (fun i hi => by rcases hi with rfl | rfl <;> omega) q b HQ.out
        have HQF := Lib.hid hQF
        clear k1 k2 z1 z2 hgx hgF hQF hgS hnx
        simp [Leaves, settle, results, Tryd.results51, go_sem, r1, r2]
        exact ⟨N, b, rfl, HQF.out, hgZ⟩
      · rw [if_neg hr0] at hR
        subst hR
        obtain ⟨a, r', rfl⟩ : ∃ a r', r = a :: r' := by
          cases r with
          | nil => exact absurd rfl hr0
          | cons a r' => exact ⟨a, r', rfl⟩
        obtain ⟨cc0, rr0, hcc, _⟩ := (HIN.out.2.2.1 a (hpr.1.subset (by simp))).1
        have hae : a.toList.isEmpty = false := by rw [ByteArray.toList_eq, hcc]; rfl
        have hk1 := World.cell?_setCell_same w5 ⟨B, 0, none⟩ (.pointer (some ⟨b, 0, none⟩)) k1
        have hk2 := (World.cell?_setCell_other w5 ⟨B, 0, none⟩ ⟨B + 1, 0, none⟩ (.pointer (some ⟨b, 0, none⟩)) (by simp)).trans k2
        have hz1 : (w5.setCell ⟨B, 0, none⟩ (.pointer (some ⟨b, 0, none⟩))).frozen? ⟨B, 0, none⟩ = false := by rw [World.frozen?_setCell]; exact z1
        have hz2 : (w5.setCell ⟨B, 0, none⟩ (.pointer (some ⟨b, 0, none⟩))).frozen? ⟨B + 1, 0, none⟩ = false := by rw [World.frozen?_setCell]; exact z2
        have hgF := hgS.gr hgF (fun i hi => by rw [hi]; omega)
        clear hpr hrl hpx hp5 kb5 hA HRR hcc hr0 hgS
        go_wp2_with (first | (go_at_call 77; refine hnx.mono ?_; rintro e w6 ⟨rfl, rfl⟩; rw [show pkB (a :: r') = a from rfl]) | (go_at_call 78; refine (fail_t 3 _).mono ?_; rintro e w6 ⟨rfl, rfl⟩; unfold Thrown))
        clear k1 k2 z1 z2
        refine leaves_cons (f := 74) (args := #[.pointer (some ⟨B, 0, none⟩), .pointer (some ⟨B + 1, 0, none⟩)]) (by simp) (by simp [go_sem]) ?_
        refine (catch_thrown B (B + 1) _ _ 3 [] _ hk1 hz1 hk2 hz2 hne).mono ?_
        rintro e u' w'' ⟨rfl, rfl, r1, r2, hgx⟩
        have hgZ := hgx.gr hgF (fun i hi => by rcases hi with rfl | rfl <;> omega)
        clear hk1 hk2 hz1 hz2 hgx hgF hnx
        simp [Leaves, settle, results, Tryd.results51, go_sem, r1, r2]
        exact ⟨rfl, hgZ⟩
end Go.Proofs.YthenhglpljdhfaaDoor
