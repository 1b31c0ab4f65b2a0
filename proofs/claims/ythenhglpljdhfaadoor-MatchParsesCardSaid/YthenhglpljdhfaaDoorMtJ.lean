/-
  concordanceref.Ask.
-/
import Derived.Test.YthenhglpljdhfaaDoorMtI
import Derived.Test.YthenhglpljdhfaaDoorMtD
namespace Go.Proofs.YthenhglpljdhfaaDoor
open Go Go.RowKit

def badN (N : Nat) (w : World) : Int := match w.cell? ⟨N, 1, none⟩ with | some (.int _ n) => n | _ => 0
theorem badN_at {N : Nat} {w : World} {l : List ByteArray} {bad : Int} (h : AAt N w l bad) : badN N w = bad := by
  unfold badN
  rw [h.2.1]
def leftB (N : Nat) (w : World) : Nat := if badN N w = 0 then leftN N w + 1 else 0
set_option maxRecDepth 100000 in
set_option maxHeartbeats 1600000 in
theorem rany_t (N d : Nat) (allR : List ByteArray → Rd) (hless : ∀ l q r, allR l = .ok q r → Less r l) (hall : ∀ (l' : List ByteArray) (w' : World), InA N w' l' → Calls Tryd.prog 94 #[.pointer (some ⟨N, 0, none⟩), .int .i64 d] w' (RPost N w' (allR l')))
    (l : List ByteArray) (w : World) (h : InA N w l) : Calls Tryd.prog 72 #[.pointer (some ⟨N, 0, none⟩), .int .i64 d] w (RPost N w (anyF allR l)) := by
  have HI := Lib.hid h
  have HONE := Lib.hid hall
  have HLESS := Lib.hid hless
  have hlN := lt_of_cell h.1.2.1
  clear h hall hless
  generalize hR : anyF allR l = R
  unfold anyF at hR
  have HR := Lib.hid hR
  clear hR
  go_enter Tryd.func72, Tryd.ntmps72
  go_wp2_with fail
  refine (HONE.out l w HI.out).mono ?_
  intro e w1 hpost
  have hstart : ∃ b, e = .returned (.pointer (some ⟨b, 0, none⟩)) ∧
      ((∃ q l n, RAt N w1 q b ∧ InA N w1 l ∧ GrN N w w1 ∧ l.length ≤ n ∧ anyL allR n q l = R) ∨ (∃ l' m, AAt N w1 l' m ∧ m ≠ 0 ∧ GrN N w w1 ∧ R = .bad m)) := by
    have hR := HR.out
    cases ho : allR l with
    | bad m =>
      rw [ho] at hR hpost
      obtain ⟨b, l', rfl, hA, hm, hg⟩ := hpost
      exact ⟨b, rfl, .inr ⟨l', m, hA, hm, hg, hR.symm⟩⟩
    | ok q r =>
      rw [ho] at hR hpost
      obtain ⟨b, rfl, hq, hA, hg⟩ := hpost
      have hin := HI.out.less hA (HLESS.out l q r ho).1
      exact ⟨b, rfl, .inl ⟨q, r, r.length, hq, hin, hg, Nat.le_refl _, hR⟩⟩
  obtain ⟨b, rfl, hrel0⟩ := hstart
  have HREL := Lib.hid hrel0
  clear hpost hrel0
  go_wp2_with fail
  go_loopw [5] (fun qv w' => (∃ (q : Qy) (b : Nat) (l : List ByteArray) (n : Nat), qv = .pointer (some ⟨b, 0, none⟩) ∧ RAt N w' q b ∧ InA N w' l ∧ GrN N w w' ∧ l.length ≤ n ∧ anyL allR n q l = R) ∨ (∃ (b : Nat) (l' : List ByteArray) (m : Int), qv = .pointer (some ⟨b, 0, none⟩) ∧ AAt N w' l' m ∧ m ≠ 0 ∧ GrN N w w' ∧ R = .bad m)) (fun _ w' => leftB N w')
  case atStart =>
    rcases HREL.out with ⟨q, l, n, h1, h2, h3, h4, h5⟩ | ⟨l', m, h1, h2, h3, h4⟩
    · exact .inl ⟨q, b, l, n, rfl, h1, h2, h3, h4, h5⟩
    · exact .inr ⟨b, l', m, rfl, h1, h2, h3, h4⟩
  case round =>
    rcases hrel with ⟨q, b, l, n, rfl, hq, hin, hg, hn, hres⟩ | ⟨b, l', m, rfl, hA, hm, hg, rfl⟩
    · have HQ := Lib.hid hq
      have HIN := Lib.hid hin
      have hmu : leftB N wr = l.length + 1 := by unfold leftB; rw [badN_at hin.1, if_pos rfl, leftN_at hin.1.1]
      clear hq hin HREL
      by_cases hst : pkB l = sOr
      · obtain ⟨s, t, rfl, hpk⟩ := pk_cons (l := l) (by rw [hst]; decide)
        obtain rfl : s = ⟨#[79, 82]⟩ := hpk.symm.trans hst
        obtain ⟨n, rfl⟩ : ∃ m, n = m + 1 := ⟨n - 1, by simp at hn; omega⟩
        rw [anyL_step _ _ _ _ hst] at hres
        change (match allR t with | .bad m => Rd.bad m | .ok q' r => anyL allR n (.node 5 q q') r) = R at hres
        have htk := atake_yes N ⟨#[79, 82]⟩ t HIN.out.2.1 _ HIN.out.1
        cases hO : allR t with
        | bad m =>
          rw [hO] at hres
          have HO2 := Lib.hid hO
          subst hres
          clear hO hst hpk
          go_wp2_with (go_at_call_of 95 (Value.string ⟨#[79, 82]⟩); refine htk.mono ?_; rintro e w2 ⟨rfl, PC, hg2⟩; have GN := hg.trans hg2; have HI2 := HIN.out.less PC (List.suffix_cons _ t); clear hg2)
          refine (HONE.out _ _ HI2).mono ?_
          rw [HO2.out]
          rintro e w3 ⟨b2, l2, rfl, hA3, hm3, hg3⟩
          have hga : Gr w3 (w3.alloc (.cells #[.int .i64 5, .slice none 0 0, .pointer (some ⟨b, 0, none⟩), .pointer (some ⟨b2, 0, none⟩)] 138)) := (Gr.refl w3).alloc _
          have hgF := (GN.trans hg3).trans (GrX.of_gr hga)
          have hA4 := hA3.gr hga
          have HA4 := Lib.hid hA4
          clear hA3 hA4 hga
          go_wp2_with fail
          refine ⟨.inr ⟨w3.heap.size, l2, m, rfl, HA4.out, hm3, hgF, rfl⟩, ?_⟩
          rw [hmu]
          unfold leftB
          rw [badN_at HA4.out, if_neg hm3]
          exact Nat.succ_pos _
        | ok q2 r =>
          rw [hO] at hres
          have HO2 := Lib.hid hO
          have hlr := HLESS.out _ q2 r hO
          have HRS := Lib.hid hres
          clear hO hst hpk hres
          go_wp2_with (go_at_call_of 95 (Value.string ⟨#[79, 82]⟩); refine htk.mono ?_; rintro e w2 ⟨rfl, PC, hg2⟩; have GN := hg.trans hg2; have HI2 := HIN.out.less PC (List.suffix_cons _ t); have QC := RAt.grN hg2 q b HQ.out; clear hg2)
          refine (HONE.out _ _ HI2).mono ?_
          rw [HO2.out]
          rintro e w3 ⟨b2, rfl, hq2, hp2, hg3⟩
          have hgF := GN.trans hg3
          have hQ1 := RAt.grN hg3 q b QC
          have hi3 := HI2.less hp2 hlr.1
          have hN3 : N < w3.heap.size := Nat.lt_of_lt_of_le hlN hgF.2.2.2.1
          have hND := rnode_new 5 hQ1 hq2 hN3 138
          have hga : Gr w3 (w3.alloc (.cells #[.int .i64 5, .slice none 0 0, .pointer (some ⟨b, 0, none⟩), .pointer (some ⟨b2, 0, none⟩)] 138)) := (Gr.refl w3).alloc _
          have hi4 := hi3.less (hi3.1.gr hga) (List.suffix_refl r)
          have hl2 := hlr.2
          have HND := Lib.hid hND
          have HI4 := Lib.hid hi4
          clear hND hlr hq2 hp2 hi3 HI2 hi4
          go_wp2_with fail
          refine ⟨.inl ⟨_, w3.heap.size, r, n, rfl, HND.out, HI4.out, hgF.trans (GrX.of_gr hga), by simp at hn; omega, HRS.out⟩, ?_⟩
          rw [hmu]
          unfold leftB
          rw [badN_at HI4.out.1, if_pos rfl, leftN_at HI4.out.1.1, List.length_cons]
          omega
      · rw [anyL_stop _ _ _ _ hst] at hres
        subst hres
        have htk := atake_no N l ⟨#[79, 82]⟩ HIN.out.2.1 _ HIN.out.1 hst
        clear hst hmu
        go_wp2_with (go_at_call_of 95 (Value.string ⟨#[79, 82]⟩); refine htk.mono ?_; rintro e w2 ⟨rfl, rfl⟩)
        go_ret
        exact ⟨b, rfl, HQ.out, HIN.out.1, hg⟩
    · have htk := atake_bad N l' m ⟨#[79, 82]⟩ _ hA hm (by decide)
      clear HREL
      go_wp2_with (go_at_call_of 95 (Value.string ⟨#[79, 82]⟩); refine htk.mono ?_; rintro e w2 ⟨rfl, rfl⟩)
      go_ret
      exact ⟨b, l', rfl, hA, hm, hg⟩
theorem rany_k (N : Nat) : ∀ (k d : Nat), d + k = 13 → ∀ (l : List ByteArray) (w : World), InA N w l → Calls Tryd.prog 72 #[.pointer (some ⟨N, 0, none⟩), .int .i64 d] w (RPost N w (anyK k l)) := by
  intro k
  induction k with
  | zero =>
    intro d hd l w h
    exact rany_t N d (allK 0) (allK_less 0) (fun l' w' h' => rall_t N d (oneK 0) (oneK_less 0) (fun l'' w'' h'' => rone_deep N d (by omega) l'' w'' h'') l' w' h') l w h
  | succ k ih =>
    intro d hd l w h
    refine rany_t N d (allK (k + 1)) (allK_less (k + 1)) (fun l' w' h' => rall_t N d (oneK (k + 1)) (oneK_less (k + 1)) (fun l'' w'' h'' => ?_) l' w' h') l w h
    exact rone_t N d (by omega) (anyK k) (anyK_less k) (fun l3 w3 h3 => by
      have := ih (d + 1) (by omega) l3 w3 h3
      rwa [show ((d + 1 : Nat) : Int) = (d : Int) + 1 by omega] at this) l'' w'' h''
def AskPost (w : World) (r : Option Qy × Int) (e : Ending) (w' : World) : Prop :=
  match r with
  | (some q, _) => ∃ N b, e = .returned (.tuple #[.pointer (some ⟨b, 0, none⟩), .int .i64 0]) ∧ RAt N w' q b ∧ Gr w w'
  | (none, n) => e = .returned (.tuple #[.pointer none, .int .i64 n]) ∧ Gr w w'
theorem pAt_own2 {w : World} {B : Nat} {v : Value} {ws : List ByteArray} (h : OwnS w B v ws) (T : TypeId) : AAt w.heap.size (w.alloc (.cells #[v, .int .i64 0] T)) ws 0 := by
  obtain ⟨ao, c, b, h1, h2, h3⟩ := own_open h
  have hc : ws.length ≤ c := by
    rcases h.2 with ⟨e, h0⟩ | ⟨g, cap, cur, e, _, hh, hn, _⟩
    · omega
    · rw [h1] at e
      cases e
      exact hn
  have hb : 0 < ws.length → b < w.heap.size := fun hp => lt_of_cell (h3 0 hp)
  refine ⟨⟨ao, c, b, 0, by rw [World.cell?_alloc_new, ← h1]; rfl, hc, h2, fun hp => by have := hb hp; omega, fun i hi => ((Gr.refl w).alloc _).keeps (h3 i hi), ?_⟩, by rw [World.cell?_alloc_new]; rfl, ?_⟩
  · simp
  · simp
set_option maxRecDepth 100000 in
set_option maxHeartbeats 1600000 in
theorem ask_t (s : ByteArray) (hs : s.size ≤ 1000) (w : World) : Calls Tryd.prog 50 #[.string s] w (AskPost w (askS s)) := by
  have hpc := pieces_t s hs w
  generalize hask : askS s = R
  unfold askS at hask
  cases hc : cutN s.size s.data.toList with
  | none =>
    rw [hc] at hask hpc
    subst hask
    clear hc
    go_enter Tryd.func50, Tryd.ntmps50
    go_wp2_with fail
    refine hpc.mono ?_
    rintro e w1 ⟨rfl, hg1⟩
    go_wp2_with fail
    go_ret2
    exact ⟨rfl, hg1⟩
  | some ps =>
    rw [hc] at hask hpc
    obtain ⟨hpl, hpz⟩ := cut_len _ _ _ hc
    have hpo := cut_ok _ _ _ hc
    rw [← size_data] at hpl hpz
    have hpl2 : ps.length ≤ 1000 := by omega
    have HPO := Lib.hid (fun p hp => (⟨hpo p hp, Nat.le_trans (hpz p hp) hs⟩ : PieceOk p ∧ p.size ≤ 1000))
    have HASK := Lib.hid hask
    clear hc hpz hpo hask
    go_enter Tryd.func50, Tryd.ntmps50
    go_wp2_with fail
    refine hpc.mono ?_
    rintro e w1 ⟨v, rfl, hown, hg1⟩
    obtain ⟨ao, cc, bb, rfl, _, _⟩ := own_open hown
    have hpa := pAt_own2 hown 126
    have hgA : Gr w1 (w1.alloc (.cells #[.slice ao ps.length cc, .int .i64 0] 126)) := (Gr.refl w1).alloc _
    have hap := rany_k w1.heap.size 13 0 rfl ps _ ⟨hpa, hpl2, HPO.out⟩
    rw [show ((0 : Nat) : Int) = 0 from rfl] at hap
    have hgC := hg1.trans hgA
    have hwN : w.heap.size ≤ w1.heap.size := hg1.size
    clear hpc hown hpa hgA
    go_wp2_with fail
    generalize w1.alloc (.cells #[.slice ao ps.length cc, .int .i64 0] 126) = w2 at *
    generalize w1.heap.size = N at *
    refine hap.mono ?_
    have hR := HASK.out
    cases hA : anyK 13 ps with
    | bad n =>
      rw [hA] at hR
      change (none, n) = R at hR
      subst hR
      rintro e w3 ⟨b, l', rfl, hA3, hn, hg3⟩
      have hgF := hg3.gr hgC (fun i hi => by rw [hi]; exact hwN)
      obtain ⟨⟨ao3, c3, b3, off3, k1, _, _, _, _, _⟩, k2, _⟩ := id hA3
      have hnb : (n != 0) = true := by simpa using hn
      have hnn : notedB n 3 = n := if_neg hn
      have HA3 := Lib.hid hA3
      clear hA3 hap HASK
      by_cases hl0 : 0 < l'.length
      · have g1 : decide ((0 : Int) < (l'.length : Int)) = true := by simp; omega
        go_wp2_with (go_at_call 73; refine (fails_t N l' n 3 _ HA3.out).mono ?_; rintro e w4 ⟨rfl, AC, hg4⟩; rw [hnn] at AC; have k2 := AC.2.1; have hgF := hg4.gr hgF (fun i hi => by rw [hi]; exact hwN))
        go_region
        go_wp2_with fail
        go_ret2
        exact ⟨rfl, hgF.drew⟩
      · have g1 : decide ((0 : Int) < (l'.length : Int)) = false := decide_eq_false (by omega)
        go_wp2_with fail
        go_region
        go_wp2_with fail
        go_ret2
        exact ⟨rfl, hgF.drew⟩
    | ok q r =>
      rw [hA] at hR
      change (if r = [] then (some q, 0) else (none, 3)) = R at hR
      rintro e w3 ⟨b, rfl, hq3, hA3, hg3⟩
      have hgF := hg3.gr hgC (fun i hi => by rw [hi]; exact hwN)
      obtain ⟨⟨ao3, c3, b3, off3, k1, _, _, _, _, _⟩, k2, _⟩ := id hA3
      have HA3 := Lib.hid hA3
      have HQ3 := Lib.hid hq3
      clear hA3 hq3 hap HASK hA
      by_cases hr0 : r = []
      · rw [if_pos hr0] at hR
        subst hR hr0
        go_wp2_with fail
        go_ret2
        exact ⟨N, b, rfl, HQ3.out, hgF⟩
      · rw [if_neg hr0] at hR
        subst hR
        have hl0 : 0 < r.length := List.length_pos_iff.2 hr0
        have g1 : decide ((0 : Int) < (r.length : Int)) = true := by simp; omega
        clear hr0
        go_wp2_with (go_at_call 73; refine (fails_t N r 0 3 _ HA3.out).mono ?_; rintro e w4 ⟨rfl, AC, hg4⟩; have k2 := AC.2.1; rw [show notedB 0 3 = 3 from rfl] at k2; have hgF := hg4.gr hgF (fun i hi => by rw [hi]; exact hwN))
        go_region
        go_wp2_with fail
        go_ret2
        exact ⟨rfl, hgF.drew⟩
end Go.Proofs.YthenhglpljdhfaaDoor
