/-
  The walk of the law MatchParses: it returns true.
-/
import Derived.Test.YthenhglpljdhfaaDoorMtJ
import Derived.Test.YthenhglpljdhfaaDoorTell
import Derived.BigQuiet
import Derived.Lib.QuietBelow
import Derived.BigGuardPart
namespace Go.Proofs.YthenhglpljdhfaaDoor
open Go Go.RowKit

/-- What both have alike. -/
def WfQ : Qy → Prop
  | .leaf kind ws far => far = (if kind = 3 then 3 else 0) ∧ ws.length ≤ 4611686018427387904
  | .node kind l r => kind ≠ 3 ∧ WfQ l ∧ WfQ r
theorem wf_node {kind : Int} {l r : Qy} (hk : kind ≠ 3) (hl : WfQ l) (hr : WfQ r) : WfQ (.node kind l r) := ⟨hk, hl, hr⟩
def Small1 (l : List ByteArray) : Prop := ∀ p ∈ l, p.size ≤ 1000
theorem Small1.less {l r : List ByteArray} (h : Small1 l) (hr : r <:+ l) : Small1 r := fun p hp => h p (hr.subset hp)
theorem split_len (s : ByteArray) (hs : s.size ≤ 1000) : (splitS s).length ≤ 4611686018427387904 := splitS_length s (by omega)
theorem one_wf (anyR : List ByteArray → Rd) (ha : ∀ l q r, Small1 l → anyR l = .ok q r → WfQ q) (l : List ByteArray) (hl : Small1 l) (q : Qy) (r : List ByteArray) (h : oneF anyR l = .ok q r) : WfQ q := by
  unfold oneF at h
  dsimp only at h
  split at h
  · cases h
  · rename_i h0
    have hn : pkB l ≠ sNone := fun e => h0 (.inl e)
    obtain ⟨s, t, rfl, hp⟩ := pk_cons hn
    rw [hp] at h
    split at h
    · split at h
      · cases h
      · rename_i q1 r1 hq
        split at h
        · cases h
          exact ha t q r1 (hl.less (List.suffix_cons s t)) hq
        · cases h
    · split at h
      · split at h
        · cases h
        · cases h
          refine ⟨rfl, split_len _ ?_⟩
          have := hl s (by simp)
          rw [size_data, bsL_data, List.length_tail, ← size_data]
          omega
      · split at h
        · split at h
          · cases h
            exact ⟨rfl, by simp⟩
          · cases h
        · split at h
          · split at h
            · split at h
              · cases h
              · split at h
                · cases h
                  exact ⟨rfl, by simp⟩
                · cases h
            · cases h
              exact ⟨rfl, by simp⟩
          · cases h
theorem allL_wf (oneR : List ByteArray → Rd) (ho : ∀ l q r, Small1 l → oneR l = .ok q r → WfQ q) (hless : ∀ l q r, oneR l = .ok q r → Less r l) : ∀ (n : Nat) (q : Qy) (l : List ByteArray) (q' : Qy) (r : List ByteArray), Small1 l → WfQ q → allL oneR n q l = .ok q' r → WfQ q' := by
  intro n
  induction n with
  | zero =>
    intro q l q' r hl hq h
    unfold allL at h
    split at h
    · cases h; exact hq
    · cases h
  | succ n ih =>
    intro q l q' r hl hq h
    unfold allL at h
    split at h
    · cases h; exact hq
    · dsimp only at h
      split at h
      · cases h
      · rename_i q1 r1 h1
        have hl2 : Small1 (if pkB l = sNot ∨ pkB l = sAnd then l.tail else l) := by
          split
          · exact hl.less (List.tail_suffix l)
          · exact hl
        exact ih _ _ _ _ (hl2.less (hless _ _ _ h1).1) (wf_node (by split <;> decide) hq (ho _ _ _ hl2 h1)) h
theorem all_wf (oneR : List ByteArray → Rd) (ho : ∀ l q r, Small1 l → oneR l = .ok q r → WfQ q) (hless : ∀ l q r, oneR l = .ok q r → Less r l) (l : List ByteArray) (q : Qy) (r : List ByteArray) (hl : Small1 l) (h : allF oneR l = .ok q r) : WfQ q := by
  unfold allF at h
  split at h
  · cases h
  · rename_i q1 r1 h1
    exact allL_wf oneR ho hless _ _ _ _ _ (hl.less (hless _ _ _ h1).1) (ho _ _ _ hl h1) h
theorem anyL_wf (allR : List ByteArray → Rd) (ho : ∀ l q r, Small1 l → allR l = .ok q r → WfQ q) (hless : ∀ l q r, allR l = .ok q r → Less r l) : ∀ (n : Nat) (q : Qy) (l : List ByteArray) (q' : Qy) (r : List ByteArray), Small1 l → WfQ q → anyL allR n q l = .ok q' r → WfQ q' := by
  intro n
  induction n with
  | zero =>
    intro q l q' r hl hq h
    unfold anyL at h
    split at h
    · cases h
    · cases h; exact hq
  | succ n ih =>
    intro q l q' r hl hq h
    unfold anyL at h
    split at h
    · dsimp only at h
      split at h
      · cases h
      · rename_i q1 r1 h1
        have hl2 : Small1 l.tail := hl.less (List.tail_suffix l)
        exact ih _ _ _ _ (hl2.less (hless _ _ _ h1).1) (wf_node (by decide) hq (ho _ _ _ hl2 h1)) h
    · cases h; exact hq
theorem any_wf (allR : List ByteArray → Rd) (ho : ∀ l q r, Small1 l → allR l = .ok q r → WfQ q) (hless : ∀ l q r, allR l = .ok q r → Less r l) (l : List ByteArray) (q : Qy) (r : List ByteArray) (hl : Small1 l) (h : anyF allR l = .ok q r) : WfQ q := by
  unfold anyF at h
  split at h
  · cases h
  · rename_i q1 r1 h1
    exact anyL_wf allR ho hless _ _ _ _ _ (hl.less (hless _ _ _ h1).1) (ho _ _ _ hl h1) h
theorem oneK_wf : ∀ (k : Nat) (l : List ByteArray) (q : Qy) (r : List ByteArray), Small1 l → oneK k l = .ok q r → WfQ q := by
  intro k
  induction k with
  | zero => intro l q r _ h; cases h
  | succ k ih => exact fun l q r hl h => one_wf _ (fun l q r hl h => any_wf _ (fun l q r hl h => all_wf _ ih (oneK_less k) l q r hl h) (allK_less k) l q r hl h) l hl q r h
theorem anyK_wf (k : Nat) (l : List ByteArray) (q : Qy) (r : List ByteArray) (hl : Small1 l) (h : anyK k l = .ok q r) : WfQ q :=
  any_wf _ (fun l q r hl h => all_wf _ (oneK_wf k) (oneK_less k) l q r hl h) (allK_less k) l q r hl h
theorem ask_wf (s : ByteArray) (hs : s.size ≤ 1000) (q : Qy) (n : Int) (h : askS s = (some q, n)) : WfQ q ∧ n = 0 := by
  unfold askS at h
  cases hc : cutN s.size s.data.toList with
  | none => rw [hc] at h; cases h
  | some ps =>
    rw [hc] at h
    have hsm : Small1 ps := fun p hp => by
      have := (cut_len _ _ _ hc).2 p hp
      rw [← size_data] at this
      omega
    cases hA : anyK 13 ps with
    | bad m => simp only [hA] at h; cases h
    | ok q1 r =>
      simp only [hA] at h
      split at h
      · cases h
        exact ⟨anyK_wf 13 ps q r hsm hA, rfl⟩
      · cases h
theorem RAt.gr0 {N : Nat} {w w' : World} (g : Gr w w') : ∀ (q : Qy) (b : Nat), RAt N w q b → RAt N w' q b := RAt.grN (GrX.of_gr g)
theorem same_nil (w : World) : Calls Tryd.prog 52 #[.pointer none, .pointer none] w (Ret w (.bool true)) := by
  go_enter Tryd.func52, Tryd.ntmps52
  go_wp2_with fail
  go_ret
  exact Ret.mk rfl (Gr.refl _)
set_option maxRecDepth 100000 in
set_option maxHeartbeats 1600000 in
theorem same_q (N N' : Nat) : ∀ (q : Qy) (b b' : Nat) (w : World), WfQ q → QAt N w q b → RAt N' w q b' → Calls Tryd.prog 52 #[.pointer (some ⟨b, 0, none⟩), .pointer (some ⟨b', 0, none⟩)] w (Ret w (.bool true)) := by
  intro q
  induction q with
  | leaf kind ws far =>
    intro b b' w hw hq hr
    obtain ⟨rfl, hl⟩ := hw
    obtain ⟨_, c0, ⟨v, c1, ao, c, bb, rfl, ha, hst⟩, c2, c3, c4⟩ := hq
    obtain ⟨_, d0, ⟨v', d1, ao', c', bb', rfl, ha', hst'⟩, d2, d3⟩ := hr
    have HST := Lib.hid hst
    have HST' := Lib.hid hst'
    have HA := Lib.hid (fun h => (ha h).1)
    have HA' := Lib.hid (fun h => (ha' h).1)
    have f0 := fun d os => cell_regrown c0 d os
    have f1 := fun d os => cell_regrown c1 d os
    have f2 := fun d os => cell_regrown c2 d os
    have f3 := fun d os => cell_regrown c3 d os
    have f4 := fun d os => cell_regrown c4 d os
    have e0 := fun d os => cell_regrown d0 d os
    have e1 := fun d os => cell_regrown d1 d os
    have e2 := fun d os => cell_regrown d2 d os
    have e3 := fun d os => cell_regrown d3 d os
    clear hst hst' ha ha'
    by_cases hk : kind = 3
    · subst hk
      go_enter Tryd.func52, Tryd.ntmps52
      go_wp2_with fail
      refine wp_region_quiet_below (by kernel_rfl) (by kernel_rfl) ?_
      repeat (go_big_quiet_step (first | (go_at_call 14; exact Ret.regrown (sameTexts_t ws bb 0 c bb' 0 c' ao ao' HA.out HA'.out hl _ (HST.out.gr (gr_regrown ⟨⟨_, _⟩, rfl⟩)) (HST'.out.gr (gr_regrown ⟨⟨_, _⟩, rfl⟩)))) | (go_at_call 52; exact Ret.regrown (same_nil _))))
      refine wpQuiet_nil ?_
      intro w7 hw7
      have hg7 := gr_regrown hw7
      clear hw7
      go_wp2_with fail
      go_ret
      exact Ret.mk rfl hg7
    · have hkb : (kind == 3) = false := by simpa using hk
      rw [if_neg hk] at c2 f2
      go_enter Tryd.func52, Tryd.ntmps52
      go_wp2_with fail
      refine wp_region_quiet_below (by kernel_rfl) (by kernel_rfl) ?_
      repeat (go_big_quiet_step (first | (go_at_call 14; exact Ret.regrown (sameTexts_t ws bb 0 c bb' 0 c' ao ao' HA.out HA'.out hl _ (HST.out.gr (gr_regrown ⟨⟨_, _⟩, rfl⟩)) (HST'.out.gr (gr_regrown ⟨⟨_, _⟩, rfl⟩)))) | (go_at_call 52; exact Ret.regrown (same_nil _))))
      refine wpQuiet_nil ?_
      intro w7 hw7
      have hg7 := gr_regrown hw7
      clear hw7
      go_wp2_with fail
      go_ret
      exact Ret.mk rfl hg7
  | node kind l r ihl ihr =>
    intro b b' w hw hq hr
    obtain ⟨hk, hwl, hwr⟩ := hw
    obtain ⟨_, c0, c1, c2, bl, br, c3, c4, hql, hqr⟩ := hq
    obtain ⟨_, d0, d1, bl', br', d2, d3, hrl, hrr⟩ := hr
    have HQL := Lib.hid hql
    have HQR := Lib.hid hqr
    have HRL := Lib.hid hrl
    have HRR := Lib.hid hrr
    have IL := Lib.hid ihl
    have IR := Lib.hid ihr
    have HWL := Lib.hid hwl
    have HWR := Lib.hid hwr
    have f0 := fun d os => cell_regrown c0 d os
    have f1 := fun d os => cell_regrown c1 d os
    have f2 := fun d os => cell_regrown c2 d os
    have f3 := fun d os => cell_regrown c3 d os
    have f4 := fun d os => cell_regrown c4 d os
    have e0 := fun d os => cell_regrown d0 d os
    have e1 := fun d os => cell_regrown d1 d os
    have e2 := fun d os => cell_regrown d2 d os
    have e3 := fun d os => cell_regrown d3 d os
    have hkb : (kind == 3) = false := by simpa using hk
    have hnt := fun W => sameTexts_t [] 0 0 0 0 0 0 none none (by simp) (by simp) (by simp) W (fun i hi => by simp at hi) (fun i hi => by simp at hi)
    have HNT := Lib.hid hnt
    clear hql hqr hrl hrr ihl ihr hwl hwr hnt
    go_enter Tryd.func52, Tryd.ntmps52
    go_wp2_with fail
    refine wp_region_quiet_below (by kernel_rfl) (by kernel_rfl) ?_
    repeat (go_big_quiet_step (first | (go_at_call 14; exact Ret.regrown (HNT.out _)) | (go_at_call_of 52 (Value.pointer (some ⟨bl, 0, none⟩)); exact Ret.regrown (IL.out bl bl' _ HWL.out (QAt.grX (S := fun _ => False) (GrX.of_gr (gr_regrown ⟨⟨_, _⟩, rfl⟩)) (fun _ h => h.elim) _ _ HQL.out) (RAt.gr0 (gr_regrown ⟨⟨_, _⟩, rfl⟩) _ _ HRL.out))) | (go_at_call_of 52 (Value.pointer (some ⟨br, 0, none⟩)); exact Ret.regrown (IR.out br br' _ HWR.out (QAt.grX (S := fun _ => False) (GrX.of_gr (gr_regrown ⟨⟨_, _⟩, rfl⟩)) (fun _ h => h.elim) _ _ HQR.out) (RAt.gr0 (gr_regrown ⟨⟨_, _⟩, rfl⟩) _ _ HRR.out)))))
    refine wpQuiet_nil ?_
    intro w7 hw7
    have hg7 := gr_regrown hw7
    clear hw7
    go_wp2_with fail
    go_ret
    exact Ret.mk rfl hg7
theorem bare_ok (err : Value) (n : Int) (w : World) (he : ErrTypeAt w) (h : ErrIs w err n (-1)) : Calls Tryd.prog 22 #[err, .int .i64 n] w (Ret w (.bool true)) := by
  have := bare_t err n (-1) n w he h
  simpa using this
set_option maxRecDepth 100000 in
set_option maxHeartbeats 1600000 in
theorem matchParses_walk (s : ByteArray) (hs : s.size ≤ 9223372036854775807) (w : World) (he : EndsAt w) (hE : ErrTypeAt w) : Calls Tryd.prog 9 #[.string s] w (Ret w (.bool true)) := by
  by_cases h400 : s.size ≤ 400
  · have g4 : decide ((400 : Int) < (s.size : Int)) = false := by simp; omega
    have hask := ask_t s (by omega) w
    have HP := Lib.hid (fun W (hW : EndsAt W) => parse_t s (by omega) W hW)
    have HEN := Lib.hid he
    have HET := Lib.hid hE
    clear he hE
    obtain ⟨oq, n, hR⟩ : ∃ oq n, askS s = (oq, n) := ⟨_, _, rfl⟩
    rw [hR] at hask
    have hwf : ∀ q m, (oq, n) = (some q, m) → WfQ q ∧ m = 0 := fun q m h => ask_wf s (by omega) q m (hR.trans h)
    have HR := Lib.hid hR
    clear hR
    cases oq with
    | none =>
      clear hwf
      go_enter Tryd.func9, Tryd.ntmps9
      go_wp2_with fail
      refine hask.mono ?_
      rintro e w1 ⟨rfl, hg1⟩
      go_wp2_with fail
      refine (HP.out w1 (HEN.out.gr hg1)).mono ?_
      rw [HR.out]
      rintro e w2 ⟨rfl, hg2⟩
      have hgg := hg1.trans hg2
      go_wp2_with (first | (go_at_call 22; refine (bare_ok _ n _ (HET.out.gr hgg) (.inr (.inl ⟨rfl, rfl⟩))).mono ?_; rintro e w3 ⟨rfl, hg3⟩) | (go_at_call 52; refine (same_nil _).mono ?_; rintro e w4 ⟨rfl, hg4⟩))
      go_ret
      exact Ret.mk rfl ((hgg.trans hg3).trans hg4)
    | some q =>
      obtain ⟨hwq, rfl⟩ := hwf q n rfl
      go_enter Tryd.func9, Tryd.ntmps9
      go_wp2_with fail
      refine hask.mono ?_
      rintro e w1 ⟨N1, b1, rfl, hr1, hg1⟩
      go_wp2_with fail
      refine (HP.out w1 (HEN.out.gr hg1)).mono ?_
      rw [HR.out]
      rintro e w2 ⟨N2, b2, rfl, hq2, hg2⟩
      have hgg := hg1.trans hg2
      have hr2 := RAt.gr0 hg2 _ _ hr1
      go_wp2_with (first | (go_at_call 22; refine (bare_ok _ 0 _ (HET.out.gr hgg) (.inl ⟨rfl, rfl, rfl⟩)).mono ?_; rintro e w3 ⟨rfl, hg3⟩) | (go_at_call 52; refine (same_q N2 N1 q b2 b1 _ hwq (QAt.grX (S := fun _ => False) (GrX.of_gr hg3) (fun _ h => h.elim) _ _ hq2) (RAt.gr0 hg3 _ _ hr2)).mono ?_; rintro e w4 ⟨rfl, hg4⟩))
      go_ret
      exact Ret.mk rfl ((hgg.trans hg3).trans hg4)
  · have g4 : decide ((400 : Int) < (s.size : Int)) = true := by simp; omega
    go_enter Tryd.func9, Tryd.ntmps9
    go_wp2_with fail
    go_ret
    exact Ret.mk rfl (Gr.refl _)
end Go.Proofs.YthenhglpljdhfaaDoor
