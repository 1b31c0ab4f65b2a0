/-
  The walk of the law PostingWrites: it returns true.
-/
import Derived.Test.YthenhglpljdhfaaDoorPostE
import Derived.Test.YthenhglpljdhfaaDoorTell
namespace Go.Proofs.YthenhglpljdhfaaDoor
open Go Go.RowKit

set_option maxHeartbeats 800000 in
theorem same_p (xs : List GPlace) (b off c : Nat) (ao : Option Addr) (hao : 0 < xs.length → ao = some ⟨b, off, none⟩) (hl : xs.length ≤ 9223372036854775807)
    (b' off' c' : Nat) (ao' : Option Addr) (hao' : 0 < xs.length → ao' = some ⟨b', off', none⟩) (w : World) (hc : PlacesAt w b off xs) (hc' : PlacesAt w b' off' xs) :
    Calls Tryd.prog 27 #[.slice ao xs.length c, .slice ao' xs.length c'] w (Ret w (.bool true)) := by
  have HC := Lib.hid hc
  have HA := Lib.hid hao
  have HC' := Lib.hid hc'
  have HA' := Lib.hid hao'
  clear hc hao hc' hao'
  go_enter Tryd.func27, Tryd.ntmps27
  go_wp2_with fail
  go_loopw [5] (fun i w' => ∃ j : Nat, j ≤ xs.length ∧ i = .int .i64 j ∧ Gr w w') (fun i _ => xs.length - (intOf i).toNat)
  case atStart => exact ⟨0, Nat.zero_le _, rfl, Gr.refl _⟩
  case round =>
    obtain ⟨j, hj, rfl, hg⟩ := hrel
    by_cases h1 : j < xs.length
    · obtain rfl := HA.out (by omega)
      obtain rfl := HA'.out (by omega)
      have hv := HC.out.gr hg j h1
      have hv' := HC'.out.gr hg j h1
      have f1 := fun d os => cell_regrown hv.1 d os
      have f2 := fun d os => cell_regrown hv.2 d os
      have f1' := fun d os => cell_regrown hv'.1 d os
      have f2' := fun d os => cell_regrown hv'.2 d os
      clear hv hv'
      go_wp2_with fail
      refine wp_region_quiet_below (by kernel_rfl) (by kernel_rfl) ?_
      repeat (go_big_quiet_step (fail))
      refine wpQuiet_nil ?_
      intro w3 hw3
      have hg3 := hg.trans (gr_regrown hw3)
      clear hw3 f1 f2 f1' f2' hg
      go_wp2_with fail
      exact ⟨⟨j + 1, by omega, by go_num, hg3⟩, by simp [intOf]; omega⟩
    · go_wp2_with fail
      go_ret
      exact Ret.mk rfl hg
theorem bare_true (err : Value) (n : Int) (w : World) (he : ErrTypeAt w) (h : ErrIs w err n (-1)) : Calls Tryd.prog 22 #[err, .int .i64 n] w (Ret w (.bool true)) := by
  have := bare_t err n (-1) n w he h
  simpa using this
theorem wErr_is (w : World) (xs : List GPlace) : ErrIs w (wErr xs) (wN xs) (-1) := by
  unfold wErr wN
  cases placesB xs
  · exact .inr (.inl ⟨rfl, rfl⟩)
  · exact .inl ⟨rfl, rfl, rfl⟩
def rdXs (l : List UInt8) : List GPlace := (readP l).getD []
def rdN (l : List UInt8) : Int := match readP l with | none => 3 | some _ => 0
theorem rp_post {w w1 : World} {l : List UInt8} {e1 : Ending} (h1 : RPReadPost w l e1 w1) :
    ∃ (ao : Option Addr) (b c : Nat), e1 = .returned (.tuple #[.slice ao (rdXs l).length c, .int .i64 (rdN l)]) ∧ (0 < (rdXs l).length → ao = some ⟨b, 0, none⟩) ∧ PlacesAt w1 b 0 (rdXs l) ∧ Gr w w1 := by
  unfold RPReadPost at h1
  unfold rdXs rdN
  cases hr : readP l with
  | none =>
    rw [hr] at h1
    exact ⟨none, 0, 0, h1.1, fun h => by simp at h, fun i hi => by simp at hi, h1.2⟩
  | some xs =>
    rw [hr] at h1
    obtain ⟨v, e1, o1, g1⟩ := h1
    obtain ⟨ao, b, c, rfl, h4, h5⟩ := o1.places
    exact ⟨ao, b, c, e1, h4, h5, g1⟩
theorem p_post {w w1 : World} {l : List UInt8} {e1 : Ending} (h1 : PReadPost w l e1 w1) :
    ∃ (ao : Option Addr) (b c : Nat) (err : Value), e1 = .returned (.tuple #[.slice ao (rdXs l).length c, err]) ∧ ErrIs w1 err (rdN l) (-1) ∧ (0 < (rdXs l).length → ao = some ⟨b, 0, none⟩) ∧ PlacesAt w1 b 0 (rdXs l) ∧ Gr w w1 := by
  unfold PReadPost at h1
  unfold rdXs rdN
  cases hr : readP l with
  | none =>
    rw [hr] at h1
    exact ⟨none, 0, 0, _, h1.1, .inr (.inl ⟨rfl, rfl⟩), fun h => by simp at h, fun i hi => by simp at hi, h1.2⟩
  | some xs =>
    rw [hr] at h1
    obtain ⟨v, e1, o1, g1⟩ := h1
    obtain ⟨ao, b, c, rfl, h4, h5⟩ := o1.places
    exact ⟨ao, b, c, _, e1, .inl ⟨rfl, rfl, rfl⟩, h4, h5, g1⟩
theorem placesN_len : ∀ (f : Nat) (a : GPlace) (ns : List Nat) (xs : List GPlace), placesN f a ns = some xs → xs.length ≤ ns.length := by
  intro f
  induction f with
  | zero =>
    intro a ns xs h
    cases ns with
    | nil => cases h; simp
    | cons c s => cases h
  | succ f ih =>
    intro a ns xs h
    cases ns with
    | nil => cases h; simp
    | cons n r =>
      rw [placesN.eq_def] at h
      simp only at h
      split at h
      · cases hp : placesN f (a.1, a.2 + (n / 2 : Nat)) r with
        | none => rw [hp] at h; cases h
        | some ys => rw [hp] at h; cases h; have := ih _ _ _ hp; simp; omega
      · cases r with
        | nil => cases h
        | cons m t =>
          simp only at h
          cases hp : placesN f (a.1 + (n / 2 : Nat), (m : Int)) t with
          | none => rw [hp] at h; cases h
          | some ys => rw [hp] at h; cases h; have := ih _ _ _ hp; simp; omega
theorem numsF_len : ∀ (f : Nat) (l : List UInt8) (ns : List Nat), numsF f l = some ns → ns.length ≤ l.length := by
  intro f
  induction f with
  | zero =>
    intro l ns h
    cases l with
    | nil => cases h; simp
    | cons c s => cases h
  | succ f ih =>
    intro l ns h
    cases l with
    | nil => cases h; simp
    | cons c s =>
      simp only [numsF] at h
      cases hp : getF 5 (c :: s) with
      | none => rw [hp] at h; cases h
      | some q =>
        obtain ⟨v, r⟩ := q
        rw [hp] at h
        simp only at h
        have hlt := getF_lt _ _ _ _ hp
        cases hr : numsF f r with
        | none => rw [hr] at h; cases h
        | some ys => rw [hr] at h; cases h; have := ih _ _ hr; simp at hlt ⊢; omega
theorem rdXs_len (l : List UInt8) : (rdXs l).length ≤ l.length := by
  unfold rdXs readP rdL
  cases h : numsL l with
  | none => simp
  | some ns =>
    have h1 := numsF_len _ _ _ h
    cases hp : placesL (0, 0) ns with
    | none => simp [hp]
    | some xs =>
      have h2 := placesN_len _ _ _ _ hp
      simp only [Option.bind_some, hp]
      split
      · simp; omega
      · simp
theorem sign_cmp (a b : GPlace) : signI (cmpP a b) = if beforeB a b then -1 else if a = b then 0 else 1 := by
  obtain ⟨a1, a2⟩ := a
  obtain ⟨b1, b2⟩ := b
  unfold signI cmpP orI Lib.compareInt
  cases h : beforeB (a1, a2) (b1, b2)
  · rw [Bool.eq_false_iff, ne_eq, before_iff] at h
    simp only [Prod.mk.injEq] at h ⊢
    simp only [Bool.false_eq_true, if_false]
    repeat' split
    all_goals omega
  · rw [before_iff] at h
    simp only at h ⊢
    simp only [if_true]
    repeat' split
    all_goals omega

set_option maxHeartbeats 1600000 in
theorem postingWrites_walk (xs : List GPlace) (b off c : Nat) (ao : Option Addr) (hao : 0 < xs.length → ao = some ⟨b, off, none⟩) (hl : xs.length ≤ 9223372036854775807) (s : ByteArray) (hs : s.size ≤ 9223372036854775807)
    (w : World) (hc : PlacesAt w b off xs) (he : ErrTypeAt w) :
    Calls Tryd.prog 5 #[.slice ao xs.length c, .string s] w (Ret w (.bool true)) := by
  have HE := Lib.hid he
  have HC := Lib.hid hc
  have HA := Lib.hid hao
  clear hc hao he
  by_cases hsm : xs.length ≤ 60 ∧ s.size ≤ 200
  · obtain ⟨h60, h200⟩ := hsm
    have g1 : decide ((60 : Int) < (xs.length : Int)) = false := by simp; omega
    have g2 : decide ((200 : Int) < (s.size : Int)) = false := by simp; omega
    go_enter Tryd.func5, Tryd.ntmps5
    go_wp2_with fail
    refine (write_ref xs b off c ao HA.out (by omega) _ HC.out).mono ?_
    rintro e w1 ⟨rfl, hg1⟩
    go_wp2_with fail
    refine (write_p xs b off c ao HA.out (by omega) _ (HC.out.gr hg1)).mono ?_
    rintro e w2 ⟨rfl, hg2⟩
    have hg := hg1.trans hg2
    clear hg1 hg2
    go_wp2_with fail
    refine (bare_true _ _ _ (HE.out.gr hg) (wErr_is _ _)).mono ?_
    rintro e w3 ⟨rfl, hg3⟩
    have hg' := hg.trans hg3
    clear hg hg3
    go_wp2_with fail
    refine (right_p xs b off c ao HA.out (by omega) _ (HC.out.gr hg')).mono ?_
    rintro e w4 ⟨rfl, hg4⟩
    have hg := hg'.trans hg4
    clear hg' hg4
    go_wp2_with fail
    refine (places_t xs b off c ao HA.out (by omega) _ (HC.out.gr hg)).mono ?_
    rintro e w5 ⟨rfl, hg5⟩
    have hg' := hg.trans hg5
    clear hg hg5
    go_wp2_with fail
    refine (read_rp s (by omega) _).mono ?_
    intro e w6 hp6
    obtain ⟨ao6, b6, c6, rfl, ha6, hv6, hg6⟩ := rp_post hp6
    clear hp6
    have hg := hg'.trans hg6
    have HA6 := Lib.hid ha6
    have HV6 := Lib.hid hv6
    clear hg' hg6 ha6 hv6
    go_wp2_with fail
    refine (read_p s (by omega) _).mono ?_
    intro e w7 hp7
    obtain ⟨ao7, b7, c7, err7, rfl, hE7, ha7, hv7, hg7⟩ := p_post hp7
    clear hp7
    have hg' := hg.trans hg7
    have HA7 := Lib.hid ha7
    have HV7 := Lib.hid hv7
    have HV6' := Lib.hid (HV6.out.gr hg7)
    have HE7 := Lib.hid hE7
    clear hg hg7 ha7 hv7 HV6 hE7
    have hxl : (rdXs s.data.toList).length ≤ 9223372036854775807 := Nat.le_trans (rdXs_len _) (by rw [← size_data]; exact hs)
    generalize rdXs s.data.toList = ys at *
    generalize rdN s.data.toList = en at *
    go_wp2_with fail
    refine (bare_true _ _ _ (HE.out.gr hg') HE7.out).mono ?_
    rintro e w8 ⟨rfl, hg8⟩
    have hg := hg'.trans hg8
    go_wp2_with fail
    refine (same_p ys b7 0 c7 ao7 HA7.out hxl b6 0 c6 ao6 HA6.out _ (HV7.out.gr hg8) (HV6'.out.gr hg8)).mono ?_
    rintro e w9 ⟨rfl, hg9⟩
    have hg' := hg.trans hg9
    clear hg hg9 hg8
    go_wp2_with fail
    go_loopw [11] (fun i w' => ∃ k : Nat, k ≤ xs.length ∧ i = .int .i64 ((k : Int) + 1) ∧ Gr w w') (fun i _ => xs.length - (intOf i).toNat)
    case atStart => exact ⟨0, Nat.zero_le _, rfl, hg'⟩
    case round =>
      obtain ⟨k, hk, rfl, hg⟩ := hrel
      by_cases hlt : k + 1 < xs.length
      · obtain rfl := HA.out (by omega)
        have hsc := sign_cmp xs[k] xs[k + 1]
        obtain ⟨y, hy⟩ : ∃ y, xs[k] = y := ⟨_, rfl⟩
        obtain ⟨x, hx⟩ : ∃ x, xs[k + 1] = x := ⟨_, rfl⟩
        rw [hy, hx] at hsc
        obtain ⟨y1, y2⟩ := y
        obtain ⟨x1, x2⟩ := x
        have HY := hy
        cases hb : beforeB (y1, y2) (x1, x2)
        · rw [hb] at hsc
          simp only [Bool.false_eq_true, if_false, Prod.mk.injEq] at hsc
          have hbt : ∀ w, Calls Tryd.prog 28 #[GPlace.val (y1, y2), GPlace.val (x1, x2)] w (Ret w (.bool false)) := fun w => by have := before_t (y1, y2) (x1, x2) w; rw [hb] at this; exact this
          obtain ⟨c0, c1⟩ := HC.out.gr hg k (by omega)
          obtain ⟨d0, d1⟩ := HC.out.gr hg (k + 1) hlt
          rw [hy] at c0 c1
          rw [hx] at d0 d1
          have f0 := fun d os => cell_regrown c0 d os
          have f1 := fun d os => cell_regrown c1 d os
          have f2 := fun d os => cell_regrown d0 d os
          have f3 := fun d os => cell_regrown d1 d os
          clear c0 c1 d0 d1
          go_wp2_with fail
          refine wp_region_quiet_below (by kernel_rfl) (by kernel_rfl) ?_
          repeat (go_big_quiet_step ((go_at_call 28; exact Ret.regrown (hbt _))))
          refine wpQuiet_nil ?_
          intro w3 hww3
          have hg3 := hg.trans (gr_regrown hww3)
          clear hww3 f0 f1 f2 f3 hg
          by_cases heq : y1 = x1 ∧ y2 = x2
          · obtain ⟨rfl, rfl⟩ := heq
            simp only [and_self, if_true] at hsc
            have hst : ∀ w, Calls Tryd.prog 29 #[.int .i64 (cmpP (y1, y2) (y1, y2))] w (Ret w (.int .i64 0)) := fun w => by have := sign_t (cmpP (y1, y2) (y1, y2)) w; rw [hsc] at this; exact this
            obtain ⟨c0, c1⟩ := HC.out.gr hg3 k (by omega)
            obtain ⟨d0, d1⟩ := HC.out.gr hg3 (k + 1) hlt
            rw [hy] at c0 c1
            rw [hx] at d0 d1
            have f0 := fun d os => cell_regrown c0 d os
            have f1 := fun d os => cell_regrown c1 d os
            have f2 := fun d os => cell_regrown d0 d os
            have f3 := fun d os => cell_regrown d1 d os
            clear c0 c1 d0 d1
            go_wp2_with fail
            refine wp_region_quiet_below (by kernel_rfl) (by kernel_rfl) ?_
            repeat (go_big_quiet_step (fail))
            refine wpQuiet_nil ?_
            intro w4 hww4
            have hg4 := hg3.trans (gr_regrown hww4)
            clear hww4 f0 f1 f2 f3 hg3
            obtain ⟨c0, c1⟩ := HC.out.gr hg4 k (by omega)
            obtain ⟨d0, d1⟩ := HC.out.gr hg4 (k + 1) hlt
            rw [hy] at c0 c1
            rw [hx] at d0 d1
            have f0 := fun d os => cell_regrown c0 d os
            have f1 := fun d os => cell_regrown c1 d os
            have f2 := fun d os => cell_regrown d0 d os
            have f3 := fun d os => cell_regrown d1 d os
            clear c0 c1 d0 d1
            go_wp2_with fail
            refine wp_region_quiet_below (by kernel_rfl) (by kernel_rfl) ?_
            repeat (go_big_quiet_step (first | (go_at_call 30; exact Ret.regrown (compare_p (y1, y2) (y1, y2) _)) | (go_at_call 29; exact Ret.regrown (hst _))))
            refine wpQuiet_nil ?_
            intro w5 hww5
            have hg5 := hg4.trans (gr_regrown hww5)
            clear hww5 f0 f1 f2 f3 hg4
            go_wp2_with fail
            exact ⟨⟨k + 1, by omega, by go_num, hg5⟩, by simp [intOf]; omega⟩
          · rw [if_neg heq] at hsc
            have hst : ∀ w, Calls Tryd.prog 29 #[.int .i64 (cmpP (y1, y2) (x1, x2))] w (Ret w (.int .i64 1)) := fun w => by have := sign_t (cmpP (y1, y2) (x1, x2)) w; rw [hsc] at this; exact this
            by_cases h1 : y1 = x1
            · subst h1
              have hn2 : (y2 == x2) = false := by simp only [beq_eq_false_iff_ne, ne_eq]; exact fun h2 => heq ⟨rfl, h2⟩
              obtain ⟨c0, c1⟩ := HC.out.gr hg3 k (by omega)
              obtain ⟨d0, d1⟩ := HC.out.gr hg3 (k + 1) hlt
              rw [hy] at c0 c1
              rw [hx] at d0 d1
              have f0 := fun d os => cell_regrown c0 d os
              have f1 := fun d os => cell_regrown c1 d os
              have f2 := fun d os => cell_regrown d0 d os
              have f3 := fun d os => cell_regrown d1 d os
              clear c0 c1 d0 d1
              go_wp2_with fail
              refine wp_region_quiet_below (by kernel_rfl) (by kernel_rfl) ?_
              repeat (go_big_quiet_step (fail))
              refine wpQuiet_nil ?_
              intro w4 hww4
              have hg4 := hg3.trans (gr_regrown hww4)
              clear hww4 f0 f1 f2 f3 hg3
              obtain ⟨c0, c1⟩ := HC.out.gr hg4 k (by omega)
              obtain ⟨d0, d1⟩ := HC.out.gr hg4 (k + 1) hlt
              rw [hy] at c0 c1
              rw [hx] at d0 d1
              have f0 := fun d os => cell_regrown c0 d os
              have f1 := fun d os => cell_regrown c1 d os
              have f2 := fun d os => cell_regrown d0 d os
              have f3 := fun d os => cell_regrown d1 d os
              clear c0 c1 d0 d1
              go_wp2_with fail
              refine wp_region_quiet_below (by kernel_rfl) (by kernel_rfl) ?_
              repeat (go_big_quiet_step (first | (go_at_call 30; exact Ret.regrown (compare_p (y1, y2) (y1, x2) _)) | (go_at_call 29; exact Ret.regrown (hst _))))
              refine wpQuiet_nil ?_
              intro w5 hww5
              have hg5 := hg4.trans (gr_regrown hww5)
              clear hww5 f0 f1 f2 f3 hg4
              go_wp2_with fail
              exact ⟨⟨k + 1, by omega, by go_num, hg5⟩, by simp [intOf]; omega⟩
            · have hn1 : (y1 == x1) = false := by simp only [beq_eq_false_iff_ne, ne_eq]; exact h1
              obtain ⟨c0, c1⟩ := HC.out.gr hg3 k (by omega)
              obtain ⟨d0, d1⟩ := HC.out.gr hg3 (k + 1) hlt
              rw [hy] at c0 c1
              rw [hx] at d0 d1
              have f0 := fun d os => cell_regrown c0 d os
              have f1 := fun d os => cell_regrown c1 d os
              have f2 := fun d os => cell_regrown d0 d os
              have f3 := fun d os => cell_regrown d1 d os
              clear c0 c1 d0 d1
              go_wp2_with fail
              refine wp_region_quiet_below (by kernel_rfl) (by kernel_rfl) ?_
              repeat (go_big_quiet_step (fail))
              refine wpQuiet_nil ?_
              intro w4 hww4
              have hg4 := hg3.trans (gr_regrown hww4)
              clear hww4 f0 f1 f2 f3 hg3
              obtain ⟨c0, c1⟩ := HC.out.gr hg4 k (by omega)
              obtain ⟨d0, d1⟩ := HC.out.gr hg4 (k + 1) hlt
              rw [hy] at c0 c1
              rw [hx] at d0 d1
              have f0 := fun d os => cell_regrown c0 d os
              have f1 := fun d os => cell_regrown c1 d os
              have f2 := fun d os => cell_regrown d0 d os
              have f3 := fun d os => cell_regrown d1 d os
              clear c0 c1 d0 d1
              go_wp2_with fail
              refine wp_region_quiet_below (by kernel_rfl) (by kernel_rfl) ?_
              repeat (go_big_quiet_step (first | (go_at_call 30; exact Ret.regrown (compare_p (y1, y2) (x1, x2) _)) | (go_at_call 29; exact Ret.regrown (hst _))))
              refine wpQuiet_nil ?_
              intro w5 hww5
              have hg5 := hg4.trans (gr_regrown hww5)
              clear hww5 f0 f1 f2 f3 hg4
              go_wp2_with fail
              exact ⟨⟨k + 1, by omega, by go_num, hg5⟩, by simp [intOf]; omega⟩
        · rw [hb] at hsc
          simp only [if_true] at hsc
          have hbt : ∀ w, Calls Tryd.prog 28 #[GPlace.val (y1, y2), GPlace.val (x1, x2)] w (Ret w (.bool true)) := fun w => by have := before_t (y1, y2) (x1, x2) w; rw [hb] at this; exact this
          have hst : ∀ w, Calls Tryd.prog 29 #[.int .i64 (cmpP (y1, y2) (x1, x2))] w (Ret w (.int .i64 (-1))) := fun w => by have := sign_t (cmpP (y1, y2) (x1, x2)) w; rw [hsc] at this; exact this
          obtain ⟨c0, c1⟩ := HC.out.gr hg k (by omega)
          obtain ⟨d0, d1⟩ := HC.out.gr hg (k + 1) hlt
          rw [hy] at c0 c1
          rw [hx] at d0 d1
          have f0 := fun d os => cell_regrown c0 d os
          have f1 := fun d os => cell_regrown c1 d os
          have f2 := fun d os => cell_regrown d0 d os
          have f3 := fun d os => cell_regrown d1 d os
          clear c0 c1 d0 d1
          go_wp2_with fail
          refine wp_region_quiet_below (by kernel_rfl) (by kernel_rfl) ?_
          repeat (go_big_quiet_step ((go_at_call 28; exact Ret.regrown (hbt _))))
          refine wpQuiet_nil ?_
          intro w3 hww3
          have hg3 := hg.trans (gr_regrown hww3)
          clear hww3 f0 f1 f2 f3 hg
          obtain ⟨c0, c1⟩ := HC.out.gr hg3 k (by omega)
          obtain ⟨d0, d1⟩ := HC.out.gr hg3 (k + 1) hlt
          rw [hy] at c0 c1
          rw [hx] at d0 d1
          have f0 := fun d os => cell_regrown c0 d os
          have f1 := fun d os => cell_regrown c1 d os
          have f2 := fun d os => cell_regrown d0 d os
          have f3 := fun d os => cell_regrown d1 d os
          clear c0 c1 d0 d1
          go_wp2_with fail
          refine wp_region_quiet_below (by kernel_rfl) (by kernel_rfl) ?_
          repeat (go_big_quiet_step (first | (go_at_call 30; exact Ret.regrown (compare_p (y1, y2) (x1, x2) _)) | (go_at_call 29; exact Ret.regrown (hst _))))
          refine wpQuiet_nil ?_
          intro w5 hww5
          have hg5 := hg3.trans (gr_regrown hww5)
          clear hww5 f0 f1 f2 f3 hg3
          go_wp2_with fail
          exact ⟨⟨k + 1, by omega, by go_num, hg5⟩, by simp [intOf]; omega⟩
      · go_wp2_with fail
        go_ret
        exact Ret.mk rfl hg
  · go_enter Tryd.func5, Tryd.ntmps5
    go_wp2_with fail
    all_goals first | omega | skip
    all_goals
      go_ret
      exact Ret.mk rfl (Gr.refl _)
end Go.Proofs.YthenhglpljdhfaaDoor
