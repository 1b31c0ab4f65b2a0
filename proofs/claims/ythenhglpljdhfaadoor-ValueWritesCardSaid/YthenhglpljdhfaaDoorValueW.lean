/-
  The walk of the law ValueWrites: it returns true.
-/
import Derived.Test.YthenhglpljdhfaaDoorSame
import Derived.Test.YthenhglpljdhfaaDoorReadRef
import Derived.Test.YthenhglpljdhfaaDoorTell
namespace Go.Proofs.YthenhglpljdhfaaDoor
open Go Go.RowKit

theorem short_sizes2 {xs : List GVal} (h : shortB xs = true) : xs.length ≤ 30 ∧ ∀ i (hi : i < xs.length), xs[i].text.size ≤ 100 := by
  unfold shortB at h
  simp only [Bool.and_eq_true, decide_eq_true_eq, List.all_eq_true] at h
  exact ⟨h.1, fun i hi => h.2 _ (List.getElem_mem hi)⟩
theorem is_same (err : Value) (n p : Int) (w : World) (he : ErrTypeAt w) (h : ErrIs w err n p) : Calls Tryd.prog 48 #[err, .agg #[.int .i64 n, .int .i64 p]] w (Ret w (.bool true)) := by
  have := is_t err n p n p w he h
  simpa using this
theorem bare_same (err : Value) (n : Int) (w : World) (he : ErrTypeAt w) (h : ErrIs w err n (-1)) : Calls Tryd.prog 22 #[err, .int .i64 n] w (Ret w (.bool true)) := by
  have := bare_t err n (-1) n w he h
  simpa using this

def keyS (xs : List GVal) : ByteArray := match firstBad xs with | none => ⟨(keyL xs).toArray⟩ | some _ => ⟨#[]⟩
def keyN (xs : List GVal) : Int := match firstBad xs with | none => 0 | some _ => 1
def keyP (xs : List GVal) : Int := match firstBad xs with | none => -1 | some i => (i : Int)
theorem rkey_post {w w1 : World} {xs : List GVal} {e1 : Ending} (h1 : RKeyPost w xs e1 w1) : Ret w (.tuple #[.string (keyS xs), .agg #[.int .i64 (keyN xs), .int .i64 (keyP xs)]]) e1 w1 := by
  unfold RKeyPost at h1
  unfold keyS keyN keyP
  cases hb : firstBad xs <;> rw [hb] at h1 <;> exact h1
theorem key_post {w w1 : World} {xs : List GVal} {e1 : Ending} (h1 : KeyPost w xs e1 w1) : ∃ err, e1 = .returned (.tuple #[.string (keyS xs), err]) ∧ ErrIs w1 err (keyN xs) (keyP xs) ∧ Gr w w1 := by
  unfold KeyPost at h1
  unfold keyS keyN keyP
  cases hb : firstBad xs with
  | none =>
    rw [hb] at h1
    exact ⟨_, h1.1, .inl ⟨rfl, rfl, rfl⟩, h1.2⟩
  | some i =>
    rw [hb] at h1
    obtain ⟨b, e, _, c0, c1, g⟩ := h1
    exact ⟨_, e, .inr (.inr ⟨b, rfl, c0, c1⟩), g⟩
def readXs (l : List UInt8) : List GVal := (readL l).getD []
def readE (l : List UInt8) : Int := match readL l with | none => 3 | some _ => 0
theorem rread_post {w w1 : World} {l : List UInt8} {e1 : Ending} (h1 : RReadPost w l e1 w1) :
    ∃ (ao : Option Addr) (b c : Nat), e1 = .returned (.tuple #[.slice ao (readXs l).length c, .int .i64 (readE l)]) ∧ (0 < (readXs l).length → ao = some ⟨b, 0, none⟩) ∧ ValsAt w1 b 0 (readXs l) ∧ Gr w w1 := by
  unfold RReadPost at h1
  unfold readXs readE
  cases hr : readL l with
  | none =>
    rw [hr] at h1
    exact ⟨none, 0, 0, h1.1, fun h => by simp at h, fun i hi => by simp at hi, h1.2⟩
  | some xs =>
    rw [hr] at h1
    obtain ⟨v, e1, o1, g1⟩ := h1
    obtain ⟨ao, b, c, rfl, h4, h5⟩ := o1.vals
    exact ⟨ao, b, c, e1, h4, h5, g1⟩
theorem read_post {w w1 : World} {l : List UInt8} {e1 : Ending} (h1 : ReadPost w l e1 w1) :
    ∃ (ao : Option Addr) (b c : Nat) (err : Value), e1 = .returned (.tuple #[.slice ao (readXs l).length c, err]) ∧ ErrIs w1 err (readE l) (-1) ∧ (0 < (readXs l).length → ao = some ⟨b, 0, none⟩) ∧ ValsAt w1 b 0 (readXs l) ∧ Gr w w1 := by
  unfold ReadPost at h1
  unfold readXs readE
  cases hr : readL l with
  | none =>
    rw [hr] at h1
    exact ⟨none, 0, 0, _, h1.1, .inr (.inl ⟨rfl, rfl⟩), fun h => by simp at h, fun i hi => by simp at hi, h1.2⟩
  | some xs =>
    rw [hr] at h1
    obtain ⟨v, e1, o1, g1⟩ := h1
    obtain ⟨ao, b, c, rfl, h4, h5⟩ := o1.vals
    exact ⟨ao, b, c, _, e1, .inl ⟨rfl, rfl, rfl⟩, h4, h5, g1⟩

theorem readF_len : ∀ (n : Nat) (l : List UInt8) (xs : List GVal), readF n l = some xs → xs.length ≤ l.length := by
  intro n
  induction n with
  | zero =>
    intro l xs h
    cases l with
    | nil => cases h; simp
    | cons c s => cases h
  | succ n ih =>
    intro l xs h
    cases l with
    | nil => cases h; simp
    | cons c s =>
      simp only [readF] at h
      cases hp : parse1 (c :: s) with
      | none => rw [hp] at h; cases h
      | some q =>
        obtain ⟨v, r⟩ := q
        rw [hp] at h
        simp only at h
        have hlt := parse1_lt hp
        cases hr : readF n r with
        | none => rw [hr] at h; cases h
        | some ys =>
          rw [hr] at h
          have := ih r ys hr
          cases h
          simp only [List.length_cons] at hlt ⊢
          omega
theorem readXs_len (l : List UInt8) : (readXs l).length ≤ l.length := by
  unfold readXs
  cases h : readL l with
  | none => simp
  | some xs => exact readF_len _ _ _ h
set_option maxHeartbeats 1600000 in
theorem valueWrites_walk (xs : List GVal) (b off c : Nat) (ao : Option Addr) (hao : 0 < xs.length → ao = some ⟨b, off, none⟩) (hl : xs.length ≤ 9223372036854775807) (s : ByteArray) (hs : s.size ≤ 9223372036854775807)
    (w : World) (hc : ValsAt w b off xs) (hm : MaxAt w) (hf : FineAt w) (he : ErrTypeAt w)
    (hn : ∀ i (h : i < xs.length), -9223372036854775808 ≤ xs[i].num ∧ xs[i].num ≤ 9223372036854775807) :
    Calls Tryd.prog 8 #[.slice ao xs.length c, .string s] w (Ret w (.bool true)) := by
  have HM := Lib.hid hm
  have HF := Lib.hid hf
  have HE := Lib.hid he
  have HN := Lib.hid hn
  have HC := Lib.hid hc
  have HA := Lib.hid hao
  clear hc hao hm hf he hn
  cases hx : shortB xs
  · have HX := Lib.hid hx
    clear hx
    go_enter Tryd.func8, Tryd.ntmps8
    go_wp2_with fail
    refine (short_t xs b off c ao HA.out hl _ HC.out).mono ?_
    rintro e w1 ⟨rfl, hg1⟩
    rw [HX.out]
    go_wp2_with fail
    go_ret
    exact Ret.mk rfl hg1
  have HX := Lib.hid hx
  clear hx
  have HS := Lib.hid (short_sizes2 HX.out).2
  have hl30 := (short_sizes2 HX.out).1
  go_enter Tryd.func8, Tryd.ntmps8
  go_wp2_with fail
  refine (short_t xs b off c ao HA.out hl _ HC.out).mono ?_
  rintro e w1 ⟨rfl, hg1⟩
  rw [HX.out]
  by_cases h400 : 400 < s.size
  · go_wp2_with fail
    all_goals first | omega | skip
    go_ret
    exact Ret.mk rfl hg1
  go_wp2_with fail
  all_goals first | omega | skip
  refine (key_ref xs b off c ao HA.out (by omega) (fun i h => ⟨HN.out i h, Nat.le_trans (HS.out i h) (by omega)⟩) _ (HC.out.gr hg1) (HF.out.gr hg1)).mono ?_
  intro e w2 hp2
  obtain ⟨rfl, hg2⟩ := rkey_post hp2
  clear hp2
  have hg12 := (hg1.trans hg2).alloc (.cells #[.int .i64 (keyN xs), .int .i64 (keyP xs)] 74)
  have f0 : (w2.alloc (.cells #[.int .i64 (keyN xs), .int .i64 (keyP xs)] 74)).cell? ⟨w2.heap.size, 0, none⟩ = some (.int .i64 (keyN xs)) := by rw [World.cell?_alloc_new]; rfl
  have f1 : (w2.alloc (.cells #[.int .i64 (keyN xs), .int .i64 (keyP xs)] 74)).cell? ⟨w2.heap.size, 1, none⟩ = some (.int .i64 (keyP xs)) := by rw [World.cell?_alloc_new]; rfl
  clear hg1 hg2
  go_wp2_with fail
  refine (key_t xs b off c ao HA.out (by omega) (fun i h => ⟨HN.out i h, Nat.le_trans (HS.out i h) (by omega)⟩) _ (HC.out.gr hg12)).mono ?_
  intro e w3 hp3
  obtain ⟨err, rfl, hE1, hg3⟩ := key_post hp3
  clear hp3
  have hg13 := hg12.trans hg3
  have f0 := hg3.keeps f0
  have f1 := hg3.keeps f1
  have HE1 := Lib.hid hE1
  clear hg12 hg3 hE1
  go_wp2_with fail
  refine (read_ref s (by omega) _).mono ?_
  intro e w4 hp4
  obtain ⟨ao4, b4, c4, rfl, ha4, hv4, hg4⟩ := rread_post hp4
  clear hp4
  have HE2 := Lib.hid (HE1.out.gr hg4)
  have HA4 := Lib.hid ha4
  have hg14 := hg13.trans hg4
  have f0 := hg4.keeps f0
  have f1 := hg4.keeps f1
  clear hg13 hg4 ha4
  go_wp2_with fail
  refine (read_t s (by omega) _ (HM.out.gr hg14)).mono ?_
  intro e w5 hp5
  obtain ⟨ao5, b5, c5, err5, rfl, hE5, ha5, hv5, hg5⟩ := read_post hp5
  clear hp5
  have HA5 := Lib.hid ha5
  have HV4 := Lib.hid (hv4.gr hg5)
  have HV5 := Lib.hid hv5
  have HE3 := Lib.hid (HE2.out.gr hg5)
  have HE5 := Lib.hid hE5
  have hg15 := hg14.trans hg5
  have f0 := hg5.keeps f0
  have f1 := hg5.keeps f1
  clear hg14 hg5 ha5 hv5 hv4 hE5
  have hxl : (readXs s.data.toList).length ≤ 9223372036854775807 := Nat.le_trans (readXs_len _) (by rw [← size_data]; exact hs)
  generalize readXs s.data.toList = ys at *
  generalize readE s.data.toList = en at *
  generalize keyS xs = ks at *
  generalize keyN xs = kn at *
  generalize keyP xs = kp at *
  go_wp2_with fail
  refine (is_same err kn kp _ (HE.out.gr hg15) HE3.out).mono ?_
  rintro e w6 ⟨rfl, hg6⟩
  have hg16 := hg15.trans hg6
  go_wp2_with fail
  refine (bare_same err5 en _ (HE.out.gr hg16) (HE5.out.gr hg6)).mono ?_
  rintro e w7 ⟨rfl, hg7⟩
  have hg17 := hg16.trans hg7
  have hg67 := hg6.trans hg7
  clear hg16 hg6 hg7 hg15
  go_wp2_with fail
  refine (same_t ys b5 0 c5 ao5 HA5.out hxl b4 0 c4 ao4 HA4.out _ (HV5.out.gr hg67) (HV4.out.gr hg67)).mono ?_
  rintro e w8 ⟨rfl, hg8⟩
  go_wp2_with fail
  go_ret
  exact Ret.mk rfl (hg17.trans hg8)
end Go.Proofs.YthenhglpljdhfaaDoor
