/-
  The document's pages: a copy, and the least page that is not in use.
-/
import Derived.Test.YtcdoeninajpbmaaGreatDoorMapD
import Derived.Maps.RangeWalk
import Derived.Maps.StringElems
import Derived.Deep.CutRange
import Derived.Deep.MidRow
namespace Go.Proofs.YtcdoeninajpbmaaGreatDoor
open Go Go.RowKit Go.Maps

theorem MapAt.mono {w : World} {M n m : Nat} {F : Int → Option ByteArray} (h : MapAt w M n F) (hm : n ≤ m) : MapAt w M m F := by
  obtain ⟨D, ⟨es, clock, h1, h2, h3, h4⟩, h5⟩ := h
  exact ⟨D, ⟨es, clock, h1, h2, Nat.le_trans h3 hm, h4⟩, h5⟩
theorem MapAt.congr {w : World} {M n : Nat} {F G : Int → Option ByteArray} (h : MapAt w M n F) (e : ∀ k : Int, (Lit.int .i64 k).wf = true → F k = G k) : MapAt w M n G := by
  obtain ⟨D, h1, h2⟩ := h
  refine ⟨D, h1, fun k hk => ?_⟩
  rw [← e k hk]
  exact h2 k hk
theorem ranges_le {P : Program} {k : TypeId} {R : Value → Option (DataW Unit × List MemPlace)} {w : World} {b r n : Nat} {D : DataW Unit} {left : Lit → Bool} {cnt : Nat} (h : w.ranges P k R b r n D left cnt) : cnt ≤ n := by
  obtain ⟨es, clock, since, seen, c0, _, _, hn, _, _, _, hc, _⟩ := h
  rw [← hc]
  refine Nat.le_trans ?_ hn
  unfold leftOf
  exact Array.size_filter_le
/-- A struct Pages' cells. -/
def rp (M : Nat) (R : Nat → Int × Int) : List Value := [.map (some M), .int .i64 (R 0).1, .int .i64 (R 0).2, .int .i64 (R 1).1, .int .i64 (R 1).2, .int .i64 (R 2).1, .int .i64 (R 2).2, .int .i64 (R 3).1, .int .i64 (R 3).2, .int .i64 (R 4).1, .int .i64 (R 4).2, .int .i64 (R 5).1, .int .i64 (R 5).2, .int .i64 (R 6).1, .int .i64 (R 6).2, .int .i64 (R 7).1, .int .i64 (R 7).2]
theorem rp_len (M : Nat) (R : Nat → Int × Int) : (rp M R).length = 17 := rfl
theorem rp_one (M : Nat) (R : Nat → Int × Int) : ∀ v ∈ rp M R, v.oneCell' = true := by
  intro v hv
  simp only [rp, List.mem_cons, List.not_mem_nil, or_false] at hv
  rcases hv with rfl | rfl | rfl | rfl | rfl | rfl | rfl | rfl | rfl | rfl | rfl | rfl | rfl | rfl | rfl | rfl | rfl <;> rfl
theorem info_pages : (Tryz.prog.info? 38).map (·.size) = some 17 := by kernel_rfl
theorem setCells_blk (B : Nat) : ∀ (vs : List Value) (o : Nat) (w : World), GrX (fun k => k = B) w (w.setCells B o vs)
  | [], _, w => GrX.refl _ w
  | v :: vs, o, w => (GrX.setCell (S := fun k => k = B) (p := ⟨B, o, none⟩) w v rfl).trans (setCells_blk B vs (o + 1) _)
theorem results_cel {P : Program} {fn : Func} {a : Nat} {t : TypeId} {tmps : Array Value} {w : World} {p : Addr} {v : Value} (hr : fn.results = #[ResultVar.cell a t]) (ht : tmps.getD a undef = .pointer (some p)) (hl : (loadVar t p).run P w = .ok v w) :
    (results fn tmps).run P w = .ok v w := by
  have ht' : tmps[a]?.getD undef = .pointer (some p) := by simpa using ht
  simp [results, hr, ht', asAddr, hl]
theorem wf_rng {n : Int} (h : (Lit.int .i64 n).wf = true) : -9223372036854775808 ≤ n ∧ n ≤ 9223372036854775807 := by
  simp [Lit.wf, IntKind.min, IntKind.max, IntKind.bits, IntKind.signed] at h
  omega
/-- What is left to copy is not there yet. -/
def notLeft (F : Int → Option ByteArray) (lf : Lit → Bool) : Int → Option ByteArray := fun k => if lf (.int .i64 k) then none else F k
theorem notLeft_next {F : Int → Option ByteArray} {lf : Lit → Bool} {x : Int} {s : ByteArray} (h : F x = some s) : (fun i => if i = x then some s else notLeft F lf i) = notLeft F (fun z => lf z && !z.sameKey (.int .i64 x)) := by
  funext i
  unfold notLeft
  by_cases e : i = x
  · subst e
    simp [Lit.sameKey, h]
  · rw [if_neg e]
    have : (Lit.int .i64 i).sameKey (.int .i64 x) = false := by simp [Lit.sameKey, e]
    simp [this]
theorem GrX.fresh {S : Nat → Prop} {a w w' : World} {r : Nat} (h : GrX S a w) (g : w.grownBy w' (some r)) (hr : a.heap.size ≤ r) : GrX S a w' :=
  ⟨g.os.trans h.1, g.tape.trans h.2.1, g.output.trans h.2.2.1, Nat.le_trans h.2.2.2.1 g.size, fun k hk hs => (g.block k (Nat.lt_of_lt_of_le hk h.2.2.2.1) (fun e => by have := Option.some.inj e; omega)).trans (h.2.2.2.2 k hk hs)⟩
set_option maxRecDepth 100000 in
set_option maxHeartbeats 1600000 in
theorem copy_r (M n : Nat) (F : Int → Option ByteArray) (R : Nat → Int × Int) (w : World) (h : MapAt w M n F) (hn : n < 1000000) (hs : ∀ k s, F k = some s → s.size = 1024) :
    Calls Tryz.prog 6 #[.agg (rp M R).toArray] w fun e w' => ∃ M', e = .returned (.agg (rp M' R).toArray) ∧ MapAt w' M' n F ∧ w.heap.size ≤ M' ∧ Gr w w' := by
  have H := Lib.hid h
  have HS := Lib.hid hs
  have hMl := h.lt
  clear h hs
  have hmm := fun w => run_makeMap (P := Tryz.prog) 34 w
  show Calls Tryz.prog 6 #[.agg #[.map (some M), .int .i64 (R 0).1, .int .i64 (R 0).2, .int .i64 (R 1).1, .int .i64 (R 1).2, .int .i64 (R 2).1, .int .i64 (R 2).2, .int .i64 (R 3).1, .int .i64 (R 3).2, .int .i64 (R 4).1, .int .i64 (R 4).2, .int .i64 (R 5).1, .int .i64 (R 5).2, .int .i64 (R 6).1, .int .i64 (R 6).2, .int .i64 (R 7).1, .int .i64 (R 7).2]] w _
  go_enter Tryz.func6, Tryz.ntmps6
  go_upto_region 2 with (fail)
  obtain ⟨w1, hw1⟩ : ∃ w1, w1 = w.alloc (.cells #[.map (some M), .int .i64 (R 0).1, .int .i64 (R 0).2, .int .i64 (R 1).1, .int .i64 (R 1).2, .int .i64 (R 2).1, .int .i64 (R 2).2, .int .i64 (R 3).1, .int .i64 (R 3).2, .int .i64 (R 4).1, .int .i64 (R 4).2, .int .i64 (R 5).1, .int .i64 (R 5).2, .int .i64 (R 6).1, .int .i64 (R 6).2, .int .i64 (R 7).1, .int .i64 (R 7).2] 38) := ⟨_, rfl⟩
  rw [← hw1]
  have g1 : Gr w w1 := by rw [hw1]; exact (Gr.refl w).alloc _
  have z1 : w1.heap.size = w.heap.size + 1 := by rw [hw1]; simp
  have c1 : w1.cell? ⟨w.heap.size, 0, none⟩ = some (.map (some M)) := by rw [hw1, World.cell?_alloc_new]; rfl
  clear hw1
  obtain ⟨w2, hw2⟩ : ∃ w2, w2 = w1.alloc (.cells #[.map none, .int .i64 0, .int .i64 0, .int .i64 0, .int .i64 0, .int .i64 0, .int .i64 0, .int .i64 0, .int .i64 0, .int .i64 0, .int .i64 0, .int .i64 0, .int .i64 0, .int .i64 0, .int .i64 0, .int .i64 0, .int .i64 0] 38) := ⟨_, rfl⟩
  rw [← hw2]
  have g2 : Gr w1 w2 := by rw [hw2]; exact (Gr.refl w1).alloc _
  have z2 : w2.heap.size = w.heap.size + 1 + 1 := by rw [hw2]; simp [z1]
  have t2 : w2.there (w.heap.size + 1) 0 17 := fun j hj => by
    rw [← z1, hw2]
    constructor
    · rw [World.cell?_alloc_new, Array.getElem?_eq_getElem (by simp; omega)]
      rfl
    · simp
  clear hw2
  have hm3 := MapAt.made w2
  have g3 : Gr w2 (w2.alloc (.map #[] 0)) := (Gr.refl w2).alloc _
  have z3 : (w2.alloc (.map #[] 0)).heap.size = w.heap.size + 1 + 1 + 1 := by simp [z2]
  rw [z2] at hm3
  generalize w2.alloc (.map #[] 0) = w3 at *
  obtain ⟨w4, hw4⟩ : ∃ w4, w4 = w3.alloc (.cells #[.map (some (w.heap.size + 1 + 1)), .int .i64 (R 0).1, .int .i64 (R 0).2, .int .i64 (R 1).1, .int .i64 (R 1).2, .int .i64 (R 2).1, .int .i64 (R 2).2, .int .i64 (R 3).1, .int .i64 (R 3).2, .int .i64 (R 4).1, .int .i64 (R 4).2, .int .i64 (R 5).1, .int .i64 (R 5).2, .int .i64 (R 6).1, .int .i64 (R 6).2, .int .i64 (R 7).1, .int .i64 (R 7).2] 38) := ⟨_, rfl⟩
  rw [← hw4]
  have g4 : Gr w3 w4 := by rw [hw4]; exact (Gr.refl w3).alloc _
  have z4 : w4.heap.size = w.heap.size + 1 + 1 + 1 + 1 := by rw [hw4]; simp [z3]
  have r4 : w4.rangeAt (w.heap.size + 1 + 1 + 1) 0 (rp (w.heap.size + 1 + 1) R) := fun j v hv => by
    rw [← z3, hw4, World.cell?_alloc_new, Nat.zero_add, ← Array.getElem?_toList]
    exact hv
  clear hw4
  have HG := Lib.hid ((g1.trans g2).trans (g3.trans g4))
  have HM := Lib.hid (H.out.gr HG.out)
  have HQ := Lib.hid (hm3.gr g4)
  have HB := Lib.hid ((g2.trans (g3.trans g4)).keeps c1)
  have HT : Hid (w4.there (w.heap.size + 1) 0 17) := Lib.hid fun j hj => ⟨by rw [(g3.trans g4).cell _ (by omega)]; exact (t2 j hj).1, by rw [(g3.trans g4).frozen _ (by omega)]; exact (t2 j hj).2⟩
  have HR := Lib.hid r4
  clear g1 g2 g3 g4 z1 z2 z3 c1 t2 hm3 r4
  have cb := HB.out
  obtain ⟨D, hown, hD⟩ := HM.out
  have HDD := Lib.hid hD
  clear hD
  generalize hQ : w.heap.size + 1 + 1 = Q at *
  have hq1 : w.heap.size + 2 ≤ Q := by omega
  have hq2 : Q ≤ w.heap.size + 2 := by omega
  have hz4 : Q + 2 ≤ w4.heap.size := by omega
  clear hQ z4
  go_wp2_with (at_range; refine wpList_range_own _ rfl _ 34 rfl 3 9 keyI Tryz.underlying34 _ M n D rfl hown ?_; intro w5 hrg5 hg5 hs5)
  go_frame
  have hMw4 : M < w4.heap.size := HM.out.lt
  generalize (Value.agg #[.map (some M), .int .i64 (R 0).1, .int .i64 (R 0).2, .int .i64 (R 1).1, .int .i64 (R 1).2, .int .i64 (R 2).1, .int .i64 (R 2).2, .int .i64 (R 3).1, .int .i64 (R 3).2, .int .i64 (R 4).1, .int .i64 (R 4).2, .int .i64 (R 5).1, .int .i64 (R 5).2, .int .i64 (R 6).1, .int .i64 (R 6).2, .int .i64 (R 7).1, .int .i64 (R 7).2]) = V0
  generalize (Value.agg #[.map (some Q), .int .i64 (R 0).1, .int .i64 (R 0).2, .int .i64 (R 1).1, .int .i64 (R 1).2, .int .i64 (R 2).1, .int .i64 (R 2).2, .int .i64 (R 3).1, .int .i64 (R 3).2, .int .i64 (R 4).1, .int .i64 (R 4).2, .int .i64 (R 5).1, .int .i64 (R 5).2, .int .i64 (R 6).1, .int .i64 (R 6).2, .int .i64 (R 7).1, .int .i64 (R 7).2]) = V1
  generalize (Value.agg #[.int .i64 (R 0).1, .int .i64 (R 0).2, .int .i64 (R 1).1, .int .i64 (R 1).2, .int .i64 (R 2).1, .int .i64 (R 2).2, .int .i64 (R 3).1, .int .i64 (R 3).2, .int .i64 (R 4).1, .int .i64 (R 4).2, .int .i64 (R 5).1, .int .i64 (R 5).2, .int .i64 (R 6).1, .int .i64 (R 6).2, .int .i64 (R 7).1, .int .i64 (R 7).2]) = V2
  go_loopw [13] (fun _ wr' => ∃ (lf : Lit → Bool) (cnt m : Nat), wr'.ranges Tryz.prog 3 (plainElem Tryz.prog 9) M w4.heap.size n D lf cnt ∧ m + cnt ≤ n ∧ MapAt wr' Q m (notLeft F lf) ∧ GrX (fun k => k = Q) w4 wr') (fun _ wr' => wr'.rangeLeft M w4.heap.size)
  case atStart =>
    refine ⟨_, _, 0, hrg5, by rw [Nat.zero_add]; exact ranges_le hrg5, (HQ.out.kept hg5 (by simp)).congr fun k hk => ?_, GrX.of_gr ⟨hg5.os, hg5.tape, hg5.output, hg5.size, fun k hk => hg5.block k hk (by simp)⟩⟩
    unfold notLeft
    rw [(HDD.out k hk).1]
    cases F k <;> rfl
  case round =>
    obtain ⟨lf, cnt, m, hrg, hmc, hmq, hgx⟩ := hrel
    have HMQ := Lib.hid hmq
    have HGX := Lib.hid hgx
    clear hmq hgx
    have cq := HGX.out.keeps (show ¬ Q + 1 = Q by omega) (HR.out 0 _ rfl)
    rw [Nat.add_zero] at cq
    go_wp2_with (at_next; refine wpList_next_ranges_is _ rfl _ rfl 3 9 .i64 keyI Tryz.underlying3 Tryz.underlying9 M _ n D lf cnt rfl hrg ?_ ?_)
    · intro hc0 hlf
      have HFQ : Hid (MapAt wr Q n F) := Lib.hid ((HMQ.out.mono (by omega)).congr fun k hk => by unfold notLeft; rw [hlf]; rfl)
      have HR2 : Hid (wr.rangeAt (Q + 1) 0 (rp Q R)) := Lib.hid fun j v hv => HGX.out.keeps (show ¬ Q + 1 = Q by omega) (HR.out j v hv)
      have HT2 : Hid (wr.there (w.heap.size + 1) 0 17) := Lib.hid fun j hj => by
        have hne : ¬ (fun k => k = Q) (w.heap.size + 1) := fun e => absurd e (by omega)
        have hb := HGX.out.block (show w.heap.size + 1 < w4.heap.size by omega) hne
        exact ⟨by rw [World.cell?_of_block hb]; exact (HT.out j hj).1, by rw [World.frozen?_of_block hb]; exact (HT.out j hj).2⟩
      go_wp2_with (first
        | (refine wpList_load_mid rfl 38 _ rfl (Q + 1) 0 rfl _ _ HR2.out Tryz.underlying38 rfl (by rw [info_pages, rp_len]) ?_)
        | (refine wpList_store_mid rfl 38 _ _ rfl (w.heap.size + 1) 0 _ rfl rfl HT2.out (by rw [info_pages]; rfl) (all_oneCell_toArray (rp_one Q R)) ?_))
      have hgw : Gr w wr := HGX.out.gr HG.out (fun k e => by have e2 : k = Q := e; omega)
      have hgs : GrX (fun k => k = w.heap.size + 1) wr (wr.setCells (w.heap.size + 1) 0 (rp Q R)) := setCells_blk (w.heap.size + 1) (rp Q R) 0 wr
      have hld := run_loadVar_mid (P := Tryz.prog) (wr.setCells (w.heap.size + 1) 0 (rp Q R)) (w.heap.size + 1) 0 38 _ _ (World.rangeAt_setCells_same wr (w.heap.size + 1) 0 (rp Q R) (by rw [rp_len]; exact HT2.out)) Tryz.underlying38 rfl (by rw [info_pages, rp_len])
      exact bodyPost_ret (results_cel rfl rfl hld) rfl ⟨Q, rfl, HFQ.out.keepX hgs (show ¬ Q = w.heap.size + 1 by omega), by omega, hgs.gr hgw (fun k e => by have e2 : k = w.heap.size + 1 := e; omega)⟩
    · intro x c1 w6 cnt1 hwx hwc hlx hat hrg1 hlt hg1 hs1 hen
      obtain ⟨_, hAt⟩ := HDD.out x hwx
      have hFx : Hid (F x = some c1) := Lib.hid (by
        cases hF : F x with
        | none =>
          rw [hF] at hAt
          have h1 := (hAt (.map [])).symm.trans (hat (.map []))
          cases h1
        | some s =>
          rw [hF] at hAt
          have h1 := (hAt (.map [])).symm.trans (hat (.map []))
          have h2 : s = c1 := by
            apply data_ext
            simpa using h1
          rw [h2])
      have hsz := HS.out x c1 hFx.out
      have hxr := wf_rng hwx
      have HMQ6 := Lib.hid (HMQ.out.kept hg1 (fun e => by have := Option.some.inj e; omega))
      obtain ⟨w7, hupd, hma, hgq⟩ := HMQ6.out.store (by omega) (k := x) hxr c1 (by omega)
      have cq6 := (HGX.out.fresh hg1 (by omega)).keeps (show ¬ Q + 1 = Q by omega) (HR.out 0 _ rfl)
      rw [Nat.add_zero] at cq6
      have HMA : Hid (MapAt w7 Q (m + 1) (notLeft F (fun z => lf z && !z.sameKey (.int .i64 x)))) := Lib.hid (by rw [← notLeft_next hFx.out]; exact hma)
      have HRG7 := Lib.hid (hrg1.kept hgq (fun e => by have := Option.some.inj e; omega) (fun e => by have := Option.some.inj e; omega))
      have HGX7 := Lib.hid ((HGX.out.fresh hg1 (by omega)).trans (GrX.of_grown (S := fun k => k = Q) hgq rfl))
      have HLF := Lib.hid (show w7.rangeLeft M w4.heap.size < wr.rangeLeft M w4.heap.size by
        have e1 := HRG7.out.left_eq
        have e2 := hrg.left_eq
        rw [e1, e2]
        exact hlt)
      clear hAt hat hma hgq hrg1 hrg
      go_wp2_with fail
      go_roundw
      case rel => first | exact ⟨_, cnt1, m + 1, HRG7.out, by omega, HMA.out, HGX7.out⟩ | exact ⟨_, _, _, _, _, _, _, _, _, _, ⟨_, cnt1, m + 1, HRG7.out, by omega, HMA.out, HGX7.out⟩, rfl⟩
      case measure => exact HLF.out
end Go.Proofs.YtcdoeninajpbmaaGreatDoor
