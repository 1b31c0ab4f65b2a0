/-
  Contracts of posting.Write and the reference's WritePlaces.
-/
import Derived.Test.YtkdplnbdhkckhaaPostWX
import Derived.Test.YtkdplnbdhkckhaaAux
namespace Go.Proofs.Ytkdplnbdhkckhaa
open Go Go.RowKit

def wS (xs : List GPlace) : List UInt8 := if placesB xs then writeP xs else []
def wErr (xs : List GPlace) : Value := if placesB xs then .nilIface else .iface 43 (.int .i64 1)
def wN (xs : List GPlace) : Int := if placesB xs then 0 else 1
theorem getD_at {xs : List GPlace} {j : Nat} (h : j < xs.length) : xs.getD j (0, 0) = xs[j] := by simp [List.getD_eq_getElem?_getD, h]

theorem cell_far {w : World} {b c o p : Nat} {u v : Value} (h : b ≠ c) (hc : w.cell? ⟨b, o, none⟩ = some v) : (w.setCell ⟨c, p, none⟩ u).cell? ⟨b, o, none⟩ = some v :=
  (World.cell?_setCell_other _ _ _ _ (fun e => h (congrArg Addr.block e).symm)).trans hc
theorem keep4 {W a w : World} {b c : Nat} {x1 x2 y1 y2 : Value} (h : a.cell? ⟨b, 0, none⟩ = some x1 ∧ a.cell? ⟨b, 1, none⟩ = some x2 ∧ a.cell? ⟨c, 0, none⟩ = some y1 ∧ a.cell? ⟨c, 1, none⟩ = some y2 ∧ Gr W a) (g : Gr a w) :
    w.cell? ⟨b, 0, none⟩ = some x1 ∧ w.cell? ⟨b, 1, none⟩ = some x2 ∧ w.cell? ⟨c, 0, none⟩ = some y1 ∧ w.cell? ⟨c, 1, none⟩ = some y2 ∧ Gr W w := ⟨g.keeps h.1, g.keeps h.2.1, g.keeps h.2.2.1, g.keeps h.2.2.2.1, h.2.2.2.2.trans g⟩
theorem held4 {W a : World} {b c : Nat} {x1 x2 y1 y2 : Value} (h : a.cell? ⟨b, 0, none⟩ = some x1 ∧ a.cell? ⟨b, 1, none⟩ = some x2 ∧ a.cell? ⟨c, 0, none⟩ = some y1 ∧ a.cell? ⟨c, 1, none⟩ = some y2 ∧ Gr W a) : Gr W a := h.2.2.2.2
theorem add_ba (l m : List UInt8) (h : l.length + m.length ≤ 100000000000) : ∀ w, (Op.stringOp .add ⟨l.toArray⟩ ⟨m.toArray⟩).run Try.prog w = .ok (.string ⟨(l ++ m).toArray⟩) w := fun w => by
  rw [run_string_add_sum w _ _ (by rw [ba_len, ba_len]; omega), ByteArray.mk_append_mk]
set_option maxRecDepth 100000 in
set_option maxHeartbeats 1600000 in
theorem write_p (xs : List GPlace) (b off c : Nat) (ao : Option Addr) (hao : 0 < xs.length → ao = some ⟨b, off, none⟩) (hl : xs.length ≤ 1000000) (w : World) (hc : PlacesAt w b off xs) :
    Calls Try.prog 7 #[.slice ao xs.length c] w (Ret w (.tuple #[.string ⟨(wS xs).toArray⟩, wErr xs])) := by
  have HC := Lib.hid hc
  have HA := Lib.hid hao
  clear hc hao
  go_enter Try.func7, Try.ntmps7
  go_wp2_with fail
  refine (right_p xs b off c ao HA.out (by omega) _ HC.out).mono ?_
  rintro e w1 ⟨rfl, hg1⟩
  cases hp : placesB xs
  · go_wp2_with fail
    go_ret2
    exact Ret.mk (by unfold wS wErr; rw [hp]; rfl) hg1
  · have HP := Lib.hid hp
    clear hp
    go_wp2_with fail
    have hgL := hg1.alloc (.cells #[.int .i64 0, .int .i64 0] 39)
    have q0 : (w1.alloc (.cells #[.int .i64 0, .int .i64 0] 39)).cell? ⟨w1.heap.size, 0, none⟩ = some (.int .i64 0) := by rw [World.cell?_alloc_new]; rfl
    have q1 : (w1.alloc (.cells #[.int .i64 0, .int .i64 0] 39)).cell? ⟨w1.heap.size, 1, none⟩ = some (.int .i64 0) := by rw [World.cell?_alloc_new]; rfl
    have z0 : ∀ o, (w1.alloc (.cells #[.int .i64 0, .int .i64 0] 39)).frozen? ⟨w1.heap.size, o, none⟩ = false := fun o => by simp
    have hL0 : w.heap.size ≤ w1.heap.size := hg1.size
    have hL1 : w1.heap.size < (w1.alloc (.cells #[.int .i64 0, .int .i64 0] 39)).heap.size := by simp
    generalize (w1.alloc (.cells #[.int .i64 0, .int .i64 0] 39)) = W0 at *
    generalize w1.heap.size = L at *
    clear hg1
    have HQ := Lib.hid (And.intro q0 (And.intro q1 z0))
    clear q0 q1 z0
    go_loopw [15, 4] (fun i u w' => ∃ j : Nat, j ≤ xs.length ∧ i = .int .i64 j ∧ Gr w w' ∧ OwnB w w' u (wrP xs j) ∧ u.ownBlock ≠ some L ∧ L < w'.heap.size ∧ (w'.cell? ⟨L, 0, none⟩ = some (.int .i64 (prevAt xs j).1) ∧ w'.cell? ⟨L, 1, none⟩ = some (.int .i64 (prevAt xs j).2) ∧ ∀ o, w'.frozen? ⟨L, o, none⟩ = false)) (fun i _ _ => xs.length - (intOf i).toNat)
    case atStart => exact ⟨0, Nat.zero_le _, rfl, hgL, ⟨rfl, .inl ⟨rfl, rfl⟩⟩, by simp [Value.ownBlock], hL1, HQ.out⟩
    case round =>
      obtain ⟨j, hj, rfl, hg, ho, hul, hlL, q0, q1, z⟩ := hrel
      have HO := Lib.hid ho
      clear ho
      by_cases hlt : j < xs.length
      · obtain rfl := HA.out (by omega)
        obtain ⟨c0, c1⟩ := HC.out.gr hg j hlt
        have hbd := enc_bounds hlt (fun i hi => placesB_at HP.out i (by omega))
        have hsu := wrP_succ xs j
        have hlen := wrP_len (l := xs) j hj (fun i hi => placesB_at HP.out i (by omega))
        have hpr : prevAt xs (j + 1) = xs.getD j (0, 0) := rfl
        rw [getD_at hlt] at hbd hsu hpr
        rw [inP_iff] at hbd
        generalize hx : xs[j] = x at *
        generalize ha : prevAt xs j = a at *
        obtain ⟨x1, x2⟩ := x
        obtain ⟨a1, a2⟩ := a
        simp only at c0 c1 q0 q1 hbd hpr
        have HSU := Lib.hid hsu
        have HPR := Lib.hid hpr
        have hup : u4.ownBlock ≠ some wr.heap.size := fun h => Nat.lt_irrefl _ (ownBlock_lt (OwnB.row HO.out) _ h)
        have hg2 : Gr wr (wr.alloc (.cells #[.int .i64 x1, .int .i64 x2] 39)) := (Gr.refl wr).alloc _
        have p0 : (wr.alloc (.cells #[.int .i64 x1, .int .i64 x2] 39)).cell? ⟨wr.heap.size, 0, none⟩ = some (.int .i64 x1) := by rw [World.cell?_alloc_new]; rfl
        have p1 : (wr.alloc (.cells #[.int .i64 x1, .int .i64 x2] 39)).cell? ⟨wr.heap.size, 1, none⟩ = some (.int .i64 x2) := by rw [World.cell?_alloc_new]; rfl
        have r0 := hg2.keeps q0
        have r1 := hg2.keeps q1
        have rz := fun o => (hg2.frozen o hlL).trans (z o)
        have hLP : L ≠ wr.heap.size := by omega
        clear hsu hpr
        by_cases hne : x1 = a1
        · subst hne
          have hle := hbd.2.2.2.2.2.2 rfl
          go_wp2_with fail
          refine (number_i w _ u4 (wrP xs j) ((x2 - a2) * 2) (by omega) (by omega) (by omega) (hg.alloc _) (ownsRow_gr (OwnB.row HO.out) hg2)).mono ?_
          rintro e w3 ⟨v3, rfl, ho3, hg3, hm3⟩
          have s0 := hm3.keeps hup p0
          have s1 := hm3.keeps hup p1
          have t0 := hm3.keeps hul r0
          have t1 := hm3.keeps hul r1
          have hv3 := (hm3.2 L (by simp; omega) hul).1
          have tz0 := ((hm3.2 L (by simp; omega) hul).2 0).2.trans (rz 0)
          have tz1 := ((hm3.2 L (by simp; omega) hul).2 1).2.trans (rz 1)
          have tz := fun o => ((hm3.2 L (by simp; omega) hul).2 o).2.trans (rz o)
          have hs3 := hm3.1
          simp only [World.size_alloc] at hs3
          have H3 := Lib.hid ho3
          clear p0 p1 r0 r1 rz hm3 q0 q1 z ho3
          go_wp2_with fail
          have tw := two_set (u := .int .i64 x1) (v := .int .i64 x2) t0 t1
          refine ⟨⟨j + 1, by omega, by go_num, (hg3.setCell (p := ⟨L, 0, none⟩) hL0 _).setCell (p := ⟨L, 1, none⟩) hL0 _, ?_, hv3, by simp; omega, ?_⟩, by simp [intOf]; omega⟩
          · rw [HSU.out]
            unfold encP
            simp only [if_true]
            rw [Int.mul_comm] at H3
            exact ownsRow_setCell_at (ownsRow_setCell_at (OwnB.row H3.out) (a := ⟨L, 0, none⟩) hv3) (a := ⟨L, 1, none⟩) hv3
          · rw [HPR.out]
            exact ⟨tw.1, tw.2, fun o => by simpa using tz o⟩
        · have hne' : (x1 != a1) = true := by simpa using hne
          go_wp2_with fail
          refine (number_i w _ u4 (wrP xs j) ((x1 - a1) * 2 + 1) (by omega) (by omega) (by omega) (hg.alloc _) (ownsRow_gr (OwnB.row HO.out) hg2)).mono ?_
          rintro e w3 ⟨v3, rfl, ho3, hg3, hm3⟩
          have s0 := hm3.keeps hup p0
          have s1 := hm3.keeps hup p1
          have t0 := hm3.keeps hul r0
          have t1 := hm3.keeps hul r1
          have hv3 := (hm3.2 L (by simp; omega) hul).1
          have hp3 := (hm3.2 wr.heap.size (by simp) hup).1
          have tz := fun o => ((hm3.2 L (by simp; omega) hul).2 o).2.trans (rz o)
          have hs3 := hm3.1
          simp only [World.size_alloc] at hs3
          have H3 := Lib.hid ho3
          clear p0 p1 r0 r1 rz hm3 q0 q1 z ho3
          go_wp2_with fail
          have hl1 := sevenB_len 4 ((x1 - a1) * 2 + 1).toNat (by rw [show 128 ^ (4 + 1) = 34359738368 by decide]; omega)
          refine (number_i w _ v3 _ x2 (by omega) (by omega) (by rw [List.length_append]; omega) hg3 H3.out).mono ?_
          rintro e w4 ⟨v4, rfl, ho4, hg4, hm4⟩
          have s0' := hm4.keeps hp3 s0
          have s1' := hm4.keeps hp3 s1
          have t0' := hm4.keeps hv3 t0
          have t1' := hm4.keeps hv3 t1
          have hv4 := (hm4.2 L (by omega) hv3).1
          have tz0 := ((hm4.2 L (by omega) hv3).2 0).2.trans (tz 0)
          have tz1 := ((hm4.2 L (by omega) hv3).2 1).2.trans (tz 1)
          have tz' := fun o => ((hm4.2 L (by omega) hv3).2 o).2.trans (tz o)
          have hs4 := hm4.1
          have H4 := Lib.hid ho4
          clear s0 s1 t0 t1 tz hm4 ho4
          go_wp2_with fail
          have tw := two_set (u := .int .i64 x1) (v := .int .i64 x2) t0' t1'
          refine ⟨⟨j + 1, by omega, by go_num, (hg4.setCell (p := ⟨L, 0, none⟩) hL0 _).setCell (p := ⟨L, 1, none⟩) hL0 _, ?_, hv4, by simp; omega, ?_⟩, by simp [intOf]; omega⟩
          · rw [HSU.out]
            unfold encP
            simp only [if_neg hne]
            rw [Int.mul_comm, List.append_assoc] at H4
            exact ownsRow_setCell_at (ownsRow_setCell_at (OwnB.row H4.out) (a := ⟨L, 0, none⟩) hv4) (a := ⟨L, 1, none⟩) hv4
          · rw [HPR.out]
            exact ⟨tw.1, tw.2, fun o => by simpa using tz' o⟩
      · obtain rfl : j = xs.length := by omega
        have hco := own_string HO.out
        go_wp2_with fail
        go_ret2
        exact Ret.mk (by unfold wS wErr; rw [HP.out]; rfl) hg
end Go.Proofs.Ytkdplnbdhkckhaa
