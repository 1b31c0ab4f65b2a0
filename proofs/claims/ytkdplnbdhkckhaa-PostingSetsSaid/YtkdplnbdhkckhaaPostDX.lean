/-
  The contract of posting.Read.
-/
import Derived.Test.YtkdplnbdhkckhaaPostGX
namespace Go.Proofs.Ytkdplnbdhkckhaa
open Go Go.RowKit

def cellsP (xs : List GPlace) : List Value := xs.flatMap fun p => [.int .i64 p.1, .int .i64 p.2]
/-- A list of places of the call's own. -/
def OwnP (a0 w : World) (v : Value) (xs : List GPlace) : Prop := w.ownsRow a0.heap.size 39 2 v xs.length (cellsP xs)
theorem OwnP.row {a0 w : World} {v : Value} {xs : List GPlace} (h : OwnP a0 w v xs) : w.ownsRow a0.heap.size 39 2 v xs.length (cellsP xs) := h
theorem info_place : (Try.prog.info? 39).map (fun i => (i.zero, i.size, i.bytes)) = some (some (.agg #[.int .i64 0, .int .i64 0]), 2, 16) := by kernel_rfl
theorem ownP_snoc {a0 w : World} {v : Value} {xs : List GPlace} {x : GPlace} (h : w.ownsRow a0.heap.size 39 2 v (xs.length + 1) (cellsP xs ++ [.int .i64 x.1, .int .i64 x.2])) : OwnP a0 w v (xs ++ [x]) := by
  unfold OwnP
  have e : cellsP (xs ++ [x]) = cellsP xs ++ [.int .i64 x.1, .int .i64 x.2] := by unfold cellsP; rw [List.flatMap_append]; simp
  rw [e, List.length_append]
  exact h
theorem placeCells_one (a b : Int) : ∀ u ∈ [Value.int .i64 a, Value.int .i64 b], u.oneCell' = true := by
  intro u hu
  simp only [List.mem_cons, List.mem_nil_iff, or_false] at hu
  rcases hu with rfl | rfl <;> rfl
theorem cellsP_get : ∀ (xs : List GPlace) (i : Nat) (h : i < xs.length), (cellsP xs)[i * 2]? = some (.int .i64 xs[i].1) ∧ (cellsP xs)[i * 2 + 1]? = some (.int .i64 xs[i].2)
  | [], i, h => by simp at h
  | x :: xs, 0, _ => by simp [cellsP]
  | x :: xs, i + 1, h => by
    have := cellsP_get xs i (by simpa using h)
    have e : (i + 1) * 2 = i * 2 + 2 := by omega
    rw [e]
    unfold cellsP
    rw [List.flatMap_cons]
    simpa [cellsP] using this
theorem OwnP.places {a0 w : World} {v : Value} {xs : List GPlace} (h : OwnP a0 w v xs) : ∃ ao b c, v = .slice ao xs.length c ∧ (0 < xs.length → ao = some ⟨b, 0, none⟩) ∧ PlacesAt w b 0 xs := by
  have hc := fun g hg => World.ownsRow.cells (g := g) h.row hg
  rcases h.row.2 with ⟨rfl, h0⟩ | ⟨g, cap, cur, rfl, _⟩
  · have h0' : xs.length = 0 := h0
    exact ⟨none, 0, 0, by rw [h0'], fun h => by omega, fun i hi => by omega⟩
  · refine ⟨_, g, cap, rfl, fun _ => rfl, fun i hi => ?_⟩
    have hg := cellsP_get xs i hi
    have c1 := hc g rfl _ _ hg.1
    have c2 := hc g rfl _ _ hg.2
    have e : ∀ j, (⟨g, 0, none⟩ : Addr).add j = ⟨g, 0 + j, none⟩ := by
      intro j; unfold Addr.add; split <;> simp_all
    rw [e] at c1 c2
    exact ⟨c1, by rw [Nat.add_assoc]; exact c2⟩
/-- What posting.Read hands back. -/
def PReadPost (w : World) (l : List UInt8) (e : Ending) (w' : World) : Prop :=
  match readP l with
  | none => e = .returned (.tuple #[.slice none 0 0, .iface 43 (.int .i64 3)]) ∧ Gr w w'
  | some xs => ∃ v, e = .returned (.tuple #[v, .nilIface]) ∧ OwnP w w' v xs ∧ Gr w w'
theorem and_one (n : Nat) (h : n < 9223372036854775808) : bits BinOp.and IntKind.i64 (n : Int) 1 = ((n % 2 : Nat) : Int) := by
  show IntKind.i64.wrap ((BitVec.ofInt 64 (n : Int) &&& BitVec.ofInt 64 ((1 : Nat) : Int)).toNat : Int) = _
  rw [BitVec.toNat_and, ofInt_64 _ (by omega), ofInt_64 _ (by omega), Nat.and_two_pow_sub_one_eq_mod n 1]
  rw [IntKind.wrap_i64]
  omega
theorem getVal_some {l r : List UInt8} {n : Nat} (h : getF 5 l = some (n, r)) : getVal l = .tuple #[.int .i64 (n : Int), .string ⟨r.toArray⟩, .bool true] := by
  unfold getVal get5; rw [h]
theorem getVal_none {l : List UInt8} (h : getF 5 l = none) : getVal l = .tuple #[.int .i64 0, .string ⟨#[]⟩, .bool false] := by
  unfold getVal get5; rw [h]
theorem readP_none {l : List UInt8} (h : rdL (0, 0) l = none) : readP l = none := by unfold readP; rw [h]

theorem append_moved' {P : Program} {a0 w : World} {ops : Array Oper} {rest : List Oper} {o : Oper} {a : Act} {Q : Exit → Act → World → Prop} (hgd : o.guard = none) (s x : Operand) (t : TypeId)
    (ho : o.op = .call { callee := .builtin .append, args := #[s, x], argTypes := #[t, t] }) (e : TypeId) (i : TypeInfo) (z : Value) (size bytes : Nat) (ht : P.underlying t = some (.slice e)) (hi : P.info? e = some i)
    (hz : i.zero = some z) (hsize : i.size = size) (hby : i.bytes = bytes) (hzs : z.cells.size = size) (hsz : 0 < size) (v : Value) (n : Nat) (xs : List Value) (hs : a.eval s = v) (hown : w.ownsRow a0.heap.size e size v n xs)
    (us : List Value) (hul : us.length = size) (h1 : ∀ u ∈ us, u.oneCell' = true) (H : Nat) (hH : w.heap.size = H) (hx : a.eval x = .slice (some ⟨H, 0, none⟩) 1 1) (hg : Gr a0 w) (h63 : n + 1 ≤ 4611686018427387904) (hbytes : (n + 1) * bytes ≤ 140737488355328)
    (h : ∀ v' w', w'.ownsRow a0.heap.size e size v' (n + 1) (xs ++ us) → Gr a0 w' → Moved v v' w w' → wpList P ops Q rest (a.put o.dst v') w') : wpList P ops Q (o :: rest) a (w.alloc (.cells us.toArray e)) := by
  subst hH
  exact append_moved hgd s x t ho e i z size bytes ht hi hz hsize hby hzs hsz v n xs hs hown us hul h1 hx hg h63 hbytes h
/-- One round of reading: what it comes to. -/
def PInv (w : World) (L : Nat) (s : ByteArray) (x u : Value) (w' : World) : Prop :=
  ∃ (t : ByteArray) (us : List GPlace) (a : GPlace), x = .string t ∧ t.size + us.length ≤ s.size ∧ Gr w w' ∧ OwnP w w' u us ∧ u.ownBlock ≠ some L ∧ L < w'.heap.size ∧
    (w'.cell? ⟨L, 0, none⟩ = some (.int .i64 a.1) ∧ w'.cell? ⟨L, 1, none⟩ = some (.int .i64 a.2) ∧ ∀ o, w'.frozen? ⟨L, o, none⟩ = false) ∧
    (0 ≤ a.1 ∧ a.1 ≤ 34359738368 * us.length ∧ 0 ≤ a.2 ∧ a.2 ≤ 34359738368 * (us.length + 1)) ∧ rdL (0, 0) s.data.toList = (rdL a t.data.toList).map (us ++ ·)

theorem rd_even {l t r : List UInt8} {us : List GPlace} {a1 a2 : Int} {n : Nat} (h : rdL (0, 0) l = (rdL (a1, a2) t).map (us ++ ·)) (hg : getF 5 t = some (n, r)) (he : n % 2 = 0) :
    rdL (0, 0) l = (rdL (a1, a2 + (n : Int) / 2) r).map ((us ++ [(a1, a2 + (n : Int) / 2)]) ++ ·) := by
  rw [h, rdL_even hg he, Option.map_map, show ((n / 2 : Nat) : Int) = (n : Int) / 2 by omega]
  refine Option.map_congr fun x _ => ?_
  simp
theorem rd_odd {l t r q : List UInt8} {us : List GPlace} {a1 a2 : Int} {n m : Nat} (h : rdL (0, 0) l = (rdL (a1, a2) t).map (us ++ ·)) (hg : getF 5 t = some (n, r)) (he : ¬ n % 2 = 0) (hg2 : getF 5 r = some (m, q)) :
    rdL (0, 0) l = (rdL (a1 + (n : Int) / 2, (m : Int)) q).map ((us ++ [(a1 + (n : Int) / 2, (m : Int))]) ++ ·) := by
  rw [h, rdL_odd hg he hg2, Option.map_map, show ((n / 2 : Nat) : Int) = (n : Int) / 2 by omega]
  refine Option.map_congr fun x _ => ?_
  simp
theorem rd_bad {l t : List UInt8} {us : List GPlace} {a : GPlace} (h : rdL (0, 0) l = (rdL a t).map (us ++ ·)) (hb : rdL a t = none) : readP l = none := by
  apply readP_none
  rw [h, hb]; rfl
set_option maxRecDepth 100000 in
set_option maxHeartbeats 3200000 in
theorem read_p (s : ByteArray) (hs : s.size ≤ 1000000) (w : World) : Calls Try.prog 8 #[.string s] w (PReadPost w s.data.toList) := by
  obtain ⟨i0, hi, hz0, hz1, hz2⟩ := info_parts info_place
  go_enter Try.func8, Try.ntmps8
  go_wp2_with fail
  have hgL := (Gr.refl w).alloc (.cells #[.int .i64 0, .int .i64 0] 39)
  have q0 : (w.alloc (.cells #[.int .i64 0, .int .i64 0] 39)).cell? ⟨w.heap.size, 0, none⟩ = some (.int .i64 0) := by rw [World.cell?_alloc_new]; rfl
  have q1 : (w.alloc (.cells #[.int .i64 0, .int .i64 0] 39)).cell? ⟨w.heap.size, 1, none⟩ = some (.int .i64 0) := by rw [World.cell?_alloc_new]; rfl
  have z0 : ∀ o, (w.alloc (.cells #[.int .i64 0, .int .i64 0] 39)).frozen? ⟨w.heap.size, o, none⟩ = false := fun o => by simp
  have hL1 : w.heap.size < (w.alloc (.cells #[.int .i64 0, .int .i64 0] 39)).heap.size := by simp
  generalize (w.alloc (.cells #[.int .i64 0, .int .i64 0] 39)) = W0 at *
  generalize hLL : w.heap.size = L at hL1 q0 q1 z0 ⊢
  have hL0 : w.heap.size ≤ L := Nat.le_of_eq hLL
  clear hLL
  have HQ := Lib.hid (And.intro q0 (And.intro q1 z0))
  clear q0 q1 z0
  go_loopw [6, 4] (fun x u w' => PInv w L s x u w') (fun x _ _ => lenOf x)
  case atStart => exact ⟨s, [], (0, 0), rfl, by simp, hgL, ⟨rfl, .inl ⟨rfl, rfl⟩⟩, by simp [Value.ownBlock], hL1, HQ.out, by simp, by simp⟩
  case round =>
    obtain ⟨t, us, ⟨a1, a2⟩, rfl, hsz, hg, ho, hul, hlL, ⟨q0, q1, z⟩, hbd, hrd⟩ := hrel
    have HO := Lib.hid ho
    have HR := Lib.hid hrd
    clear ho hrd
    simp only at q0 q1 hbd
    by_cases hte : t.data.toList = []
    · have hb : (!t.toList.isEmpty) = false := by rw [ByteArray.toList_eq, hte]; rfl
      have HT := Lib.hid hte
      clear hte
      rw [HT.out] at HR
      have hus : rdL (0, 0) s.data.toList = some us := by rw [HR.out, rdL_nil]; simp
      have HUS := Lib.hid hus
      clear hus
      obtain ⟨ao, bb, cc, rfl, hao, hpl⟩ := OwnP.places HO.out
      have HA := Lib.hid hao
      have HP := Lib.hid hpl
      clear hao hpl
      go_wp2_with fail
      refine (write_p us bb 0 cc ao HA.out (by omega) _ HP.out).mono ?_
      rintro e w1 ⟨rfl, hg1⟩
      cases hp : placesB us
      · have hrp : readP s.data.toList = none := by unfold readP; rw [HUS.out]; simp [hp]
        have HRP := Lib.hid hrp
        unfold wErr wS
        simp only [hp]
        clear hp hrp
        go_wp2_with fail
        refine bodyPost_ret (v := .tuple #[.slice none 0 0, .iface 43 (.int .i64 3)]) (by simp [results, Try.results8, go_sem]) rfl ?_
        unfold PReadPost
        rw [HRP.out]
        exact ⟨rfl, hg.trans hg1⟩
      · have hwl : (wS us) = writeP us := by unfold wS; rw [hp]; rfl
        have hwe : wErr us = .nilIface := by unfold wErr; rw [hp]; rfl
        rw [hwl, hwe]
        cases hw : writeP us == s.data.toList
        · have hrp : readP s.data.toList = none := by unfold readP; rw [HUS.out]; simp [hp, hw]
          have HRP := Lib.hid hrp
          clear hp hrp hwl hwe
          have hne : (writeP us == s.toList) = false := by rw [ByteArray.toList_eq]; exact hw
          clear hw
          go_wp2_with fail
          refine bodyPost_ret (v := .tuple #[.slice none 0 0, .iface 43 (.int .i64 3)]) (by simp [results, Try.results8, go_sem]) rfl ?_
          unfold PReadPost
          rw [HRP.out]
          exact ⟨rfl, hg.trans hg1⟩
        · have hrp : readP s.data.toList = some us := by unfold readP; rw [HUS.out]; simp [hp, hw]
          have HRP := Lib.hid hrp
          have hws : (⟨(writeP us).toArray⟩ : ByteArray) = s := by apply bytes_ext; simpa using hw
          rw [hws]
          clear hp hrp hwl hwe hws
          go_wp2_with fail
          refine bodyPost_ret (v := .tuple #[.slice ao us.length cc, .nilIface]) (by simp [results, Try.results8, go_sem]) rfl ?_
          unfold PReadPost
          rw [HRP.out]
          exact ⟨_, rfl, ownsRow_gr (OwnP.row HO.out) hg1, hg.trans hg1⟩
    · have hb : (!t.toList.isEmpty) = true := by rw [ByteArray.toList_eq]; simpa using hte
      have HT := Lib.hid hte
      clear hte
      cases hgt : getF 5 t.data.toList with
      | none =>
        have HG := Lib.hid hgt
        clear hgt
        go_wp2_with fail
        refine (get_p t (by omega) _).mono ?_
        rintro e w1 ⟨rfl, hg1⟩
        rw [getVal_none HG.out]
        go_wp2_with fail
        refine bodyPost_ret (v := .tuple #[.slice none 0 0, .iface 43 (.int .i64 3)]) (by simp [results, Try.results8, go_sem]) rfl ?_
        unfold PReadPost
        rw [rd_bad HR.out (rdL_none HT.out HG.out)]
        exact ⟨rfl, hg.trans hg1⟩
      | some nr =>
        obtain ⟨n, r⟩ := nr
        have HG := Lib.hid hgt
        have hnb := getF_le 5 _ _ _ hgt
        have hrl := getF_lt 5 _ _ _ hgt
        rw [show 128 ^ 5 = 34359738368 by decide] at hnb
        rw [← size_data] at hrl
        have hand := and_one n (by omega)
        obtain ⟨R, rfl⟩ : ∃ R : ByteArray, R.data.toList = r := ⟨⟨r.toArray⟩, rfl⟩
        rw [← size_data] at hrl
        clear hgt
        by_cases hodd : n % 2 = 0
        · have hodd' : ((n % 2 : Nat) : Int) = 0 := by omega
          rw [hodd'] at hand
          go_wp2_with fail
          refine (get_p t (by omega) _).mono ?_
          rintro e w1 ⟨rfl, hg1⟩
          rw [getVal_some HG.out]
          have q0' := hg1.keeps q0
          have q1' := hg1.keeps q1
          have z' := fun o => (hg1.frozen o hlL).trans (z o)
          have zz0 := z' 0
          have zz1 := z' 1
          have ho1 := ownsRow_setCell_at (ownsRow_gr (OwnP.row HO.out) hg1) (a := ⟨L, 1, none⟩) (u := .int .i64 (a2 + (n : Int) / 2)) hul
          have hgw := (hg.trans hg1).setCell (p := ⟨L, 1, none⟩) hL0 (.int .i64 (a2 + (n : Int) / 2))
          have tw0 : (w1.setCell ⟨L, 1, none⟩ (.int .i64 (a2 + (n : Int) / 2))).cell? ⟨L, 0, none⟩ = some (.int .i64 a1) := (World.cell?_setCell_other _ _ _ _ (by simp)).trans q0'
          have tw1 : (w1.setCell ⟨L, 1, none⟩ (.int .i64 (a2 + (n : Int) / 2))).cell? ⟨L, 1, none⟩ = some (.int .i64 (a2 + (n : Int) / 2)) := World.cell?_setCell_same _ _ _ q1'
          have hs1 := hg1.size
          go_wp2_with (at_builtin; refine append_moved' (a0 := w) rfl _ _ 22 rfl 39 i0 (.agg #[.int .i64 0, .int .i64 0]) 2 16 Try.underlying22 hi hz0 hz1 hz2 rfl (by decide) _ _ _ rfl ho1 [_, _] rfl (placeCells_one _ _) w1.heap.size (by simp) rfl hgw (by omega) (by omega) ?_; intro v4 w4 hown4 hg4 hmv4)
          have hmL := hmv4.2 L (by simp; omega) hul
          refine ⟨⟨R, us ++ [(a1, a2 + (n : Int) / 2)], (a1, a2 + (n : Int) / 2), rfl, by rw [List.length_append]; simp only [List.length_cons, List.length_nil]; omega, hg4, ownP_snoc (x := (a1, a2 + (n : Int) / 2)) hown4, hmL.1, by have := hmv4.1; simp at this; omega, ⟨hmv4.keeps hul tw0, hmv4.keeps hul tw1, fun o => (hmL.2 o).2.trans (by simpa using z' o)⟩, ?_, rd_even HR.out HG.out hodd⟩, ?_⟩
          · rw [List.length_append]
            simp only [List.length_cons, List.length_nil]
            omega
          · show R.size < t.size
            omega
        · have hodd' : ((n % 2 : Nat) : Int) = 1 := by omega
          rw [hodd'] at hand
          go_wp2_with fail
          refine (get_p t (by omega) _).mono ?_
          rintro e w1 ⟨rfl, hg1⟩
          rw [getVal_some HG.out]
          have q0' := hg1.keeps q0
          have q1' := hg1.keeps q1
          have z' := fun o => (hg1.frozen o hlL).trans (z o)
          have zz0 := z' 0
          have zz1 := z' 1
          have hsv := hg1.size
          have hgv := ((hg.trans hg1).setCell (p := ⟨L, 0, none⟩) hL0 (.int .i64 (a1 + (n : Int) / 2))).setCell (p := ⟨L, 1, none⟩) hL0 (.int .i64 0)
          have tw := two_set (u := .int .i64 (a1 + (n : Int) / 2)) (v := .int .i64 0) q0' q1'
          have hov := ownsRow_setCell_at (ownsRow_setCell_at (ownsRow_gr (OwnP.row HO.out) hg1) (a := ⟨L, 0, none⟩) (u := .int .i64 (a1 + (n : Int) / 2)) hul) (a := ⟨L, 1, none⟩) (u := .int .i64 0) hul
          have hzv : ∀ o, ((w1.setCell ⟨L, 0, none⟩ (.int .i64 (a1 + (n : Int) / 2))).setCell ⟨L, 1, none⟩ (.int .i64 0)).frozen? ⟨L, o, none⟩ = false := fun o => by simpa using z' o
          have hsz : ((w1.setCell ⟨L, 0, none⟩ (.int .i64 (a1 + (n : Int) / 2))).setCell ⟨L, 1, none⟩ (.int .i64 0)).heap.size = w1.heap.size := by simp
          go_wp2_with fail
          generalize ((w1.setCell ⟨L, 0, none⟩ (.int .i64 (a1 + (n : Int) / 2))).setCell ⟨L, 1, none⟩ (.int .i64 0)) = V at *
          refine (get_p R (by omega) _).mono ?_
          rintro e w2 ⟨rfl, hg2⟩
          cases hgt2 : getF 5 R.data.toList with
          | none =>
            have HG2 := Lib.hid hgt2
            clear hgt2
            rw [getVal_none HG2.out]
            have y0 := hg2.keeps tw.1
            have y1 := hg2.keeps tw.2
            have yz := (hg2.frozen 1 (by omega)).trans (hzv 1)
            go_wp2_with fail
            refine bodyPost_ret (v := .tuple #[.slice none 0 0, .iface 43 (.int .i64 3)]) (by simp [results, Try.results8, go_sem]) rfl ?_
            unfold PReadPost
            rw [rd_bad HR.out (rdL_odd_none HG.out hodd HG2.out)]
            exact ⟨rfl, (hgv.trans hg2).setCell (p := ⟨L, 1, none⟩) hL0 _⟩
          | some nr2 =>
            obtain ⟨m, r2⟩ := nr2
            have HG2 := Lib.hid hgt2
            have hnb2 := getF_le 5 _ _ _ hgt2
            have hrl2 := getF_lt 5 _ _ _ hgt2
            rw [show 128 ^ 5 = 34359738368 by decide] at hnb2
            rw [← size_data] at hrl2
            obtain ⟨R2, rfl⟩ : ∃ R : ByteArray, R.data.toList = r2 := ⟨⟨r2.toArray⟩, rfl⟩
            rw [← size_data] at hrl2
            clear hgt2
            rw [getVal_some HG2.out]
            have y0 := hg2.keeps tw.1
            have y1 := hg2.keeps tw.2
            have yz := (hg2.frozen 1 (by omega)).trans (hzv 1)
            have ho1 := ownsRow_setCell_at (ownsRow_gr hov hg2) (a := ⟨L, 1, none⟩) (u := .int .i64 (m : Int)) hul
            have hgw := (hgv.trans hg2).setCell (p := ⟨L, 1, none⟩) hL0 (.int .i64 (m : Int))
            have tw0 : (w2.setCell ⟨L, 1, none⟩ (.int .i64 (m : Int))).cell? ⟨L, 0, none⟩ = some (.int .i64 (a1 + (n : Int) / 2)) := (World.cell?_setCell_other _ _ _ _ (by simp)).trans y0
            have tw1 : (w2.setCell ⟨L, 1, none⟩ (.int .i64 (m : Int))).cell? ⟨L, 1, none⟩ = some (.int .i64 (m : Int)) := World.cell?_setCell_same _ _ _ y1
            have hs2 := hg2.size
            have hzz := fun o => (hg2.frozen o (by omega)).trans (hzv o)
            go_wp2_with (at_builtin; refine append_moved' (a0 := w) rfl _ _ 22 rfl 39 i0 (.agg #[.int .i64 0, .int .i64 0]) 2 16 Try.underlying22 hi hz0 hz1 hz2 rfl (by decide) _ _ _ rfl ho1 [_, _] rfl (placeCells_one _ _) w2.heap.size (by simp) rfl hgw (by omega) (by omega) ?_; intro v4 w4 hown4 hg4 hmv4)
            have hmL := hmv4.2 L (by simp; omega) hul
            refine ⟨⟨R2, us ++ [(a1 + (n : Int) / 2, (m : Int))], (a1 + (n : Int) / 2, (m : Int)), rfl, by rw [List.length_append]; simp only [List.length_cons, List.length_nil]; omega, hg4, ownP_snoc (x := (a1 + (n : Int) / 2, (m : Int))) hown4, hmL.1, by have := hmv4.1; simp at this; omega, ⟨hmv4.keeps hul tw0, hmv4.keeps hul tw1, fun o => (hmL.2 o).2.trans (by simpa using hzz o)⟩, ?_, rd_odd HR.out HG.out hodd HG2.out⟩, ?_⟩
            · rw [List.length_append]
              simp only [List.length_cons, List.length_nil]
              omega
            · show R2.size < t.size
              omega
end Go.Proofs.Ytkdplnbdhkckhaa
