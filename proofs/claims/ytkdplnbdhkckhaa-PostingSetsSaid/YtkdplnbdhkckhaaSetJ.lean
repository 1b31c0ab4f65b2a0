/-
  posting.Rows; the reference's Rows and rising.
-/
import Derived.Test.YtkdplnbdhkckhaaSetI
namespace Go.Proofs.Ytkdplnbdhkckhaa
open Go Go.RowKit Go.Shelf Go.Lib Go.Sort

theorem info_int : (Try.prog.info? 3).map (fun i => (i.zero, i.size, i.bytes)) = some (some (.int .i64 0), 1, 8) := by kernel_rfl
theorem ownN_snoc {a0 w : World} {v : Value} {zs : List Int} {x : Int} (h : w.ownsRow a0.heap.size 3 1 v (zs.length + 1) (zs.map (Value.int .i64) ++ [.int .i64 x])) : OwnN a0 w v (zs ++ [x]) := by
  unfold OwnN
  rw [List.length_append, List.map_append]
  exact h
/-- 'append(out, x)'. -/
theorem append_int {a0 w : World} {ops : Array Oper} {rest : List Oper} {o : Oper} {a : Act} {Q : Exit → Act → World → Prop} (hgd : o.guard = none) (s x : Operand)
    (ho : o.op = .call { callee := .builtin .append, args := #[s, x], argTypes := #[34, 34] }) (v : Value) (zs : List Int) (n : Int) (hs : a.eval s = v) (hown : OwnN a0 w v zs) (B : Nat) (hB : B = w.heap.size) (hx : a.eval x = .slice (some ⟨B, 0, none⟩) 1 1) (hl : zs.length ≤ 1000000) (hg : Gr a0 w)
    (h : ∀ v' w', OwnN a0 w' v' (zs ++ [n]) → Gr a0 w' → wpList Try.prog ops Q rest (a.put o.dst v') w') : wpList Try.prog ops Q (o :: rest) a (w.alloc (.cells #[.int .i64 n] 3)) := by
  obtain ⟨i0, hinf, hz⟩ : ∃ i0, Try.prog.info? 3 = some i0 ∧ (i0.zero, i0.size, i0.bytes) = (some (.int .i64 0), 1, 8) := by
    have h := info_int
    cases h0 : Try.prog.info? 3 with
    | none => rw [h0] at h; cases h
    | some i0 => rw [h0] at h; exact ⟨i0, rfl, Option.some.inj h⟩
  subst hB
  simp only [Prod.mk.injEq] at hz
  obtain ⟨hz0, hz1, hz2⟩ := hz
  exact append_one (a0 := a0) hgd s x 34 ho 3 i0 (.int .i64 0) 1 8 Try.underlying34 hinf hz0 hz1 hz2 rfl (by decide) v zs.length (zs.map (Value.int .i64)) hs hown [.int .i64 n] rfl (by intro u hu; simp at hu; rw [hu]; rfl) hx hg (by omega) (by omega) (fun v' w' h1 h2 => h v' w' (ownN_snoc h1) h2)
set_option maxRecDepth 100000 in
set_option maxHeartbeats 1600000 in
theorem rows_p (xs : List GPlace) (v : Value) (w : World) (hx : IsP w v xs) (hl : xs.length ≤ 1000000) :
    Calls Try.prog 14 #[v] w fun e w' => ∃ v', e = .returned v' ∧ OwnI w w' v' (setOf lessI (xs.map (·.1))) ∧ Gr w w' := by
  have HX := Lib.hid hx
  obtain ⟨ao, ca, rfl⟩ := hx.form
  clear hx
  go_enter Try.func14, Try.ntmps14
  go_wp2_with fail
  go_loopw [3, 8] (fun kv iv w' => ∃ i : Nat, i ≤ xs.length ∧ iv = .int .i64 i ∧ OwnN w w' kv ((xs.take i).map (·.1)) ∧ Gr w w') (fun _ iv _ => xs.length - (intOf iv).toNat)
  case atStart => exact ⟨0, Nat.zero_le _, rfl, World.ownsRow_nil _ _ _ _, Gr.refl _⟩
  case round =>
    obtain ⟨i, hi, rfl, ho, hg⟩ := hrel
    have HO := Lib.hid ho
    have HG := Lib.hid hg
    by_cases hlt : i < xs.length
    · obtain ⟨b, off, rfl, hb, hp⟩ : ∃ b off, ao = some ⟨b, off, none⟩ ∧ b < w.heap.size ∧ PlacesAt w b off xs := by
        rcases HX.out with ⟨_, e2⟩ | ⟨b, off, c, e, hb, hp⟩
        · rw [e2] at hlt
          exact absurd hlt (by simp)
        · cases e
          exact ⟨b, off, rfl, hb, hp⟩
      have hil : (i : Int) < (xs.length : Int) := by omega
      have c1 := hg.keeps (hp i hlt).1
      have c2 := hg.keeps (hp i hlt).2
      have hnx : (xs.take (i + 1)).map (·.1) = (xs.take i).map (·.1) ++ [xs[i].1] := by
        rw [List.take_succ_eq_append_getElem hlt, List.map_append]
        rfl
      generalize hx : xs[i] = x at *
      obtain ⟨x1, x2⟩ := x
      simp only at c1 c2 hnx
      have HN := Lib.hid hnx
      have hll : ((xs.take i).map (·.1)).length ≤ 1000000 := by
        rw [List.length_map, List.length_take]
        omega
      have HG1 := Lib.hid (hg.alloc (.cells #[.int .i64 x1, .int .i64 x2] 39))
      have ho1 : OwnN w (wr.alloc (.cells #[.int .i64 x1, .int .i64 x2] 39)) u3 ((xs.take i).map (·.1)) := World.ownsRow.alloc ho _
      have HO1 := Lib.hid ho1
      clear ho1
      clear ho hg hnx
      go_wp2_with (at_builtin; refine append_int (a0 := w) rfl _ _ rfl u3 _ x1 rfl HO1.out _ (by simp) rfl hll HG1.out ?_; intro v3 w3 ho3 hg3)
      go_roundw
      case measure =>
        simp [intOf]
        omega
      case rel =>
        have ho4 : OwnN w w3 v3 ((xs.take (i + 1)).map (·.1)) := by
          rw [HN.out]
          exact ho3
        exact ⟨i + 1, by omega, by go_num, ho4, hg3⟩
    · have hii : i = xs.length := by omega
      subst hii
      rw [List.take_length] at HO
      obtain ⟨L, HL⟩ : ∃ L, Hid (L = xs.map (·.1)) := ⟨_, Lib.hid rfl⟩
      have hoi : OwnI w wr u3 L := by
        rw [HL.out]
        exact HO.out.own
      have hln : L.length ≤ 1000000 := by
        rw [HL.out, List.length_map]
        exact hl
      have HOI := Lib.hid hoi
      obtain ⟨uo, uc, rfl⟩ := hoi.form
      clear ho hg hoi HO
      go_wp2_with fail
      refine (sortS_own w wr _ L HOI.out HG.out hln).mono ?_
      rintro e w1 ⟨rfl, ys, hp, hw, ho1, hg1⟩
      have HO1 := Lib.hid ho1
      have HP := Lib.hid hp
      have HW := Lib.hid hw
      clear ho1 hp hw
      go_wp2_with fail
      refine (compactI_own w w1 _ ys HO1.out hg1 (by rw [HP.out.length_eq]; exact hln)).mono ?_
      rintro e w2 ⟨v2, rfl, ho2, hg2⟩
      have hs : squeeze ys = setOf lessI (xs.map (·.1)) := squeeze_set parts_int HW.out (fun x => by rw [← HL.out]; exact HP.out.mem_iff)
      rw [hs] at ho2
      have HO2 := Lib.hid ho2
      have HS := Lib.hid hs
      clear ho2 hs
      go_wp2_with fail
      go_ret
      exact ⟨_, rfl, HO2.out, hg2⟩
set_option maxRecDepth 100000 in
set_option maxHeartbeats 1600000 in
theorem rising_t (a0 w : World) (v : Value) (zs : List Int) (h : OwnI a0 w v zs) (hg : Gr a0 w) (hl : zs.length ≤ 1000000) :
    Calls Try.prog 40 #[v] w fun e w' => ∃ v', e = .returned v' ∧ OwnI a0 w' v' (setOf lessI zs) ∧ Gr a0 w' := by
  have H := Lib.hid h
  obtain ⟨ao, ca, rfl⟩ := h.form
  clear h
  go_enter Try.func40, Try.ntmps40
  go_wp2_with fail
  refine (sortI_own a0 w _ _ H.out hg hl).mono ?_
  rintro e w1 ⟨rfl, ys, hp, hw, ho, hg1⟩
  have hlen := hp.length_eq
  generalize hN : zs.length = N at *
  subst hlen
  have HP := Lib.hid hp
  have HW := Lib.hid hw
  have HO := Lib.hid ho
  clear hp hw ho H
  go_wp2_with fail
  go_loopw [3, 10] (fun kv iv w' => ∃ i : Nat, i ≤ ys.length ∧ iv = .int .i64 i ∧ OwnN w1 w' kv (squeeze (ys.take i)) ∧ Gr w1 w') (fun _ iv _ => ys.length - (intOf iv).toNat)
  case atStart => exact ⟨0, Nat.zero_le _, rfl, World.ownsRow_nil _ _ _ _, Gr.refl _⟩
  case round =>
    obtain ⟨i, hi, rfl, ho, hg2⟩ := hrel
    have HO2 := Lib.hid ho
    have HG2 := Lib.hid hg2
    by_cases hlt : i < ys.length
    · obtain ⟨b, rfl, hb, hp⟩ : ∃ b, ao = some ⟨b, 0, none⟩ ∧ b < w1.heap.size ∧ Holds (Value.int .i64) w1 b 0 ys.toArray := by
        rcases HO.out with ⟨_, e2⟩ | ⟨b, c, e, _, _, hb, hp⟩
        · rw [e2] at hlt
          exact absurd hlt (by simp)
        · cases e
          exact ⟨b, rfl, hb, hp⟩
      have hil : (i : Int) < (ys.length : Int) := by omega
      have hcell : ∀ j (hj : j < ys.length), wr.cell? ⟨b, j, none⟩ = some (.int .i64 ys[j]) := fun j hj => by
        have := hg2.keeps (hp j (by simpa using hj)).1
        rw [Nat.zero_add] at this
        simpa [hj] using this
      have c1 := hcell i hlt
      have hll : (squeeze (ys.take i)).length ≤ 1000000 := by
        have := squeeze_len (ys.take i)
        rw [List.length_take] at this
        omega
      rcases Nat.eq_zero_or_pos i with rfl | hpos
      · have hnx : squeeze (ys.take (0 + 1)) = squeeze (ys.take 0) ++ [ys[0]] := by
          rw [List.take_succ_eq_append_getElem hlt]
          rfl
        generalize hx : ys[0] = x at *
        have HN := Lib.hid hnx
        clear ho hg2 hnx hcell hp
        go_wp2_with (at_builtin; refine append_int (a0 := w1) rfl _ _ rfl u3 _ x rfl HO2.out _ (by simp) rfl hll HG2.out ?_; intro v3 w3 ho3 hg3)
        exact ⟨⟨1, by omega, by go_num, by rw [show (1 : Nat) = 0 + 1 from rfl, HN.out]; exact ho3, hg3⟩, by simp [intOf]; omega⟩
      · obtain ⟨m, rfl⟩ : ∃ m, i = m + 1 := ⟨i - 1, by omega⟩
        have c0 := hcell m (by omega)
        have hnx := squeeze_next ys (m + 1) (by omega) hlt
        simp only [Nat.add_sub_cancel] at hnx
        have hm0 : (m : Int) < (ys.length : Int) := by omega
        generalize hx : ys[m + 1] = x at *
        generalize hy : ys[m]'(by omega) = y at *
        by_cases he : x = y
        · have hn2 := hnx.trans (if_pos he)
          subst he
          have HN := Lib.hid hn2
          clear ho hg2 hnx hn2 hcell hp hx hy
          go_wp2_with fail
          exact ⟨⟨m + 2, by omega, by go_num, by rw [show m + 2 = m + 1 + 1 from rfl, HN.out]; exact HO2.out, HG2.out⟩, by simp [intOf]; omega⟩
        · have hn2 := hnx.trans (if_neg he)
          have HN := Lib.hid hn2
          have he' : ¬ y = x := fun e => he e.symm
          clear ho hg2 hnx hn2 hcell hp hx hy
          go_wp2_with (at_builtin; refine append_int (a0 := w1) rfl _ _ rfl u3 _ x rfl HO2.out _ (by simp) rfl hll HG2.out ?_; intro v3 w3 ho3 hg3)
          exact ⟨⟨m + 2, by omega, by go_num, by rw [show m + 2 = m + 1 + 1 from rfl, HN.out]; exact ho3, hg3⟩, by simp [intOf]; omega⟩
    · have hii : i = ys.length := by omega
      subst hii
      rw [List.take_length] at HO2
      have hs : squeeze ys = setOf lessI zs := squeeze_set parts_int HW.out (fun x => HP.out.mem_iff)
      rw [hs] at HO2
      have HS := Lib.hid hs
      have HO3 := Lib.hid (HO2.out.own.back hg1)
      have HG3 := Lib.hid (hg1.trans hg2)
      obtain ⟨uo, uc, rfl⟩ := HO3.out.form
      clear ho hg2 hs
      obtain ⟨n3, hn3⟩ : ∃ n, n = (setOf lessI zs).length := ⟨_, rfl⟩
      have HN3 := Lib.hid hn3
      rw [← hn3]
      clear hn3
      go_wp2_with fail
      go_ret
      refine ⟨_, rfl, ?_, HG3.out⟩
      have := HO3.out
      rw [← HN3.out] at this
      exact this
end Go.Proofs.Ytkdplnbdhkckhaa
