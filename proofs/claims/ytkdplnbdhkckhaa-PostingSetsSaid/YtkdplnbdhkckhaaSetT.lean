/-
  The reference's Near.
-/
import Derived.Test.YtkdplnbdhkckhaaSetF
import Derived.Test.YtkdplnbdhkckhaaPostWX
namespace Go.Proofs.Ytkdplnbdhkckhaa
open Go Go.RowKit Go.Shelf Go.Lib Go.Sort

/-- 'append(out, x)', and what it leaves as it was. -/
theorem append_int' {a0 w : World} {ops : Array Oper} {rest : List Oper} {o : Oper} {a : Act} {Q : Exit → Act → World → Prop} (hgd : o.guard = none) (s x : Operand)
    (ho : o.op = .call { callee := .builtin .append, args := #[s, x], argTypes := #[34, 34] }) (v : Value) (zs : List Int) (n : Int) (hs : a.eval s = v) (hown : OwnN a0 w v zs) (B : Nat) (hB : w.heap.size = B) (hx : a.eval x = .slice (some ⟨B, 0, none⟩) 1 1) (hl : zs.length ≤ 1000000) (hg : Gr a0 w)
    (h : ∀ v' w', OwnN a0 w' v' (zs ++ [n]) → Gr a0 w' → Moved v v' w w' → wpList Try.prog ops Q rest (a.put o.dst v') w') : wpList Try.prog ops Q (o :: rest) a (w.alloc (.cells #[.int .i64 n] 3)) := by
  obtain ⟨i0, hinf, hz⟩ : ∃ i0, Try.prog.info? 3 = some i0 ∧ (i0.zero, i0.size, i0.bytes) = (some (.int .i64 0), 1, 8) := by
    have h := info_int
    cases h0 : Try.prog.info? 3 with
    | none => rw [h0] at h; cases h
    | some i0 => rw [h0] at h; exact ⟨i0, rfl, Option.some.inj h⟩
  simp only [Prod.mk.injEq] at hz
  obtain ⟨hz0, hz1, hz2⟩ := hz
  exact append_moved' (a0 := a0) hgd s x 34 ho 3 i0 (.int .i64 0) 1 8 Try.underlying34 hinf hz0 hz1 hz2 rfl (by decide) v zs.length (zs.map (Value.int .i64)) hs hown [.int .i64 n] rfl (by intro u hu; simp at hu; rw [hu]; rfl) B hB hx hg (by omega) (by omega) (fun v' w' h1 h2 h3 => h v' w' (ownN_snoc h1) h2 h3)
/-- Whether two places of a row stand near, as the reference counts. -/
def nearT (far : Int) (p q : GPlace) : Bool := p.1 == q.1 && decide (IntKind.i64.wrap (p.2 - q.2) ≤ far) && decide (IntKind.i64.wrap (-(IntKind.i64.wrap (p.2 - q.2))) ≤ far)
def nearOut1 (far : Int) (p : GPlace) (ys : List GPlace) : List Int := (ys.filter (nearT far p)).map fun _ => p.1
def nearOut (far : Int) (xs ys : List GPlace) : List Int := xs.flatMap fun p => nearOut1 far p ys
theorem nearOut1_len (far : Int) (p : GPlace) (ys : List GPlace) : (nearOut1 far p ys).length ≤ ys.length := by
  unfold nearOut1
  rw [List.length_map]
  exact List.length_filter_le _ _
theorem nearOut_len (far : Int) (ys : List GPlace) : ∀ xs : List GPlace, (nearOut far xs ys).length ≤ xs.length * ys.length
  | [] => by simp [nearOut]
  | p :: xs => by
    have ih := nearOut_len far ys xs
    have h1 := nearOut1_len far p ys
    unfold nearOut at *
    rw [List.flatMap_cons, List.length_append, List.length_cons, Nat.add_mul]
    omega
theorem nearOut_next (far : Int) (xs ys : List GPlace) (i : Nat) (h : i < xs.length) : nearOut far (xs.take (i + 1)) ys = nearOut far (xs.take i) ys ++ nearOut1 far xs[i] ys := by
  unfold nearOut
  rw [List.take_succ_eq_append_getElem h, List.flatMap_append]
  simp
theorem nearOut1_next (far : Int) (p : GPlace) (ys : List GPlace) (j : Nat) (h : j < ys.length) : nearOut1 far p (ys.take (j + 1)) = if nearT far p ys[j] then nearOut1 far p (ys.take j) ++ [p.1] else nearOut1 far p (ys.take j) := by
  unfold nearOut1
  rw [filter_next _ _ _ h]
  split
  · rw [List.map_append]
    rfl
  · rfl
set_option maxRecDepth 100000 in
set_option maxHeartbeats 1600000 in
theorem near_t (xs ys : List GPlace) (va vb : Value) (far : Int) (w : World) (hx : IsP w va xs) (hy : IsP w vb ys) (hl : xs.length ≤ 1000) (hly : ys.length ≤ 1000) :
    Calls Try.prog 21 #[va, vb, .int .i64 far] w fun e w' => ∃ v', e = .returned v' ∧ OwnI w w' v' (setOf lessI (nearOut far xs ys)) ∧ Gr w w' := by
  have HX := Lib.hid hx
  have HY := Lib.hid hy
  obtain ⟨ao, ca, rfl⟩ := hx.form
  obtain ⟨bo, cb, rfl⟩ := hy.form
  clear hx hy
  go_enter Try.func21, Try.ntmps21
  go_wp2_with fail
  go_loopw [7, 15] (fun kv iv w' => ∃ i : Nat, i ≤ xs.length ∧ iv = .int .i64 i ∧ OwnN w w' kv (nearOut far (xs.take i) ys) ∧ Gr w w') (fun _ iv _ => xs.length - (intOf iv).toNat)
  case atStart => exact ⟨0, Nat.zero_le _, rfl, World.ownsRow_nil _ _ _ _, Gr.refl _⟩
  case round =>
    obtain ⟨i, hi, rfl, ho, hg⟩ := hrel
    have HO := Lib.hid ho
    have HG := Lib.hid hg
    by_cases hlt : i < xs.length
    · obtain ⟨b, off, rfl, hb, hp⟩ : ∃ b off, ao = some ⟨b, off, none⟩ ∧ b < w.heap.size ∧ PlacesAt w b off xs := by
        rcases HX.out with ⟨_, e2⟩ | ⟨b, off, c, e, hb, hp⟩
        · rw [e2] at hlt
          exact absurd hlt (by simp)
        · cases e
          exact ⟨b, off, rfl, hb, hp⟩
      have hil : (i : Int) < (xs.length : Int) := by omega
      have c1 := hg.keeps (hp i hlt).1
      have c2 := hg.keeps (hp i hlt).2
      have hnx := nearOut_next far xs ys i hlt
      have hln := nearOut_len far ys (xs.take i)
      have hln2 : (nearOut far (xs.take i) ys).length ≤ 999 * 1000 := Nat.le_trans hln (Nat.mul_le_mul (by rw [List.length_take]; omega) hly)
      generalize hx : xs[i] = x at *
      obtain ⟨x1, x2⟩ := x
      simp only at c1 c2
      have HN := Lib.hid hnx
      have hg1 := hg.alloc (.cells #[.int .i64 x1, .int .i64 x2] 39)
      have hgb : Gr wr (wr.alloc (.cells #[.int .i64 x1, .int .i64 x2] 39)) := (Gr.refl wr).alloc _
      have k1 : (wr.alloc (.cells #[.int .i64 x1, .int .i64 x2] 39)).cell? ⟨wr.heap.size, 0, none⟩ = some (.int .i64 x1) := by
        rw [World.cell?_alloc_new]
        rfl
      have k2 : (wr.alloc (.cells #[.int .i64 x1, .int .i64 x2] 39)).cell? ⟨wr.heap.size, 1, none⟩ = some (.int .i64 x2) := by
        rw [World.cell?_alloc_new]
        rfl
      have hnk : u7.ownBlock ≠ some wr.heap.size := fun e => by
        have := ownBlock_lt ho _ e
        omega
      have ho1 : OwnN w (wr.alloc (.cells #[.int .i64 x1, .int .i64 x2] 39)) u7 (nearOut far (xs.take i) ys) := World.ownsRow.alloc ho _
      have hks : wr.heap.size < (wr.alloc (.cells #[.int .i64 x1, .int .i64 x2] 39)).heap.size := by simp
      have HI : Hid (wr.heap.size < (wr.alloc (.cells #[.int .i64 x1, .int .i64 x2] 39)).heap.size ∧ u7.ownBlock ≠ some wr.heap.size ∧ OwnN w (wr.alloc (.cells #[.int .i64 x1, .int .i64 x2] 39)) u7 (nearOut far (xs.take i) ys) ∧ Gr w (wr.alloc (.cells #[.int .i64 x1, .int .i64 x2] 39)) ∧ (wr.alloc (.cells #[.int .i64 x1, .int .i64 x2] 39)).cell? ⟨wr.heap.size, 0, none⟩ = some (.int .i64 x1) ∧ (wr.alloc (.cells #[.int .i64 x1, .int .i64 x2] 39)).cell? ⟨wr.heap.size, 1, none⟩ = some (.int .i64 x2)) := Lib.hid ⟨hks, hnk, ho1, hg1, k1, k2⟩
      clear ho hg hnx hg1 hgb k1 k2 hp hx hnk ho1 hks
      go_wp2_with fail
      have hA : ∃ A, Hid (A = nearOut far (xs.take i) ys) := ⟨_, Lib.hid rfl⟩
      obtain ⟨A, HA⟩ := hA
      rw [← HA.out] at HI HN hln2
      obtain ⟨kp, HKP⟩ : ∃ kp, Hid (kp = wr.heap.size) := ⟨_, Lib.hid rfl⟩
      rw [← HKP.out] at HI ⊢
      obtain ⟨w1, HW1⟩ : ∃ w1, Hid (w1 = wr.alloc (.cells #[.int .i64 x1, .int .i64 x2] 39)) := ⟨_, Lib.hid rfl⟩
      rw [← HW1.out] at HI ⊢
      go_loopw [7, 21] (fun kv jv w' => ∃ j : Nat, j ≤ ys.length ∧ jv = .int .i64 j ∧ OwnN w w' kv (A ++ nearOut1 far (x1, x2) (ys.take j)) ∧ Gr w w' ∧ kp < w'.heap.size ∧ kv.ownBlock ≠ some kp ∧ w'.cell? ⟨kp, 0, none⟩ = some (.int .i64 x1) ∧ w'.cell? ⟨kp, 1, none⟩ = some (.int .i64 x2)) (fun _ jv _ => ys.length - (intOf jv).toNat)
      case atStart =>
        obtain ⟨h1, h2, h3, h4, h5, h6⟩ := HI.out
        exact ⟨0, Nat.zero_le _, rfl, by simpa [nearOut1] using h3, h4, h1, h2, h5, h6⟩
      case round =>
        obtain ⟨j, hj, rfl, ho, hg, hk, hnk, k1, k2⟩ := hrel
        have HO2 := Lib.hid ho
        have HG2 := Lib.hid hg
        have HNK := Lib.hid hnk
        clear hnk
        by_cases hltj : j < ys.length
        · obtain ⟨b2, off2, rfl, hb2, hp2⟩ : ∃ b2 off2, bo = some ⟨b2, off2, none⟩ ∧ b2 < w.heap.size ∧ PlacesAt w b2 off2 ys := by
            rcases HY.out with ⟨_, e2⟩ | ⟨b, off, c, e, hb, hp⟩
            · rw [e2] at hltj
              exact absurd hltj (by simp)
            · cases e
              exact ⟨b, off, rfl, hb, hp⟩
          have hjl : (j : Int) < (ys.length : Int) := by omega
          have d1 := hg.keeps (hp2 j hltj).1
          have d2 := hg.keeps (hp2 j hltj).2
          have hnx2 := nearOut1_next far (x1, x2) ys j hltj
          have hln3 := nearOut1_len far (x1, x2) (ys.take j)
          have hll : (A ++ nearOut1 far (x1, x2) (ys.take j)).length ≤ 1000000 := by
            rw [List.length_append]
            rw [List.length_take] at hln3
            omega
          generalize hy : ys[j] = y at *
          obtain ⟨y1, y2⟩ := y
          simp only at d1 d2
          have HN2 := Lib.hid hnx2
          clear hnx2 hln3 hp2 hy
          have k1' := fun o => (Gr.alloc (Gr.refl wr) o).keeps k1
          have k2' := fun o => (Gr.alloc (Gr.refl wr) o).keeps k2
          have HO3 : Hid (OwnN w (wr.alloc (.cells #[.int .i64 y1, .int .i64 y2] 39)) u7 (A ++ nearOut1 far (x1, x2) (ys.take j))) := Lib.hid (World.ownsRow.alloc ho _)
          have HG3 := Lib.hid (hg.alloc (.cells #[.int .i64 y1, .int .i64 y2] 39))
          have hkb : kp < (wr.alloc (.cells #[.int .i64 y1, .int .i64 y2] 39)).heap.size := by
            simp
            omega
          have HKB := Lib.hid hkb
          clear ho hg hkb
          have hnt : nearT far (x1, x2) (y1, y2) = (x1 == y1 && decide (IntKind.i64.wrap (x2 - y2) ≤ far) && decide (IntKind.i64.wrap (-(IntKind.i64.wrap (x2 - y2))) ≤ far)) := rfl
          obtain ⟨dd, hdd⟩ : ∃ dd, IntKind.i64.wrap (x2 - y2) = dd := ⟨_, rfl⟩
          rw [hdd] at hnt
          obtain ⟨ee, hee⟩ : ∃ ee, IntKind.i64.wrap (-dd) = ee := ⟨_, rfl⟩
          rw [hee] at hnt
          by_cases hnear : x1 = y1 ∧ dd ≤ far ∧ ee ≤ far
          · have hn1 : nearT far (x1, x2) (y1, y2) = true := by
              rw [hnt]
              simp [hnear.1, hnear.2.1, hnear.2.2]
            rw [hn1] at HN2
            obtain ⟨e1, e2, e3⟩ := hnear
            subst e1
            clear hnt hn1
            go_wp2_with (at_builtin; refine append_int' (a0 := w) rfl _ _ rfl u7 _ x1 rfl HO3.out _ (by simp) rfl hll HG3.out ?_; intro v4 w4 ho4 hg4 hm4)
            exact ⟨⟨j + 1, by omega, by go_num, by rw [HN2.out, if_pos rfl, ← List.append_assoc]; exact ho4, hg4, by have := hm4.1; have := HKB.out; omega, (hm4.2 kp HKB.out HNK.out).1, hm4.keeps HNK.out (k1' _), hm4.keeps HNK.out (k2' _)⟩, by simp [intOf]; omega⟩
          · have hn1 : nearT far (x1, x2) (y1, y2) = false := by
              rw [hnt]
              rw [Bool.eq_false_iff]
              intro h
              simp only [Bool.and_eq_true, beq_iff_eq, decide_eq_true_eq] at h
              exact hnear ⟨h.1.1, h.1.2, h.2⟩
            rw [hn1] at HN2
            clear hnt hn1
            go_wp2_with fail
            all_goals exact ⟨⟨j + 1, by omega, by go_num, by rw [HN2.out, if_neg (by simp)]; exact HO3.out, HG3.out, HKB.out, HNK.out, k1' _, k2' _⟩, by simp [intOf]; omega⟩
        · have hjj : j = ys.length := by omega
          subst hjj
          rw [List.take_length] at HO2
          go_wp2_with fail
          go_roundw
          case measure =>
            simp [intOf]
            omega
          case rel =>
            exact ⟨i + 1, by omega, by go_num, by rw [HN.out]; exact HO2.out, HG2.out⟩
    · have hii : i = xs.length := by omega
      subst hii
      rw [List.take_length] at HO
      obtain ⟨L, HL⟩ : ∃ L, Hid (L = nearOut far xs ys) := ⟨_, Lib.hid rfl⟩
      have hoi : OwnI w wr u7 L := by
        rw [HL.out]
        exact HO.out.own
      have hln : L.length ≤ 1000000 := by
        rw [HL.out]
        exact Nat.le_trans (nearOut_len far ys xs) (Nat.mul_le_mul hl hly)
      have HOI := Lib.hid hoi
      obtain ⟨uo, uc, rfl⟩ := hoi.form
      clear ho hg hoi HO
      go_wp2_with fail
      refine (rising_t w wr _ L HOI.out HG.out hln).mono ?_
      rintro e w2 ⟨v2, rfl, ho2, hg2⟩
      rw [HL.out] at ho2
      have HO2 := Lib.hid ho2
      clear ho2
      go_wp2_with fail
      go_ret
      exact ⟨_, rfl, HO2.out, hg2⟩
end Go.Proofs.Ytkdplnbdhkckhaa
