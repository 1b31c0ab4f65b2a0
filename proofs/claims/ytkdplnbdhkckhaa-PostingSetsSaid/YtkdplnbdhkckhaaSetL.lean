/-
  The reference's Rows and Near; posting.Near.
-/
import Derived.Test.YtkdplnbdhkckhaaSetJ
import Derived.Test.YtkdplnbdhkckhaaSetW
namespace Go.Proofs.Ytkdplnbdhkckhaa
open Go Go.RowKit Go.Shelf Go.Lib Go.Sort

set_option maxRecDepth 100000 in
set_option maxHeartbeats 1600000 in
theorem rows_t (xs : List GPlace) (v : Value) (w : World) (hx : IsP w v xs) (hl : xs.length ≤ 1000000) :
    Calls Try.prog 19 #[v] w fun e w' => ∃ v', e = .returned v' ∧ OwnI w w' v' (setOf lessI (xs.map (·.1))) ∧ Gr w w' := by
  have HX := Lib.hid hx
  obtain ⟨ao, ca, rfl⟩ := hx.form
  clear hx
  go_enter Try.func19, Try.ntmps19
  go_wp2_with fail
  go_loopw [3, 8] (fun kv iv w' => ∃ i : Nat, i ≤ xs.length ∧ iv = .int .i64 i ∧ OwnN w w' kv ((xs.take i).map (·.1)) ∧ Gr w w') (fun _ iv _ => xs.length - (intOf iv).toNat)
  case atStart => exact ⟨0, Nat.zero_le _, rfl, World.ownsRow_nil _ _ _ _, Gr.refl _⟩
  case round =>
    obtain ⟨i, hi, rfl, ho, hg⟩ := hrel
    have HO := Lib.hid ho
    have HG := Lib.hid hg
    by_cases hlt : i < xs.length
    · obtain ⟨b, off, rfl, hb, hp⟩ : ∃ b off, ao = some ⟨b, off, none⟩ ∧ b < w.heap.size ∧ PlacesAt w b off xs := by
        rcases HX.out with ⟨_, e2⟩ | ⟨b, off, c, e, hb, hp⟩
        · rw [e2] at hlt
          exact absurd hlt (by simp)
        · cases e
          exact ⟨b, off, rfl, hb, hp⟩
      have hil : (i : Int) < (xs.length : Int) := by omega
      have c1 := hg.keeps (hp i hlt).1
      have c2 := hg.keeps (hp i hlt).2
      have hnx : (xs.take (i + 1)).map (·.1) = (xs.take i).map (·.1) ++ [xs[i].1] := by
        rw [List.take_succ_eq_append_getElem hlt, List.map_append]
        rfl
      generalize hx : xs[i] = x at *
      obtain ⟨x1, x2⟩ := x
      simp only at c1 c2 hnx
      have HN := Lib.hid hnx
      have hll : ((xs.take i).map (·.1)).length ≤ 1000000 := by
        rw [List.length_map, List.length_take]
        omega
      have HG1 := Lib.hid (hg.alloc (.cells #[.int .i64 x1, .int .i64 x2] 39))
      have ho1 : OwnN w (wr.alloc (.cells #[.int .i64 x1, .int .i64 x2] 39)) u3 ((xs.take i).map (·.1)) := World.ownsRow.alloc ho _
      have HO1 := Lib.hid ho1
      clear ho1
      clear ho hg hnx
      go_wp2_with (at_builtin; refine append_int (a0 := w) rfl _ _ rfl u3 _ x1 rfl HO1.out _ (by simp) rfl hll HG1.out ?_; intro v3 w3 ho3 hg3)
      go_roundw
      case measure =>
        simp [intOf]
        omega
      case rel =>
        have ho4 : OwnN w w3 v3 ((xs.take (i + 1)).map (·.1)) := by
          rw [HN.out]
          exact ho3
        exact ⟨i + 1, by omega, by go_num, ho4, hg3⟩
    · have hii : i = xs.length := by omega
      subst hii
      rw [List.take_length] at HO
      obtain ⟨L, HL⟩ : ∃ L, Hid (L = xs.map (·.1)) := ⟨_, Lib.hid rfl⟩
      have hoi : OwnI w wr u3 L := by
        rw [HL.out]
        exact HO.out.own
      have hln : L.length ≤ 1000000 := by
        rw [HL.out, List.length_map]
        exact hl
      have HOI := Lib.hid hoi
      obtain ⟨uo, uc, rfl⟩ := hoi.form
      clear ho hg hoi HO
      go_wp2_with fail
      refine (rising_t w wr _ L HOI.out HG.out hln).mono ?_
      rintro e w2 ⟨v2, rfl, ho2, hg2⟩
      rw [HL.out] at ho2
      have HO2 := Lib.hid ho2
      clear ho2
      go_wp2_with fail
      go_ret
      exact ⟨_, rfl, HO2.out, hg2⟩
end Go.Proofs.Ytkdplnbdhkckhaa
