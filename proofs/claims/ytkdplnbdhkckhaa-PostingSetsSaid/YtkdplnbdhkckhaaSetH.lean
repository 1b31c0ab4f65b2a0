/-
  slices.Concat of two slices of places.
-/
import Derived.Test.YtkdplnbdhkckhaaSetG
namespace Go.Proofs.Ytkdplnbdhkckhaa
open Go Go.RowKit Go.Shelf Go.Lib Go.Sort

set_option maxRecDepth 100000 in
set_option maxHeartbeats 1600000 in
theorem concat_p (xs ys : List GPlace) (va vb : Value) (B c : Nat) (w : World) (hx : IsP w va xs) (hy : IsP w vb ys) (hl : xs.length + ys.length ≤ 1000000) (h0 : w.cell? ⟨B, 0, none⟩ = some va) (h1 : w.cell? ⟨B, 1, none⟩ = some vb) :
    Calls Try.prog 25 #[.slice (some ⟨B, 0, none⟩) 2 c] w fun e w' => ∃ v, e = .returned v ∧ OwnP w w' v (xs ++ ys) ∧ Gr w w' := by
  have HX := Lib.hid hx
  have HY := Lib.hid hy
  obtain ⟨ao, ca, rfl⟩ : ∃ ao ca, va = .slice ao xs.length ca := by
    rcases hx with ⟨rfl, rfl⟩ | ⟨b, off, c, rfl, _⟩
    · exact ⟨none, 0, rfl⟩
    · exact ⟨_, c, rfl⟩
  obtain ⟨bo, cb, rfl⟩ : ∃ bo cb, vb = .slice bo ys.length cb := by
    rcases hy with ⟨rfl, rfl⟩ | ⟨b, off, c, rfl, _⟩
    · exact ⟨none, 0, rfl⟩
    · exact ⟨_, c, rfl⟩
  clear hx hy
  go_enter Try.func25, Try.ntmps25
  go_wp2_with fail
  go_loop [3, 11] (fun kv iv => (iv = .int .i64 0 ∧ kv = .int .i64 0) ∨ (iv = .int .i64 1 ∧ kv = .int .i64 xs.length) ∨ (iv = .int .i64 2 ∧ kv = .int .i64 ((xs.length : Int) + ys.length))) (fun _ iv => 2 - (intOf iv).toNat)
  case atStart => exact .inl ⟨rfl, rfl⟩
  case round =>
    rcases hrel with ⟨rfl, rfl⟩ | ⟨rfl, rfl⟩ | ⟨rfl, rfl⟩
    · have g1 : ¬ (xs.length : Int) < 0 := by omega
      go_wp2_with fail
      exact ⟨.inr (.inl ⟨rfl, by go_num⟩), by simp [intOf]⟩
    · have g1 : ¬ (xs.length : Int) + ys.length < 0 := by omega
      go_wp2_with fail
      exact ⟨.inr (.inr ⟨rfl, by go_num⟩), by simp [intOf]⟩
    · have hgr := grow_p (xs.length + ys.length) hl w
      rw [Int.natCast_add] at hgr
      go_wp2_with fail
      refine hgr.mono ?_
      rintro e w1 ⟨v, rfl, hown, hg⟩
      have HO := Lib.hid hown
      have c0 := hg.keeps h0
      have c1 := hg.keeps h1
      have hsz := hg.size
      have HG := Lib.hid hg
      clear hown hg
      go_wp2_with fail
      go_loopw [6, 27] (fun kv iv w' => ∃ (i : Nat) (us : List GPlace), iv = .int .i64 i ∧ OwnP w w' kv us ∧ Gr w w' ∧ ((i = 0 ∧ us = []) ∨ (i = 1 ∧ us = xs) ∨ (i = 2 ∧ us = xs ++ ys))) (fun _ iv _ => 2 - (intOf iv).toNat)
      case atStart => exact ⟨0, [], rfl, HO.out, HG.out, .inl ⟨rfl, rfl⟩⟩
      case round =>
        obtain ⟨i, us, rfl, ho, hg, hcs⟩ := hrel
        have d0 := hg.keeps h0
        have d1 := hg.keeps h1
        have HO2 := Lib.hid ho
        have HG2 := Lib.hid hg
        have HX2 := Lib.hid (HX.out.gr hg)
        have HY2 := Lib.hid (HY.out.gr hg)
        clear ho hg c0 c1 h0 h1
        rcases hcs with ⟨rfl, rfl⟩ | ⟨rfl, rfl⟩ | ⟨rfl, rfl⟩
        · go_wp2_with (at_builtin; refine append_places (a0 := w) rfl _ _ rfl _ [] rfl HO2.out _ xs rfl HX2.out (by simp; omega) HG2.out ?_; intro v3 w3 ho3 hg3)
          exact ⟨⟨1, xs, by go_num, ho3, hg3, .inr (.inl ⟨rfl, rfl⟩)⟩, by simp [intOf]⟩
        · go_wp2_with (at_builtin; refine append_places (a0 := w) rfl _ _ rfl _ us rfl HO2.out _ ys rfl HY2.out hl HG2.out ?_; intro v3 w3 ho3 hg3)
          exact ⟨⟨2, us ++ ys, by go_num, ho3, hg3, .inr (.inr ⟨rfl, rfl⟩)⟩, by simp [intOf]⟩
        · go_wp2_with fail
          go_ret
          exact ⟨_, rfl, HO2.out, HG2.out⟩
end Go.Proofs.Ytkdplnbdhkckhaa
