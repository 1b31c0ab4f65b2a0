/-
  Lists of values in memory; the contract of the laws' short.
-/
import Derived.Test.YthenhglpljdhfaaDoorVal
namespace Go.Proofs.YthenhglpljdhfaaDoor
open Go Go.RowKit

/-- The list lies in memory: three cells a value. -/
def ValsAt (w : World) (b off : Nat) (xs : List GVal) : Prop :=
  ∀ i (h : i < xs.length), w.cell? ⟨b, off + i * 3, none⟩ = some (.int .i64 xs[i].kind) ∧ w.cell? ⟨b, off + i * 3 + 1, none⟩ = some (.int .i64 xs[i].num) ∧ w.cell? ⟨b, off + i * 3 + 2, none⟩ = some (.string xs[i].text)

theorem ValsAt.gr {w w' : World} {b off : Nat} {xs : List GVal} (h : ValsAt w b off xs) (g : Gr w w') : ValsAt w' b off xs :=
  fun i hi => ⟨g.keeps (h i hi).1, g.keeps (h i hi).2.1, g.keeps (h i hi).2.2⟩

theorem all_take_s {α : Type} (l : List α) (p : α → Bool) (j : Nat) (h : j < l.length) : (l.take (j + 1)).all p = ((l.take j).all p && p l[j]) := by
  rw [List.take_succ_eq_append_getElem h, List.all_append]; simp
def shortB (xs : List GVal) : Bool := decide (xs.length ≤ 30) && xs.all (fun v => decide (v.text.size ≤ 100))
theorem shortB_hit (xs : List GVal) (j : Nat) (h : j < xs.length) (hs : (100 : Int) < (xs[j].text.size : Int)) : shortB xs = false := by
  have : xs.all (fun v => decide (v.text.size ≤ 100)) = false := by
    rw [List.all_eq_false]; exact ⟨_, List.getElem_mem h, by simp; omega⟩
  unfold shortB; rw [this]; simp
theorem shortB_all (xs : List GVal) (j : Nat) (h : j ≤ xs.length) (h' : ¬ j < xs.length) (h30 : xs.length ≤ 30) (hs : (xs.take j).all (fun v => decide (v.text.size ≤ 100)) = true) : shortB xs = true := by
  have e : j = xs.length := by omega
  rw [e, List.take_length] at hs
  unfold shortB; rw [hs]; simp [h30]

set_option maxHeartbeats 400000 in
theorem short_t (xs : List GVal) (b off c : Nat) (ao : Option Addr) (hao : 0 < xs.length → ao = some ⟨b, off, none⟩) (hl : xs.length ≤ 9223372036854775807) (w : World) (hc : ValsAt w b off xs) :
    Calls Tryd.prog 43 #[.slice ao xs.length c] w (Ret w (.bool (shortB xs))) := by
  have HC := Lib.hid hc
  have HA := Lib.hid hao
  clear hc hao
  go_enter Tryd.func43, Tryd.ntmps43
  go_wp2
  · go_ret
    exact Ret.mk (by simp [shortB]; omega) (Gr.refl _)
  · have h30 : xs.length ≤ 30 := by omega
    go_loop [3] (fun i => ∃ j : Nat, j ≤ xs.length ∧ i = .int .i64 j ∧ (xs.take j).all (fun v => decide (v.text.size ≤ 100)) = true) (fun i => xs.length - (intOf i).toNat)
    case atStart => exact ⟨0, Nat.zero_le _, rfl, rfl⟩
    case round =>
      obtain ⟨j, hj, rfl, hall⟩ := hrel
      have H := Lib.hid hall
      clear hall
      by_cases hlt : j < xs.length
      · obtain rfl := HA.out (by omega)
        have h3 := (HC.out j hlt).2.2
        go_wp2
        case roundEnd =>
          refine ⟨⟨j + 1, by omega, by go_num, ?_⟩, by simp [intOf]; omega⟩
          rw [all_take_s _ _ j hlt, H.out]
          simp
          omega
        go_ret
        exact Ret.mk (by rw [shortB_hit xs j hlt (by assumption)]; rfl) (Gr.refl _)
      · go_wp2
        go_ret
        exact Ret.mk (by rw [shortB_all xs j hj hlt h30 H.out]; rfl) (Gr.refl _)

/-- 1.1: the order of lists. -/
def orderV : List GVal → List GVal → Int
  | [], [] => 0
  | [], _ :: _ => -1
  | _ :: _, [] => 1
  | a :: x, b :: y => if cmpV a b = 0 then orderV x y else cmpV a b

theorem order_step (xs ys : List GVal) (j : Nat) (h1 : j < xs.length) (h2 : j < ys.length) :
    orderV (xs.drop j) (ys.drop j) = if cmpV xs[j] ys[j] = 0 then orderV (xs.drop (j + 1)) (ys.drop (j + 1)) else cmpV xs[j] ys[j] := by
  rw [List.drop_eq_getElem_cons h1, List.drop_eq_getElem_cons h2]; rfl
theorem order_end (xs ys : List GVal) (j : Nat) (h : j = xs.length ∨ j = ys.length) (hx : j ≤ xs.length) (hy : j ≤ ys.length) :
    orderV (xs.drop j) (ys.drop j) = if xs.length = ys.length then 0 else if ys.length < xs.length then 1 else -1 := by
  rcases h with h | h
  · subst h
    rw [List.drop_length]
    by_cases e : xs.length = ys.length
    · rw [e, List.drop_length, if_pos rfl]; rfl
    · rw [if_neg e, if_neg (by omega), List.drop_eq_getElem_cons (by omega)]; rfl
  · subst h
    rw [List.drop_length]
    by_cases e : xs.length = ys.length
    · rw [← e, List.drop_length, if_pos rfl]; rfl
    · rw [if_neg e, if_pos (by omega), List.drop_eq_getElem_cons (by omega)]; rfl

end Go.Proofs.YthenhglpljdhfaaDoor
