/-
  Contracts of the laws' sameTexts; the walk of the law WordSplits: it returns true.
-/
import Derived.Test.YthenhglpljdhfaaDoorWordW
namespace Go.Proofs.YthenhglpljdhfaaDoor
open Go Go.RowKit

/-- Texts lie in memory. -/
def StrsAt (w : World) (b off : Nat) (ws : List ByteArray) : Prop := ∀ i (h : i < ws.length), w.cell? ⟨b, off + i, none⟩ = some (.string ws[i])
theorem StrsAt.gr {w w' : World} {b off : Nat} {ws : List ByteArray} (h : StrsAt w b off ws) (g : Gr w w') : StrsAt w' b off ws := fun i hi => g.keeps (h i hi)
theorem own_open {w : World} {B : Nat} {v : Value} {ws : List ByteArray} (h : OwnS w B v ws) : ∃ (ao : Option Addr) (c b : Nat), v = .slice ao ws.length c ∧ (0 < ws.length → ao = some ⟨b, 0, none⟩) ∧ StrsAt w b 0 ws := by
  obtain ⟨h1, h2⟩ := h
  rcases h2 with ⟨rfl, h0⟩ | ⟨g, cap, cur, rfl, _, hh, hn, _, hcur, ht⟩
  · exact ⟨none, 0, 0, by rw [h0], fun h => by omega, fun i hi => by omega⟩
  · refine ⟨_, _, g, rfl, fun _ => rfl, fun i hi => ?_⟩
    have hc : cur.toList[i]? = some (.string ws[i]) := by
      have e := congrArg (fun l : List Value => l[i]?) ht
      simp only [Nat.mul_one] at e
      rw [List.getElem?_take, if_pos hi, List.getElem?_map, List.getElem?_eq_getElem hi] at e
      exact e
    unfold World.cell?
    simp only [hh, Nat.zero_add]
    rw [← Array.getElem?_toList]
    exact hc

set_option maxHeartbeats 400000 in
theorem sameTexts_t (ws : List ByteArray) (b off c b' off' c' : Nat) (ao ao' : Option Addr) (hao : 0 < ws.length → ao = some ⟨b, off, none⟩) (hao' : 0 < ws.length → ao' = some ⟨b', off', none⟩) (hl : ws.length ≤ 4611686018427387904) (w : World)
    (hc : StrsAt w b off ws) (hc' : StrsAt w b' off' ws) :
    Calls Tryd.prog 14 #[.slice ao ws.length c, .slice ao' ws.length c'] w (Ret w (.bool true)) := by
  have HC := Lib.hid hc
  have HA := Lib.hid hao
  have HC' := Lib.hid hc'
  have HA' := Lib.hid hao'
  clear hc hao hc' hao'
  go_enter Tryd.func14, Tryd.ntmps14
  go_wp2_with fail
  go_loopw [5] (fun i w' => ∃ j : Nat, j ≤ ws.length ∧ i = .int .i64 j ∧ Gr w w') (fun i _ => ws.length - (intOf i).toNat)
  case atStart => exact ⟨0, Nat.zero_le _, rfl, Gr.refl _⟩
  case round =>
    obtain ⟨j, hj, rfl, hg⟩ := hrel
    by_cases h1 : j < ws.length
    · obtain rfl := HA.out (by omega)
      obtain rfl := HA'.out (by omega)
      have f1 := HC.out.gr hg j h1
      have f2 := HC'.out.gr hg j h1
      have hne : (!ws[j].toList == ws[j].toList) = false := by simp
      go_wp2_with fail
      go_quiet (fail)
      go_wp2_with fail
      exact ⟨⟨j + 1, by omega, by go_num, hg.drewN _⟩, by simp [intOf]; omega⟩
    · go_wp2_with fail
      go_ret
      exact Ret.mk rfl hg

set_option maxHeartbeats 1600000 in
theorem wordSplits_walk (s : ByteArray) (hs : s.size ≤ 9223372036854775807) (w : World) (he : EndsAt w) : Calls Tryd.prog 3 #[.string s] w (Ret w (.bool true)) := by
  have HE := Lib.hid he
  clear he
  by_cases h6 : s.size ≤ 600
  · go_enter Tryd.func3, Tryd.ntmps3
    go_wp2_with fail
    refine (small_t s hs _).mono ?_
    rintro e w1 ⟨rfl, hg1⟩
    go_wp2_with fail
    refine (small_ref s (by omega) _).mono ?_
    rintro e w2 ⟨rfl, hg2⟩
    have hb : ((smallS s).toList == (smallS s).toList) = true := by simp
    go_wp2_with fail
    refine (stem_t s (by omega) _ (HE.out.gr (hg1.trans hg2))).mono ?_
    rintro e w3 ⟨rfl, hg3⟩
    go_wp2_with fail
    refine (stem_ref s (by omega) _).mono ?_
    rintro e w4 ⟨rfl, hg4⟩
    have hb2 : ((stemS s).toList == (stemS s).toList) = true := by simp
    have hg5 := ((hg1.trans hg2).trans hg3).trans hg4
    clear hg1 hg2 hg3 hg4
    go_wp2_with fail
    refine (split_t s (by omega) _ (HE.out.gr hg5)).mono ?_
    rintro e w5 ⟨v5, rfl, ho5, hg6⟩
    obtain ⟨ao, c, b, rfl, hao, hst⟩ := own_open ho5
    clear ho5
    have HA := Lib.hid hao
    have HS := Lib.hid hst
    clear hao hst
    go_wp2_with fail
    refine (words_ref s (by omega) _).mono ?_
    rintro e w6 ⟨v6, rfl, ho6, hg7⟩
    obtain ⟨ao', c', b', rfl, hao', hst'⟩ := own_open ho6
    clear ho6
    have HA' := Lib.hid hao'
    have HS' := Lib.hid hst'
    clear hao' hst'
    go_wp2_with fail
    have hlen : (splitS s).length ≤ 4611686018427387904 := splitS_length s (by omega)
    refine (sameTexts_t (splitS s) b 0 c b' 0 c' ao ao' HA.out HA'.out hlen _ (HS.out.gr hg7) HS'.out).mono ?_
    rintro e w7 ⟨rfl, hg8⟩
    go_wp2_with fail
    go_ret
    exact Ret.mk (by simp) ((hg5.trans hg6).trans (hg7.trans hg8))
  · go_enter Tryd.func3, Tryd.ntmps3
    go_wp2_with fail
    go_ret
    exact Ret.mk rfl (Gr.refl _)
end Go.Proofs.YthenhglpljdhfaaDoor
