/-
  What ties a pager to the document's pages: plain.
-/
import Derived.Test.YtcdoeninajpbmaaGreatDoorPagJ
namespace Go.Proofs.YtcdoeninajpbmaaGreatDoor
open Go Go.RowKit

/-- The pages in use are the document's, and have what they have; and so do the roots. -/
structure Lk (c : Ch) (pg : Nat → ByteArray) (G : Int → Option ByteArray) (R : Nat → Int × Int) : Prop where
  used : ∀ k : Int, (G k).isSome = inUse c.h k
  page : ∀ k : Nat, inUse c.h (k : Int) = true → G k = some (pageNow pg c.F k)
  root : ∀ i, i < 8 → R i = (c.h.roots i, c.h.notes i)
theorem inUse_put {h : Head} {k : Nat} (h1 : 1 ≤ k) (h2 : k < 2000) (b : Bool) (j : Int) : inUse (h.put k b) j = if j = k then b else inUse h j := by
  by_cases e : j = k
  · subst e
    rw [if_pos rfl, inUse_nat _ h1 h2]
    exact if_pos rfl
  · rw [if_neg e]
    rw [Bool.eq_iff_iff, inUse_iff, inUse_iff]
    constructor
    · rintro ⟨m, rfl, m1, m2, m3⟩
      refine ⟨m, rfl, m1, m2, ?_⟩
      have : (if m = k then b else h.used m) = true := m3
      rwa [if_neg (by omega)] at this
    · rintro ⟨m, rfl, m1, m2, m3⟩
      refine ⟨m, rfl, m1, m2, ?_⟩
      show (if m = k then b else h.used m) = true
      rw [if_neg (by omega)]
      exact m3
theorem pageNow_set (pg : Nat → ByteArray) (F : Int → Option ByteArray) (k : Nat) (s : Option ByteArray) (j : Nat) (e : (j : Int) ≠ k) : pageNow pg (setF F k s) j = pageNow pg F j := by
  unfold pageNow setF
  rw [if_neg e]
theorem pageNow_at (pg : Nat → ByteArray) (F : Int → Option ByteArray) (k : Nat) (s : ByteArray) : pageNow pg (setF F k (some s)) k = s := by
  unfold pageNow setF
  rw [if_pos rfl]
theorem inUse_setRoot (h : Head) (i : Nat) (p n : Int) (k : Int) : inUse (h.setRoot i p n) k = inUse h k := rfl
/-- A page is written that is in use, or is taken. -/
theorem Lk.put {c : Ch} {pg : Nat → ByteArray} {G : Int → Option ByteArray} {R : Nat → Int × Int} (l : Lk c pg G R) {k : Nat} (h1 : 1 ≤ k) (h2 : k < 2000) (s : ByteArray) : Lk ⟨c.h.put k true, setF c.F k (some s)⟩ pg (setF G k (some s)) R := by
  refine ⟨fun j => ?_, fun j hj => ?_, l.root⟩
  · show (setF G k (some s) j).isSome = inUse (c.h.put k true) j
    rw [inUse_put h1 h2]
    unfold setF
    by_cases e : j = k
    · rw [if_pos e, if_pos e]
      rfl
    · rw [if_neg e, if_neg e]
      exact l.used j
  · have hj' : inUse (c.h.put k true) j = true := hj
    rw [inUse_put h1 h2] at hj'
    show setF G k (some s) j = some (pageNow pg (setF c.F k (some s)) j)
    by_cases e : (j : Int) = k
    · obtain rfl : j = k := by omega
      rw [pageNow_at]
      exact if_pos rfl
    · rw [if_neg e] at hj'
      rw [pageNow_set _ _ _ _ _ e]
      unfold setF
      rw [if_neg e]
      exact l.page j hj'
theorem put_same {h : Head} {k : Nat} (hu : h.used k = true) : h.put k true = h := by
  cases h
  unfold Head.put
  simp only [Head.mk.injEq, and_true]
  funext i
  by_cases e : i = k
  · subst e
    rw [if_pos rfl]
    exact hu.symm
  · rw [if_neg e]
theorem Lk.write {c : Ch} {pg : Nat → ByteArray} {G : Int → Option ByteArray} {R : Nat → Int × Int} (l : Lk c pg G R) {k : Int} (hu : inUse c.h k = true) (s : ByteArray) : Lk (c.write k s) pg (setF G k (some s)) R := by
  obtain ⟨m, rfl, h1, h2, h3⟩ := inUse_iff.1 hu
  have := l.put h1 h2 s
  rw [put_same h3] at this
  unfold Ch.write
  rw [if_pos hu]
  exact this
theorem Lk.free {c : Ch} {pg : Nat → ByteArray} {G : Int → Option ByteArray} {R : Nat → Int × Int} (l : Lk c pg G R) {k : Int} (hu : inUse c.h k = true) : Lk (c.free k) pg (setF G k none) R := by
  obtain ⟨m, rfl, h1, h2, h3⟩ := inUse_iff.1 hu
  unfold Ch.free
  rw [if_pos hu, show ((m : Int)).toNat = m by omega]
  refine ⟨fun j => ?_, fun j hj => ?_, l.root⟩
  · show (setF G m none j).isSome = inUse (c.h.put m false) j
    rw [inUse_put h1 h2]
    unfold setF
    by_cases e : j = m
    · rw [if_pos e, if_pos e]
      rfl
    · rw [if_neg e, if_neg e]
      exact l.used j
  · have hj' : inUse (c.h.put m false) j = true := hj
    rw [inUse_put h1 h2] at hj'
    show setF G m none j = some (pageNow pg (setF c.F m none) j)
    by_cases e : (j : Int) = m
    · rw [if_pos e] at hj'
      cases hj'
    · rw [if_neg e] at hj'
      rw [pageNow_set _ _ _ _ _ e]
      unfold setF
      rw [if_neg e]
      exact l.page j hj'
theorem Lk.setRoot {c : Ch} {pg : Nat → ByteArray} {G : Int → Option ByteArray} {R : Nat → Int × Int} (l : Lk c pg G R) (i : Nat) (p n : Int) : Lk ⟨c.h.setRoot i p n, c.F⟩ pg G (fun j => if j = i then (p, n) else R j) := by
  refine ⟨l.used, l.page, fun j hj => ?_⟩
  show (if j = i then (p, n) else R j) = ((if j = i then p else c.h.roots j), (if j = i then n else c.h.notes j))
  by_cases e : j = i
  · rw [if_pos e, if_pos e, if_pos e]
  · rw [if_neg e, if_neg e, if_neg e]
    exact l.root j hj
theorem Lk.commit {c : Ch} {pg pg' : Nat → ByteArray} {G : Int → Option ByteArray} {R : Nat → Int × Int} (l : Lk c pg G R) (h : ∀ k : Nat, 1 ≤ k → k < 2000 → pgGet pg' k = pageNow pg c.F k) : Lk (.new c.h) pg' G R := by
  refine ⟨l.used, fun k hk => ?_, l.root⟩
  rw [l.page k hk]
  obtain ⟨m, e, h1, h2, _⟩ := inUse_iff.1 hk
  obtain rfl : k = m := by omega
  show _ = some (pageNow pg' (fun _ => none) k)
  rw [pageNow_nil, h k h1 h2]
theorem Lk.sameHead {h g : Head} {pg : Nat → ByteArray} {G : Int → Option ByteArray} {R : Nat → Int × Int} (l : Lk (.new h) pg G R) (s : g.same h) : Lk (.new g) pg G R := by
  have hi := fun k => inUse_same s k
  refine ⟨fun k => (l.used k).trans (hi k).symm, fun k hk => ?_, fun i hi => ?_⟩
  · have hk' : inUse g k = true := hk
    rw [hi] at hk'
    exact l.page k hk'
  · rw [l.root i hi]
    show (h.roots i, h.notes i) = (g.roots i, g.notes i)
    rw [(s.2 i hi).1, (s.2 i hi).2]
theorem Lk.zero : Lk (.new headZ) dk0.pg (fun _ => none) (fun _ => (0, 0)) := by
  refine ⟨fun k => ?_, fun k hk => ?_, fun _ _ => rfl⟩
  · have : inUse headZ k = false := by
      rw [Bool.eq_false_iff]
      intro e
      obtain ⟨m, _, h1, _, h3⟩ := inUse_iff.1 e
      have : (m == 0) = true := h3
      have : m = 0 := by simpa using this
      omega
    exact this.symm
  · obtain ⟨m, _, h1, _, h3⟩ := inUse_iff.1 hk
    have : (m == 0) = true := h3
    have : m = 0 := by simpa using this
    omega
theorem Lk.fineG {c : Ch} (hc : c.fine) {d : Dk} (hw : d.whole) {G : Int → Option ByteArray} {R : Nat → Int × Int} (l : Lk c d.pg G R) : fineF G := fun k s e => by
  have hu : inUse c.h k = true := by rw [← l.used k, e]; rfl
  obtain ⟨m, rfl, h1, h2, h3⟩ := inUse_iff.1 hu
  have := l.page m hu
  rw [e] at this
  refine ⟨by omega, by omega, ?_⟩
  rw [Option.some.inj this]
  unfold pageNow
  split
  · rename_i s' e'
    exact (hc.dirty _ _ e').2.2
  · exact hw m (by omega)
theorem usedN_filter (h : Head) : ∀ n, usedN h n = ((List.range n).filter h.used).length
  | 0 => rfl
  | n + 1 => by
    rw [usedN, usedN_filter h n, List.range_succ, List.filter_append, List.length_append]
    congr 1
    cases hu : h.used n <;> simp [hu]
set_option maxRecDepth 100000 in
theorem Lk.count {c : Ch} (hc : c.fine) {pg : Nat → ByteArray} {G : Int → Option ByteArray} {R : Nat → Int × Int} (l : Lk c pg G R) : usedN c.h 2000 = (ksF G).length + 1 := by
  rw [usedN_filter]
  have e : List.range 2000 = 0 :: (List.range 1999).map Nat.succ := List.range_succ_eq_map
  have hz : c.h.used 0 = true := hc.head.zero
  have hn : (G ((0 : Nat) : Int)).isSome = false := by
    rw [l.used]
    rw [Bool.eq_false_iff]
    intro e
    obtain ⟨m, e2, h1, _⟩ := inUse_iff.1 e
    omega
  unfold ksF
  rw [e, List.filter_cons_of_pos hz, List.filter_cons_of_neg (by rw [hn]; decide), List.length_cons]
  refine congrArg (fun l => List.length l + 1) (List.filter_congr fun k hk => ?_)
  obtain ⟨j, hj, rfl⟩ := List.mem_map.1 hk
  have hj2 := List.mem_range.1 hj
  rw [l.used, inUse_nat _ (by omega) (by omega)]
set_option maxRecDepth 100000 in
/-- Few pages are in use: there is one more. -/
theorem alloc_more {h : Head} (hu : usedN h 2000 ≤ 1000) : ∃ k, allocF h = some k := by
  cases e : allocF h with
  | some k => exact ⟨k, rfl⟩
  | none =>
    exfalso
    have : ∀ j, j < 2000 → h.used j = true := fun j hj => by
      unfold allocF at e
      have := List.find?_eq_none.1 e j (List.mem_range.2 hj)
      simpa using this
    rw [usedN_filter, List.filter_eq_self.2 (fun j hj => this j (List.mem_range.1 hj)), List.length_range] at hu
    omega
theorem usedN_le_put (h : Head) (k : Nat) : ∀ n, usedN (h.put k false) n ≤ usedN h n
  | 0 => Nat.le_refl _
  | n + 1 => by
    have ih := usedN_le_put h k n
    have e0 : (h.put k false).used n = if n = k then false else h.used n := rfl
    rw [usedN, usedN, e0]
    by_cases e : n = k
    · rw [if_pos e]
      simp
      omega
    · rw [if_neg e]
      omega
end Go.Proofs.YtcdoeninajpbmaaGreatDoor
