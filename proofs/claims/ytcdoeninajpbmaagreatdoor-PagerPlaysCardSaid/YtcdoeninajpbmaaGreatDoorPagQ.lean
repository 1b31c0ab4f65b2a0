/-
  What a pager has and does, as plain data.
-/
import Derived.Test.YtcdoeninajpbmaaGreatDoorPagK
import Derived.Test.YtcdoeninajpbmaaGreatDoorPagA
namespace Go.Proofs.YtcdoeninajpbmaaGreatDoor
open Go Go.RowKit

/-- A page of a letter, and first so many of another one. -/
def kgHi (n : Int) : UInt8 := ((n / 256) % 256).toNat.toUInt8
def kgLo (n : Int) : UInt8 := (n % 256).toNat.toUInt8
def kgK (n : Int) : Nat := (n % 1024).toNat
def kpageB (n : Int) : ByteArray := ⟨(Lib.repeatL [kgHi n] (kgK n) ++ Lib.repeatL [kgLo n] (1024 - kgK n)).toArray⟩
theorem kpageB_size (n : Int) : (kpageB n).size = 1024 := by
  unfold kpageB
  rw [ba_len, List.length_append, Lib.repeatL_length, Lib.repeatL_length]
  have : kgK n ≤ 1024 := by unfold kgK; omega
  simp
  omega
def pickK (a n : Int) : Nat := ((a % 18446744073709551616) % n).toNat
theorem pickK_lt (a n : Int) (h : 1 ≤ n) : (pickK a n : Int) < n := by
  unfold pickK
  have := Int.emod_nonneg (a % 18446744073709551616) (show n ≠ 0 by omega)
  have := Int.emod_lt_of_pos (a % 18446744073709551616) (show 0 < n by omega)
  omega
theorem fineF_nil : fineF fun _ => none := fun _ _ h => by cases h
theorem fineF_set {F : Int → Option ByteArray} (h : fineF F) {k : Int} (hk : 1 ≤ k ∧ k < 2000) {s : ByteArray} (hs : s.size = 1024) : fineF (setF F k (some s)) := fun i u e => by
  unfold setF at e
  split at e
  · injection e with e
    subst e
    rename_i hi
    subst hi
    exact ⟨hk.1, hk.2, hs⟩
  · exact h i u e
theorem fineF_del {F : Int → Option ByteArray} (h : fineF F) (k : Int) : fineF (setF F k none) := fun i u e => by
  unfold setF at e
  split at e
  · cases e
  · exact h i u e
/-- The least page that is not in use. -/
def allocF (h : Head) : Option Nat := (List.range 2000).find? fun i => !h.used i
theorem allocF_some {h : Head} (hf : h.fine) {k : Nat} (e : allocF h = some k) : 1 ≤ k ∧ k < 2000 ∧ h.used k = false ∧ ∀ i, i < k → h.used i = true := by
  unfold allocF at e
  obtain ⟨h1, xs, ys, h2, h3⟩ := List.find?_eq_some_iff_append.1 e
  have hk : k < 2000 := List.mem_range.1 (List.mem_of_find?_eq_some e)
  have hu : h.used k = false := by simpa using h1
  have h0 : k ≠ 0 := fun e0 => by rw [e0, hf.zero] at hu; cases hu
  refine ⟨by omega, hk, hu, fun i hi => ?_⟩
  have hl : xs.length = k := by
    have h4 : (List.range 2000)[xs.length]? = some k := by rw [h2]; simp
    have h5 : xs.length < 2000 := by
      have := (List.getElem?_eq_some_iff.1 h4).1
      simpa using this
    rw [List.getElem?_range h5] at h4
    exact Option.some.inj h4
  have hm : i ∈ xs := by
    have h4 : (xs ++ k :: ys)[i]? = some i := by rw [← h2, List.getElem?_range (by omega)]
    rw [List.getElem?_append_left (by omega)] at h4
    exact List.mem_of_getElem? h4
  simpa using h3 i hm
theorem fine_put {h : Head} (hf : h.fine) {k : Nat} (hk : 1 ≤ k) (b : Bool) : (h.put k b).fine :=
  ⟨by show (if 0 = k then b else h.used 0) = true; rw [if_neg (by omega)]; exact hf.zero, hf.root, hf.note⟩
theorem fine_set {h : Head} (hf : h.fine) (i : Nat) {p n : Int} (hp : 0 ≤ p ∧ p < 2000) (hn : 0 ≤ n ∧ n < 65536) : (h.setRoot i p n).fine :=
  ⟨hf.zero, fun j hj => by
    show 0 ≤ (if j = i then p else h.roots j) ∧ (if j = i then p else h.roots j) < 2000
    split
    · exact hp
    · exact hf.root j hj, fun j hj => by
    show 0 ≤ (if j = i then n else h.notes j) ∧ (if j = i then n else h.notes j) < 65536
    split
    · exact hn
    · exact hf.note j hj⟩
/-- One of a pager's acts. -/
structure KAct where
  what : Int
  at_ : Int
  n : Int
/-- What is changed: the head, and pages. -/
structure Ch where
  h : Head
  F : Int → Option ByteArray
structure Ch.fine (c : Ch) : Prop where
  head : c.h.fine
  dirty : fineF c.F
def Ch.alloc (c : Ch) : Ch := match allocF c.h with | none => c | some k => ⟨c.h.put k true, setF c.F k (some zerosB)⟩
def Ch.free (c : Ch) (k : Int) : Ch := if inUse c.h k then ⟨c.h.put k.toNat false, setF c.F k none⟩ else c
def Ch.write (c : Ch) (k : Int) (s : ByteArray) : Ch := if inUse c.h k then ⟨c.h, setF c.F k (some s)⟩ else c
def Ch.new (h : Head) : Ch := ⟨h, fun _ => none⟩
def stepK (sv : Head) (c : Ch) (x : KAct) : Ch :=
  if x.what = 0 then c.alloc else if x.what = 1 then c.free (1 + (pickK x.at_ 12 : Int)) else if x.what = 2 then c.write (1 + (pickK x.at_ 12 : Int)) (kpageB x.n)
  else if x.what = 3 then ⟨c.h.setRoot (pickK x.at_ 8) (pickK x.n 2000) (pickK x.n 65536), c.F⟩ else if x.what = 4 then .new sv else c
theorem Ch.fine.alloc_fine {c : Ch} (h : c.fine) : c.alloc.fine := by
  unfold Ch.alloc
  split
  · exact h
  · rename_i k e
    obtain ⟨h1, h2, _, _⟩ := allocF_some h.head e
    exact ⟨fine_put h.head h1 _, fineF_set h.dirty (by omega) zerosB_sz⟩
theorem Ch.fine.free_fine {c : Ch} (h : c.fine) (k : Int) : (c.free k).fine := by
  unfold Ch.free
  split
  · rename_i hu
    obtain ⟨m, rfl, h1, h2, _⟩ := inUse_iff.1 hu
    exact ⟨fine_put h.head (by simpa using h1) _, fineF_del h.dirty _⟩
  · exact h
theorem Ch.fine.write_fine {c : Ch} (h : c.fine) (k : Int) {s : ByteArray} (hs : s.size = 1024) : (c.write k s).fine := by
  unfold Ch.write
  split
  · rename_i hu
    obtain ⟨m, rfl, h1, h2, _⟩ := inUse_iff.1 hu
    exact ⟨h.head, fineF_set h.dirty (by omega) hs⟩
  · exact h
theorem Ch.new_fine {h : Head} (hf : h.fine) : (Ch.new h).fine := ⟨hf, fineF_nil⟩
theorem stepK_fine {sv : Head} (hs : sv.fine) {c : Ch} (h : c.fine) (x : KAct) : (stepK sv c x).fine := by
  unfold stepK
  split
  · exact h.alloc_fine
  split
  · exact h.free_fine _
  split
  · exact h.write_fine _ (kpageB_size _)
  split
  · have h1 := pickK_lt x.n 2000 (by omega)
    have h2 := pickK_lt x.n 65536 (by omega)
    exact ⟨fine_set h.head _ (by omega) (by omega), h.dirty⟩
  split
  · exact Ch.new_fine hs
  · exact h
theorem foldK_fine {sv : Head} (hs : sv.fine) : ∀ (l : List KAct) {c : Ch}, c.fine → (l.foldl (stepK sv) c).fine
  | [], _, h => h
  | x :: l, _, h => foldK_fine hs l (stepK_fine hs h x)
/-- A head that was read may be. -/
theorem reads_fine {l : List UInt8} (hr : ∀ i, i < 8 → fromF l (250 + 4 * i) < 2000) : (readsF l).fine := by
  refine ⟨rfl, fun i hi => ⟨?_, hr i hi⟩, fun i hi => ⟨?_, ?_⟩⟩
  · show 0 ≤ fromF l _
    unfold fromF
    omega
  · show 0 ≤ fromF l _
    unfold fromF
    omega
  · show fromF l _ < 65536
    unfold fromF
    have h1 := (l.getD (252 + 4 * i) 0).toNat_lt
    have h2 := (l.getD (252 + 4 * i + 1) 0).toNat_lt
    omega
/-- All that a pager has, as one text. -/
def allP (c : Ch) (pg : Nat → ByteArray) (n : Nat) : List UInt8 := (List.range n).flatMap fun (i : Nat) => if inUse c.h ((i : Int) + 1) then (i + 1).toUInt8 :: (pageNow pg c.F (i + 1)).data.toList else []
def usedN (h : Head) : Nat → Nat
  | 0 => 0
  | n + 1 => usedN h n + if h.used n then 1 else 0
def allT (c : Ch) (pg : Nat → ByteArray) : List UInt8 := allP c pg 59 ++ rootsF c.h 8 ++ [(usedN c.h 2000).toUInt8]
theorem usedN_same {h g : Head} (s : h.same g) : ∀ n, n ≤ 2000 → usedN h n = usedN g n
  | 0, _ => rfl
  | n + 1, hn => by unfold usedN; rw [usedN_same s n (by omega), s.1 n (by omega)]
theorem usedN_le (h : Head) : ∀ n, usedN h n ≤ n
  | 0 => Nat.le_refl _
  | n + 1 => by
    have := usedN_le h n
    unfold usedN
    split <;> omega
theorem inUse_same {h g : Head} (s : h.same g) (k : Int) : inUse h k = inUse g k := by
  by_cases hk : 1 ≤ k ∧ k < 2000
  · unfold inUse
    rw [s.1 k.toNat (by omega)]
  · rw [Bool.eq_iff_iff, inUse_iff, inUse_iff]
    constructor
    · rintro ⟨m, rfl, h1, h2, _⟩
      omega
    · rintro ⟨m, rfl, h1, h2, _⟩
      omega
theorem rootsF_same {h g : Head} (s : h.same g) : ∀ n, n ≤ 8 → rootsF h n = rootsF g n
  | 0, _ => rfl
  | n + 1, hn => by
    rw [rootsF_next, rootsF_next, rootsF_same s n (by omega), (s.2 n (by omega)).1, (s.2 n (by omega)).2]
theorem allP_next (c : Ch) (pg : Nat → ByteArray) (n : Nat) : allP c pg (n + 1) = allP c pg n ++ if inUse c.h ((n : Int) + 1) then (n + 1).toUInt8 :: (pageNow pg c.F (n + 1)).data.toList else [] := by
  unfold allP
  rw [List.range_succ, List.flatMap_append]
  simp
theorem allP_len {c : Ch} {pg : Nat → ByteArray} (hp : ∀ k, k < 2000 → (pageNow pg c.F k).size = 1024) : ∀ n, n ≤ 1000 → (allP c pg n).length ≤ 1025 * n
  | 0, _ => by simp [allP]
  | n + 1, hn => by
    have ih := allP_len hp n (by omega)
    rw [allP_next, List.length_append]
    split
    · rw [List.length_cons, ← size_data, hp _ (by omega)]
      omega
    · simp
      omega
/-- Where the heads are one, and the pages in use are, all is one. -/
theorem allT_eq {c d : Ch} {pg qg : Nat → ByteArray} (hs : c.h.same d.h) (hp : ∀ k : Nat, 1 ≤ k → k < 2000 → pageNow pg c.F k = pageNow qg d.F k) : allT c pg = allT d qg := by
  have e1 : ∀ n, n ≤ 59 → allP c pg n = allP d qg n := by
    intro n
    induction n with
    | zero => intro _; rfl
    | succ n ih =>
      intro hn
      rw [allP_next, allP_next, ih (by omega), inUse_same hs, hp (n + 1) (by omega) (by omega)]
  unfold allT
  rw [e1 59 (Nat.le_refl _), rootsF_same hs 8 (Nat.le_refl _), usedN_same hs 2000 (Nat.le_refl _)]
end Go.Proofs.YtcdoeninajpbmaaGreatDoor
