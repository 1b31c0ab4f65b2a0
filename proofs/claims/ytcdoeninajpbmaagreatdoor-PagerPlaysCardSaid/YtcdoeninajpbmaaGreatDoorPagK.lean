/-
  A disk's writes one after another, and what a pager writes, as plain data.
-/
import Derived.Test.YtcdoeninajpbmaaGreatDoorPagN
import Derived.Test.YtcdoeninajpbmaaGreatDoorDisk
namespace Go.Proofs.YtcdoeninajpbmaaGreatDoor
open Go Go.RowKit

/-- A disk as plain data. -/
structure Dk where
  pg : Nat → ByteArray
  cut : Bool
  left : Int
  torn : Int
def Dk.on (d : Dk) : Bool := onB d.cut d.left
/-- Every page has its size. -/
def Dk.whole (d : Dk) : Prop := ∀ k, k < 4001 → (pgGet d.pg k).size = 1024
theorem zerosB_sz : zerosB.size = 1024 := by
  show (List.toArray _).size = 1024
  rw [List.size_toArray, Lib.repeatL_length]
  rfl
theorem pgGet_pgPut {pg : Nat → ByteArray} {k : Nat} {s : ByteArray} (hs : s.size = 1024) (i : Nat) : pgGet (pgPut pg k s) i = if i = k then s else pgGet pg i := by
  unfold pgGet pgPut
  by_cases e : i = k
  · rw [if_pos e, if_pos e, if_neg]
    intro h
    rw [ByteArray.toList_eq] at h
    have h2 : s.data.toList.length = 1024 := by rw [← size_data]; exact hs
    rw [List.isEmpty_iff] at h
    rw [h] at h2
    simp at h2
  · rw [if_neg e, if_neg e]
theorem tearS_sz {s old : ByteArray} (hs : s.size = 1024) (ho : old.size = 1024) (n : Nat) (hn : n ≤ 1024) : (tearS s old n).size = 1024 := by
  have h1 : s.data.toList.length = 1024 := by rw [← size_data]; exact hs
  have h2 : old.data.toList.length = 1024 := by rw [← size_data]; exact ho
  rw [size_data]
  show (tearB s old n).toArray.toList.length = 1024
  simp only [tearB, List.toList_toArray, List.length_append, List.length_take, List.length_drop]
  omega
theorem clampT_le (t : Int) : clampT t ≤ 1024 := by unfold clampT; omega
/-- One write. -/
def wrD (d : Dk) (k : Nat) (s : ByteArray) : Bool × Dk :=
  if d.on then (true, { d with pg := pgPut d.pg k s, left := d.left - 1 }) else (false, { d with pg := pgPut d.pg k (tearS s (pgGet d.pg k) (clampT d.torn)), torn := 0 })
/-- Writes, till one fails. -/
def wrsD : Dk → List (Nat × ByteArray) → Bool × Dk
  | d, [] => (true, d)
  | d, x :: l => if (wrD d x.1 x.2).1 then wrsD (wrD d x.1 x.2).2 l else (false, (wrD d x.1 x.2).2)
theorem wrsD_nil (d : Dk) : wrsD d [] = (true, d) := rfl
theorem wrsD_cons (d : Dk) (x : Nat × ByteArray) (l : List (Nat × ByteArray)) : wrsD d (x :: l) = if (wrD d x.1 x.2).1 then wrsD (wrD d x.1 x.2).2 l else (false, (wrD d x.1 x.2).2) := rfl
theorem wrsD_append : ∀ (a b : List (Nat × ByteArray)) (d : Dk), wrsD d (a ++ b) = if (wrsD d a).1 then wrsD (wrsD d a).2 b else (false, (wrsD d a).2)
  | [], b, d => by rw [List.nil_append, wrsD_nil]; rfl
  | x :: a, b, d => by
    rw [List.cons_append, wrsD_cons, wrsD_cons]
    cases (wrD d x.1 x.2).1
    · rfl
    · exact wrsD_append a b _
theorem wrD_whole {d : Dk} (h : d.whole) (k : Nat) {s : ByteArray} (hs : s.size = 1024) : (wrD d k s).2.whole := by
  intro i hi
  unfold wrD
  split
  · show (pgGet (pgPut d.pg k s) i).size = 1024
    rw [pgGet_pgPut hs]
    split
    · exact hs
    · exact h i hi
  · by_cases hk : k < 4001
    · have ht := tearS_sz hs (h k hk) _ (clampT_le d.torn)
      show (pgGet (pgPut d.pg k _) i).size = 1024
      rw [pgGet_pgPut ht]
      split
      · exact ht
      · exact h i hi
    · show (pgGet (pgPut d.pg k _) i).size = 1024
      have hne : i ≠ k := by omega
      unfold pgGet pgPut
      rw [if_neg hne]
      exact h i hi
/-- What is written has the size of a page, and is written to a page that is there. -/
def okE (l : List (Nat × ByteArray)) : Prop := ∀ x ∈ l, x.1 < 4001 ∧ x.2.size = 1024
theorem okE_append {a b : List (Nat × ByteArray)} (ha : okE a) (hb : okE b) : okE (a ++ b) := fun x hx => (List.mem_append.1 hx).elim (ha x) (hb x)
theorem wrsD_whole : ∀ (l : List (Nat × ByteArray)) {d : Dk}, d.whole → okE l → (wrsD d l).2.whole
  | [], _, h, _ => h
  | x :: l, d, h, hl => by
    have h1 := wrD_whole h x.1 (hl x (by simp)).2
    rw [wrsD_cons]
    cases (wrD d x.1 x.2).1
    · exact h1
    · exact wrsD_whole l h1 (fun y hy => hl y (by simp [hy]))
theorem wrD_left (d : Dk) (k : Nat) (s : ByteArray) : d.left - 1 ≤ (wrD d k s).2.left ∧ (wrD d k s).2.left ≤ d.left := by
  unfold wrD
  split
  · exact ⟨Int.le_refl _, by show d.left - 1 ≤ d.left; omega⟩
  · exact ⟨by show d.left - 1 ≤ d.left; omega, Int.le_refl _⟩
theorem wrsD_left : ∀ (l : List (Nat × ByteArray)) (d : Dk), d.left - l.length ≤ (wrsD d l).2.left ∧ (wrsD d l).2.left ≤ d.left
  | [], d => ⟨by simp [wrsD], Int.le_refl _⟩
  | x :: l, d => by
    have h1 := wrD_left d x.1 x.2
    have h2 := wrsD_left l (wrD d x.1 x.2).2
    rw [wrsD_cons, List.length_cons]
    cases (wrD d x.1 x.2).1
    · exact ⟨by show _ ≤ (wrD d x.1 x.2).2.left; omega, h1.2⟩
    · exact ⟨by show _ ≤ (wrsD (wrD d x.1 x.2).2 l).2.left; omega, by show (wrsD (wrD d x.1 x.2).2 l).2.left ≤ _; omega⟩
/-- The next write of a list, behind those that went well. -/
theorem wrsD_next {d e : Dk} {l : List (Nat × ByteArray)} {i : Nat} (hi : i < l.length) (h : wrsD d (l.take i) = (true, e)) (hok : (wrD e l[i].1 l[i].2).1 = true) : wrsD d (l.take (i + 1)) = (true, (wrD e l[i].1 l[i].2).2) := by
  rw [List.take_succ_eq_append_getElem hi, wrsD_append, h, if_pos rfl, wrsD_cons, if_pos hok, wrsD_nil]
theorem wrsD_stop {d e : Dk} {l m : List (Nat × ByteArray)} {i : Nat} (hi : i < l.length) (h : wrsD d (l.take i) = (true, e)) (hok : (wrD e l[i].1 l[i].2).1 = false) : wrsD d (l ++ m) = (false, (wrD e l[i].1 l[i].2).2) := by
  have e1 : l ++ m = l.take i ++ (l[i] :: (l.drop (i + 1) ++ m)) := by
    rw [← List.cons_append, ← List.append_assoc, ← List.drop_eq_getElem_cons hi, List.take_append_drop]
  rw [e1, wrsD_append, h, if_pos rfl, wrsD_cons, hok]
  rfl
/-- A disk whose power stays on. -/
theorem wrsD_on : ∀ (l : List (Nat × ByteArray)) {d : Dk}, d.cut = false → wrsD d l = (true, { d with pg := l.foldl (fun p x => pgPut p x.1 x.2) d.pg, left := d.left - l.length })
  | [], d, _ => by simp [wrsD]
  | x :: l, d, h => by
    have hon : d.on = true := by unfold Dk.on onB; rw [h]; rfl
    have e : wrD d x.1 x.2 = (true, { d with pg := pgPut d.pg x.1 x.2, left := d.left - 1 }) := by unfold wrD; rw [if_pos hon]
    rw [wrsD_cons, e, if_pos rfl, wrsD_on l (d := { d with pg := pgPut d.pg x.1 x.2, left := d.left - 1 }) h, List.length_cons, List.foldl_cons]
    congr 2
    show d.left - 1 - (l.length : Int) = d.left - ((l.length + 1 : Nat) : Int)
    omega

/-- A head's page, and a log's note. -/
def textB (h : Head) : ByteArray := ⟨(textF h).toArray⟩
theorem textB_sz (h : Head) : (textB h).size = 1024 := by rw [textB, ba_len, textF_len]
def noteB (ps : List Nat) (l : List ByteArray) : ByteArray := ⟨(noteF ps (datas l)).toArray⟩
theorem noteB_sz (ps : List Nat) (l : List ByteArray) : (noteB ps l).size = 1024 := by rw [noteB, ba_len, noteF_len]
/-- The pages that are changed, rising. -/
def ksF (F : Int → Option ByteArray) : List Nat := (List.range 2000).filter fun (k : Nat) => (F k).isSome
def pagesF (F : Int → Option ByteArray) : List Nat := 0 :: ksF F
def textsF (h : Head) (F : Int → Option ByteArray) : List ByteArray := textB h :: (ksF F).map fun (k : Nat) => (F k).getD ⟨#[]⟩
theorem pages_texts (h : Head) (F : Int → Option ByteArray) : (pagesF F).length = (textsF h F).length := by simp [pagesF, textsF]
theorem ksF_mem {F : Int → Option ByteArray} {k : Nat} : k ∈ ksF F ↔ k < 2000 ∧ (F k).isSome := by simp [ksF]
theorem ksF_len (F : Int → Option ByteArray) : (ksF F).length ≤ 2000 := by
  have := List.length_filter_le (fun (k : Nat) => (F k).isSome) (List.range 2000)
  simpa [ksF] using this
/-- What is changed may be: pages that there are, of a page's size. -/
def fineF (F : Int → Option ByteArray) : Prop := ∀ k s, F k = some s → 1 ≤ k ∧ k < 2000 ∧ s.size = 1024
theorem ksF_pos {F : Int → Option ByteArray} (hF : fineF F) {k : Nat} (h : k ∈ ksF F) : 1 ≤ k := by
  obtain ⟨_, h2⟩ := ksF_mem.1 h
  obtain ⟨s, hs⟩ := Option.isSome_iff_exists.1 h2
  have := (hF _ _ hs).1
  omega
theorem ksF_len' {F : Int → Option ByteArray} (hF : fineF F) : (ksF F).length ≤ 1999 := by
  have e : List.range 2000 = 0 :: (List.range 1999).map Nat.succ := List.range_succ_eq_map
  have h0 : (F ((0 : Nat) : Int)).isSome = false := by
    cases h : F ((0 : Nat) : Int) with
    | none => rfl
    | some s => have := (hF _ _ h).1; omega
  have := List.length_filter_le (fun (k : Nat) => (F k).isSome) ((List.range 1999).map Nat.succ)
  unfold ksF
  rw [e, List.filter_cons_of_neg (by rw [h0]; decide)]
  simpa using this
theorem textsF_sz {F : Int → Option ByteArray} (hF : fineF F) (h : Head) : ∀ s ∈ textsF h F, s.size = 1024 := by
  intro s hs
  rcases List.mem_cons.1 hs with rfl | hs
  · exact textB_sz h
  · obtain ⟨k, hk, rfl⟩ := List.mem_map.1 hs
    obtain ⟨u, hu⟩ := Option.isSome_iff_exists.1 (ksF_mem.1 hk).2
    rw [hu]
    exact (hF _ _ hu).2.2
/-- The writes to the log, and to the places. -/
def logsE (ps : List Nat) (l : List ByteArray) : List (Nat × ByteArray) := (List.range l.length).map (fun i => (2001 + i, l.getD i ⟨#[]⟩)) ++ [(2000, noteB ps l)]
def settleE (ps : List Nat) (l : List ByteArray) : List (Nat × ByteArray) := ps.zip l ++ [(2000, zerosB)]
def commitE (h : Head) (F : Int → Option ByteArray) : List (Nat × ByteArray) := logsE (pagesF F) (textsF h F) ++ settleE (pagesF F) (textsF h F)
theorem logsE_ok {ps : List Nat} {l : List ByteArray} (hl : l.length ≤ 2000) (hs : ∀ s ∈ l, s.size = 1024) : okE (logsE ps l) := by
  refine okE_append (fun x hx => ?_) (fun x hx => ?_)
  · obtain ⟨i, hi, rfl⟩ := List.mem_map.1 hx
    have hi2 := List.mem_range.1 hi
    refine ⟨by show 2001 + i < 4001; omega, ?_⟩
    show (l.getD i ⟨#[]⟩).size = 1024
    rw [List.getD_eq_getElem?_getD, List.getElem?_eq_getElem hi2]
    exact hs _ (List.getElem_mem _)
  · rw [List.mem_singleton.1 hx]
    exact ⟨by show 2000 < 4001; omega, noteB_sz _ _⟩
theorem settleE_ok {ps : List Nat} {l : List ByteArray} (hp : ∀ k ∈ ps, k < 2000) (hs : ∀ s ∈ l, s.size = 1024) : okE (settleE ps l) := by
  refine okE_append (fun x hx => ?_) (fun x hx => ?_)
  · obtain ⟨h1, h2⟩ := List.of_mem_zip (show (x.1, x.2) ∈ ps.zip l from hx)
    exact ⟨by have := hp _ h1; omega, hs _ h2⟩
  · rw [List.mem_singleton.1 hx]
    exact ⟨by show 2000 < 4001; omega, zerosB_sz⟩
theorem pagesF_lt {F : Int → Option ByteArray} : ∀ k ∈ pagesF F, k < 2000 := by
  intro k hk
  rcases List.mem_cons.1 hk with rfl | hk
  · omega
  · exact (ksF_mem.1 hk).1
theorem commitE_ok {F : Int → Option ByteArray} (hF : fineF F) (h : Head) : okE (commitE h F) :=
  okE_append (logsE_ok (by rw [← pages_texts]; have := ksF_len' hF; simp [pagesF]; omega) (textsF_sz hF h)) (settleE_ok pagesF_lt (textsF_sz hF h))
theorem commitE_len {F : Int → Option ByteArray} (hF : fineF F) (h : Head) : (commitE h F).length ≤ 4002 := by
  have h1 := ksF_len' hF
  have h2 := pages_texts h F
  have h3 : (pagesF F).length = (ksF F).length + 1 := by simp [pagesF]
  simp only [commitE, logsE, settleE, List.length_append, List.length_map, List.length_range, List.length_zip, List.length_cons, List.length_nil]
  omega
/-- What the log says. -/
def logBit (l : List UInt8) (k : Nat) : Bool := (l.getD (2 + k / 8) 0).toNat / 2 ^ (k % 8) % 2 == 1
def logPs (pg : Nat → ByteArray) : List Nat := (List.range 2000).filter (logBit (pgGet pg 2000).data.toList)
def logLs (pg : Nat → ByteArray) : List ByteArray := (List.range (logPs pg).length).map fun i => pgGet pg (2001 + i)
def loggedP (pg : Nat → ByteArray) : List Nat := if noteB (logPs pg) (logLs pg) = pgGet pg 2000 then logPs pg else []
def loggedL (pg : Nat → ByteArray) : List ByteArray := if noteB (logPs pg) (logLs pg) = pgGet pg 2000 then logLs pg else []
theorem logged_len (pg : Nat → ByteArray) : (loggedP pg).length = (loggedL pg).length := by
  unfold loggedP loggedL
  split
  · simp [logLs]
  · rfl
theorem logPs_len (pg : Nat → ByteArray) : (logPs pg).length ≤ 2000 := by
  have := List.length_filter_le (logBit (pgGet pg 2000).data.toList) (List.range 2000)
  simpa [logPs] using this
theorem loggedP_lt (pg : Nat → ByteArray) : ∀ k ∈ loggedP pg, k < 2000 := by
  intro k hk
  unfold loggedP at hk
  split at hk
  · exact List.mem_range.1 (List.mem_filter.1 hk).1
  · cases hk
theorem loggedL_sz {d : Dk} (h : d.whole) : ∀ s ∈ loggedL d.pg, s.size = 1024 := by
  intro s hs
  unfold loggedL at hs
  split at hs
  · obtain ⟨i, hi, rfl⟩ := List.mem_map.1 hs
    have := List.mem_range.1 hi
    have := logPs_len d.pg
    exact h _ (by omega)
  · cases hs
/-- What Open does to the disk. -/
def openE (pg : Nat → ByteArray) : List (Nat × ByteArray) := if loggedP pg = [] then [] else settleE (loggedP pg) (loggedL pg)
theorem openE_ok {d : Dk} (h : d.whole) : okE (openE d.pg) := by
  unfold openE
  split
  · intro x hx; cases hx
  · exact settleE_ok (loggedP_lt d.pg) (loggedL_sz h)
theorem openE_len (pg : Nat → ByteArray) : (openE pg).length ≤ 2001 := by
  have h1 := logPs_len pg
  have h2 := logged_len pg
  have h3 : (loggedP pg).length ≤ (logPs pg).length := by
    unfold loggedP
    split
    · exact Nat.le_refl _
    · exact Nat.zero_le _
  unfold openE
  split
  · exact Nat.zero_le _
  · simp only [settleE, List.length_append, List.length_zip, List.length_cons, List.length_nil]
    omega
/-- The head that a disk has. -/
def headD (pg : Nat → ByteArray) : Head := readsF (pgGet pg 0).data.toList
end Go.Proofs.YtcdoeninajpbmaaGreatDoor
