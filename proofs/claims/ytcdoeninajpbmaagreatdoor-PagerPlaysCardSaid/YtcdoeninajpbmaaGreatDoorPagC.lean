/-
  A pager's disk when the power goes off, as plain data.
-/
import Derived.Test.YtcdoeninajpbmaaGreatDoorPagQ
namespace Go.Proofs.YtcdoeninajpbmaaGreatDoor
open Go Go.RowKit

def putsP (pg : Nat → ByteArray) (l : List (Nat × ByteArray)) : Nat → ByteArray := l.foldl (fun p x => pgPut p x.1 x.2) pg
theorem wrD_fst (d : Dk) (k : Nat) (s : ByteArray) : (wrD d k s).1 = d.on := by
  unfold wrD
  split
  · rename_i h
    exact h.symm
  · rename_i h
    exact (Bool.not_eq_true _ ▸ h : d.on = false).symm
theorem wrD_pg {d : Dk} (h : d.on = true) (k : Nat) (s : ByteArray) : (wrD d k s).2.pg = pgPut d.pg k s := by unfold wrD; rw [if_pos h]
theorem wrD_cut (d : Dk) (k : Nat) (s : ByteArray) : (wrD d k s).2.cut = d.cut := by
  unfold wrD
  split <;> rfl
theorem wrsD_pg : ∀ (l : List (Nat × ByteArray)) {d : Dk}, (wrsD d l).1 = true → (wrsD d l).2.pg = putsP d.pg l
  | [], _, _ => rfl
  | x :: l, d, h => by
    rw [wrsD_cons] at h ⊢
    cases hon : (wrD d x.1 x.2).1
    · rw [hon] at h
      exact absurd h Bool.false_ne_true
    · rw [hon, if_pos rfl] at h
      rw [if_pos rfl, wrsD_pg l h, wrD_pg (by rw [← wrD_fst d x.1 x.2]; exact hon)]
      rfl
/-- Where a write fails. -/
theorem wrsD_fail : ∀ (l : List (Nat × ByteArray)) {d : Dk}, (wrsD d l).1 = false → ∃ a x b e, l = a ++ x :: b ∧ wrsD d a = (true, e) ∧ (wrsD d l).2.pg = pgPut e.pg x.1 (tearS x.2 (pgGet e.pg x.1) (clampT e.torn))
  | [], _, h => by cases h
  | x :: l, d, h => by
    cases hon : (wrD d x.1 x.2).1
    · refine ⟨[], x, l, d, rfl, rfl, ?_⟩
      rw [wrsD_cons, hon]
      have h2 : d.on = false := by rw [← wrD_fst d x.1 x.2]; exact hon
      show (wrD d x.1 x.2).2.pg = _
      unfold wrD
      rw [h2]
      rfl
    · rw [wrsD_cons, hon, if_pos rfl] at h
      obtain ⟨a, y, b, e, h1, h2, h3⟩ := wrsD_fail l h
      refine ⟨x :: a, y, b, e, by rw [h1]; rfl, ?_, ?_⟩
      · rw [wrsD_cons, hon, if_pos rfl]
        exact h2
      · rw [wrsD_cons, hon, if_pos rfl]
        exact h3
theorem pgGet_other (pg : Nat → ByteArray) {k i : Nat} (h : i ≠ k) (s : ByteArray) : pgGet (pgPut pg k s) i = pgGet pg i := by
  unfold pgGet pgPut
  rw [if_neg h]
theorem puts_out : ∀ (l : List (Nat × ByteArray)) (pg : Nat → ByteArray) (i : Nat), (∀ x ∈ l, x.1 ≠ i) → pgGet (putsP pg l) i = pgGet pg i
  | [], _, _, _ => rfl
  | x :: l, pg, i, h => by
    show pgGet (putsP (pgPut pg x.1 x.2) l) i = _
    rw [puts_out l _ i (fun y hy => h y (by simp [hy])), pgGet_other _ (fun e => h x (by simp) e.symm)]
theorem puts_in : ∀ (l : List (Nat × ByteArray)) (pg : Nat → ByteArray), okE l → (l.map Prod.fst).Nodup → ∀ x ∈ l, pgGet (putsP pg l) x.1 = x.2
  | [], _, _, _, _, h => by cases h
  | y :: l, pg, hl, hn, x, hx => by
    rw [List.map_cons, List.nodup_cons] at hn
    show pgGet (putsP (pgPut pg y.1 y.2) l) x.1 = _
    rcases List.mem_cons.1 hx with rfl | hx
    · rw [puts_out l _ _ (fun z hz e => hn.1 (List.mem_map.2 ⟨z, hz, e⟩)), pgGet_pgPut (hl _ (by simp)).2, if_pos rfl]
    · exact puts_in l _ (fun z hz => hl z (by simp [hz])) hn.2 x hx
theorem putsP_append (pg : Nat → ByteArray) (a b : List (Nat × ByteArray)) : putsP pg (a ++ b) = putsP (putsP pg a) b := List.foldl_append
/-- The pages that rise. -/
def rises (ps : List Nat) : Prop := ps = (List.range 2000).filter ps.contains
theorem rises.nodup {ps : List Nat} (h : rises ps) : ps.Nodup := by
  rw [h]
  exact List.Pairwise.filter _ List.nodup_range
theorem rises.lt {ps : List Nat} (h : rises ps) {k : Nat} (hk : k ∈ ps) : k < 2000 := by
  rw [h] at hk
  exact List.mem_range.1 (List.mem_filter.1 hk).1
theorem rises.len {ps : List Nat} (h : rises ps) : ps.length ≤ 2000 := by
  have := List.length_filter_le ps.contains (List.range 2000)
  rw [← h] at this
  simpa using this
theorem filter_congr' {p q : Nat → Bool} {l : List Nat} (h : ∀ k ∈ l, p k = q k) : l.filter p = l.filter q := List.filter_congr h
theorem pagesF_eq {F : Int → Option ByteArray} (hF : fineF F) : pagesF F = (List.range 2000).filter fun (k : Nat) => k == 0 || (F k).isSome := by
  have e : List.range 2000 = 0 :: (List.range 1999).map Nat.succ := List.range_succ_eq_map
  have h0 : (F ((0 : Nat) : Int)).isSome = false := by
    cases h : F ((0 : Nat) : Int) with
    | none => rfl
    | some s => have := (hF _ _ h).1; omega
  have hR : ∀ k ∈ (List.range 1999).map Nat.succ, k ≠ 0 := fun k hk => by
    obtain ⟨j, _, rfl⟩ := List.mem_map.1 hk
    exact Nat.succ_ne_zero j
  unfold pagesF ksF
  generalize (List.range 1999).map Nat.succ = R at e hR
  generalize List.range 2000 = Q at e
  subst e
  rw [List.filter_cons_of_neg (by rw [h0]; exact Bool.false_ne_true), List.filter_cons_of_pos (by rfl)]
  congr 1
  refine filter_congr' fun k hk => ?_
  have hk0 : (k == 0) = false := by simpa using hR k hk
  rw [hk0, Bool.false_or]
theorem pagesF_mem {F : Int → Option ByteArray} (hF : fineF F) {k : Nat} : k ∈ pagesF F ↔ k < 2000 ∧ (k = 0 ∨ (F k).isSome) := by
  rw [pagesF_eq hF, List.mem_filter, List.mem_range]
  simp
theorem pagesF_rises {F : Int → Option ByteArray} (hF : fineF F) : rises (pagesF F) := by
  unfold rises
  conv => lhs; rw [pagesF_eq hF]
  refine filter_congr' fun k hk => ?_
  rw [Bool.eq_iff_iff, List.contains_iff_mem, pagesF_mem hF]
  have := List.mem_range.1 hk
  simp [this]
theorem zip_map_self {α β : Type} (f : α → β) : ∀ l : List α, l.zip (l.map f) = l.map fun x => (x, f x)
  | [] => rfl
  | x :: l => by rw [List.map_cons, List.zip_cons_cons, zip_map_self f l, List.map_cons]
theorem zip_fst {α β : Type} : ∀ (l : List α) (m : List β), l.length = m.length → (l.zip m).map Prod.fst = l
  | [], _, _ => rfl
  | x :: l, [], h => by cases h
  | x :: l, y :: m, h => by rw [List.zip_cons_cons, List.map_cons, zip_fst l m (Nat.succ.inj h)]
/-- The first two bytes of a note. -/
theorem note_count {ps : List Nat} (h : ps.length < 65536) (l : List (List UInt8)) : fromF (noteF ps l) 0 = (ps.length : Int) := by
  have e : noteF ps l = [] ++ (two8 (ps.length : Int) ++ ((mapF fun i => ps.contains i) ++ sumF (noteHead ps :: l) ++ List.replicate (1024 - (noteHead ps ++ sumF (noteHead ps :: l)).length) 0)) := by
    unfold noteF fillF
    conv => lhs; unfold noteHead
    simp [List.append_assoc, noteHead]
  have := two8_from (ps.length : Int) (by omega) (by omega) [] ((mapF fun i => ps.contains i) ++ sumF (noteHead ps :: l) ++ List.replicate (1024 - (noteHead ps ++ sumF (noteHead ps :: l)).length) 0)
  rw [← e] at this
  exact this
theorem note_bit (ps : List Nat) (l : List (List UInt8)) {k : Nat} (hk : k < 2000) : logBit (noteF ps l) k = ps.contains k := by
  have hq : k / 8 < 250 := by omega
  have e : (noteF ps l).getD (2 + k / 8) 0 = (bits8 (fun i => ps.contains i) (8 * (k / 8)) 8).toUInt8 := by
    unfold noteF fillF
    rw [List.getD_eq_getElem?_getD, List.getElem?_append_left (by rw [List.length_append, noteHead_len]; omega), List.getElem?_append_left (by rw [noteHead_len]; omega)]
    unfold noteHead
    rw [List.getElem?_append_right (by show 2 ≤ _; omega)]
    show (((mapF fun i => ps.contains i)[2 + k / 8 - 2]?).getD 0) = _
    rw [Nat.add_sub_cancel_left]
    simp [mapF, hq]
  have hlt := bits8_lt (fun i => ps.contains i) (8 * (k / 8)) 8
  have hn : (bits8 (fun i => ps.contains i) (8 * (k / 8)) 8).toUInt8.toNat = bits8 (fun i => ps.contains i) (8 * (k / 8)) 8 := by
    show _ % 256 = _
    exact Nat.mod_eq_of_lt hlt
  unfold logBit
  rw [e, hn, bits8_bit _ (8 * (k / 8)) 8 (k % 8) (by omega), show 8 * (k / 8) + k % 8 = k by omega]
  cases ps.contains k <;> rfl
theorem zeros_getD (j : Nat) : zerosB.data.toList.getD j 0 = 0 := by
  rw [zerosB_fill]
  unfold fillF
  rw [List.nil_append, List.getD_eq_getElem?_getD, List.getElem?_replicate]
  split <;> rfl
theorem tear_getD {s old : ByteArray} (hs : s.size = 1024) (_ : old.size = 1024) {n : Nat} (hn : n ≤ 1024) (j : Nat) : (tearS s old n).data.toList.getD j 0 = if j < n then s.data.toList.getD j 0 else old.data.toList.getD j 0 := by
  show ((tearB s old n).toArray.toList).getD j 0 = _
  rw [List.toList_toArray]
  unfold tearB
  have h1 : (s.data.toList.take n).length = n := by rw [List.length_take, ← size_data]; omega
  rw [List.getD_eq_getElem?_getD]
  split
  · rename_i h
    rw [List.getElem?_append_left (by omega), List.getElem?_take_of_lt h, ← List.getD_eq_getElem?_getD]
  · rename_i h
    rw [List.getElem?_append_right (by omega), List.getElem?_drop, h1, show n + (j - n) = j by omega, ← List.getD_eq_getElem?_getD]
theorem logged_none {pg : Nat → ByteArray} (h : logPs pg = []) : loggedP pg = [] := by
  unfold loggedP
  rw [h]
  split <;> rfl
theorem logPs_none {pg : Nat → ByteArray} (h : ∀ j, 2 ≤ j → (pgGet pg 2000).data.toList.getD j 0 = 0) : logPs pg = [] := by
  unfold logPs
  rw [List.filter_eq_nil_iff]
  intro k _ hb
  unfold logBit at hb
  rw [h _ (by omega)] at hb
  simp at hb
theorem logged_zeros {pg : Nat → ByteArray} (h : pgGet pg 2000 = zerosB) : loggedP pg = [] := logged_none (logPs_none fun j _ => by rw [h]; exact zeros_getD j)
theorem noteB_list (ps : List Nat) (L : List ByteArray) : (noteB ps L).data.toList = noteF ps (datas L) := ba_eta _
/-- The log's pages. -/
def logPages (pg : Nat → ByteArray) (L : List ByteArray) : Prop := ∀ i (h : i < L.length), pgGet pg (2001 + i) = L[i]
theorem logLs_of {pg : Nat → ByteArray} {ps : List Nat} {L : List ByteArray} (hl : ps.length = L.length) (hp : logPages pg L) (h : logPs pg = ps) : logLs pg = L := by
  unfold logLs
  rw [h, hl]
  refine List.ext_getElem (by simp) fun i h1 h2 => ?_
  rw [List.getElem_map, List.getElem_range]
  exact hp i h2
theorem logPs_bits {pg : Nat → ByteArray} {ps : List Nat} (hr : rises ps) (h : ∀ k, k < 2000 → logBit (pgGet pg 2000).data.toList k = ps.contains k) : logPs pg = ps := by
  unfold logPs
  rw [filter_congr' (q := ps.contains) fun k hk => h k (List.mem_range.1 hk)]
  exact hr.symm
theorem logged_whole {pg : Nat → ByteArray} {ps : List Nat} {L : List ByteArray} (hr : rises ps) (hl : ps.length = L.length) (hp : logPages pg L) (hn : pgGet pg 2000 = noteB ps L) : loggedP pg = ps ∧ loggedL pg = L := by
  have h1 : logPs pg = ps := logPs_bits hr fun k hk => by rw [hn, noteB_list, note_bit _ _ hk]
  have h2 := logLs_of hl hp h1
  unfold loggedP loggedL
  rw [h1, h2, if_pos hn.symm, if_pos hn.symm]
  exact ⟨rfl, rfl⟩
/-- Where the count in front is not that of the pages, there is no log. -/
theorem logged_count {pg : Nat → ByteArray} (h : loggedP pg ≠ []) : noteB (logPs pg) (logLs pg) = pgGet pg 2000 ∧ fromF (pgGet pg 2000).data.toList 0 = ((logPs pg).length : Int) ∧ logPs pg ≠ [] := by
  have h1 : noteB (logPs pg) (logLs pg) = pgGet pg 2000 := by
    apply Classical.byContradiction
    intro e
    unfold loggedP at h
    rw [if_neg e] at h
    exact h rfl
  refine ⟨h1, ?_, fun e => h (logged_none e)⟩
  rw [← h1, noteB_list]
  exact note_count (by have := logPs_len pg; omega) _
theorem torn_note {pg : Nat → ByteArray} {ps : List Nat} {L : List ByteArray} (hr : rises ps) (hl : ps.length = L.length) (hp : logPages pg L) {t : Nat} (ht : t ≤ 1024) (hn : pgGet pg 2000 = tearS (noteB ps L) zerosB t) : loggedP pg = [] ∨ pgGet pg 2000 = noteB ps L := by
  have hg : ∀ j, (pgGet pg 2000).data.toList.getD j 0 = if j < t then (noteF ps (datas L)).getD j 0 else 0 := fun j => by
    rw [hn, tear_getD (noteB_sz _ _) zerosB_sz ht, noteB_list, zeros_getD]
  by_cases h2 : t < 2
  · refine .inl (logged_none (logPs_none fun j hj => ?_))
    rw [hg, if_neg (by omega)]
  · by_cases h0 : loggedP pg = []
    · exact .inl h0
    · obtain ⟨h1, h3, _⟩ := logged_count h0
      have h4 : fromF (pgGet pg 2000).data.toList 0 = (ps.length : Int) := by
        rw [← note_count (ps := ps) (by have := hr.len; omega) (datas L)]
        unfold fromF
        rw [hg, hg, if_pos (by omega), if_pos (by omega)]
      have h5 : (logPs pg).length = ps.length := by omega
      have h6 : ∀ k, k < 2000 → logBit (pgGet pg 2000).data.toList k = true → ps.contains k = true := fun k hk hb => by
        rw [← note_bit ps (datas L) hk]
        unfold logBit at hb ⊢
        rw [hg] at hb
        split at hb
        · exact hb
        · simp at hb
      have h7 : logPs pg = ps.filter (logBit (pgGet pg 2000).data.toList) := by
        conv => rhs; rw [hr, List.filter_filter]
        refine filter_congr' fun k hk => ?_
        have := h6 k (List.mem_range.1 hk)
        cases hb : logBit (pgGet pg 2000).data.toList k
        · rfl
        · rw [this hb]
          rfl
      have h8 : logPs pg = ps := by
        rw [h7] at h5 ⊢
        exact List.filter_eq_self.2 (List.length_filter_eq_length_iff.1 h5)
      rw [h8, logLs_of hl hp h8] at h1
      exact .inr h1.symm
theorem torn_zero {pg : Nat → ByteArray} {ps : List Nat} {L : List ByteArray} (hr : rises ps) (hl : ps.length = L.length) (hp : logPages pg L) {t : Nat} (ht : t ≤ 1024) (hn : pgGet pg 2000 = tearS zerosB (noteB ps L) t) : loggedP pg = [] ∨ pgGet pg 2000 = noteB ps L := by
  have hg : ∀ j, (pgGet pg 2000).data.toList.getD j 0 = if j < t then 0 else (noteF ps (datas L)).getD j 0 := fun j => by
    rw [hn, tear_getD zerosB_sz (noteB_sz _ _) ht, noteB_list, zeros_getD]
  by_cases h2 : t < 2
  · have h8 : logPs pg = ps := logPs_bits hr fun k hk => by
      rw [← note_bit ps (datas L) hk]
      unfold logBit
      rw [hg, if_neg (by omega)]
    by_cases h0 : loggedP pg = []
    · exact .inl h0
    · obtain ⟨h1, _, _⟩ := logged_count h0
      rw [h8, logLs_of hl hp h8] at h1
      exact .inr h1.symm
  · by_cases h0 : loggedP pg = []
    · exact .inl h0
    · obtain ⟨h1, h3, h4⟩ := logged_count h0
      have h5 : fromF (pgGet pg 2000).data.toList 0 = 0 := by
        unfold fromF
        rw [hg, hg, if_pos (by omega), if_pos (by omega)]
        rfl
      refine absurd (List.length_eq_zero_iff.1 ?_) h4
      omega

/-- What a commit is about: the pages, their texts, and what the disk had. -/
structure Cm (ps : List Nat) (L : List ByteArray) : Prop where
  rise : rises ps
  len : ps.length = L.length
  size : ∀ s ∈ L, s.size = 1024
def newP (ps : List Nat) (L : List ByteArray) (pg0 : Nat → ByteArray) : Nat → ByteArray := putsP pg0 (ps.zip L)
/-- Nothing is committed. -/
def ClsA (pg0 pg : Nat → ByteArray) : Prop := loggedP pg = [] ∧ ∀ k, k < 2000 → pgGet pg k = pgGet pg0 k
/-- It stands in the log. -/
def ClsB (ps : List Nat) (L : List ByteArray) (pg0 pg : Nat → ByteArray) : Prop := logPages pg L ∧ pgGet pg 2000 = noteB ps L ∧ ∀ k, k < 2000 → k ∉ ps → pgGet pg k = pgGet pg0 k
/-- It stands in its places. -/
def ClsC (ps : List Nat) (L : List ByteArray) (pg0 pg : Nat → ByteArray) : Prop := loggedP pg = [] ∧ ∀ k, k < 2000 → pgGet pg k = pgGet (newP ps L pg0) k
theorem zip_mem {ps : List Nat} {L : List ByteArray} {x : Nat × ByteArray} (h : x ∈ ps.zip L) : x.1 ∈ ps ∧ x.2 ∈ L := List.of_mem_zip (show (x.1, x.2) ∈ ps.zip L from h)
theorem Cm.zipOk {ps : List Nat} {L : List ByteArray} (c : Cm ps L) : okE (ps.zip L) := fun x hx => ⟨by have := c.rise.lt (zip_mem hx).1; omega, c.size _ (zip_mem hx).2⟩
theorem newP_out {ps : List Nat} {L : List ByteArray} {pg0 : Nat → ByteArray} {k : Nat} (h : k ∉ ps) : pgGet (newP ps L pg0) k = pgGet pg0 k := puts_out _ _ _ fun _ hx e => h (e ▸ (zip_mem hx).1)
theorem Cm.newP_eq {ps : List Nat} {L : List ByteArray} (c : Cm ps L) {pg0 pg : Nat → ByteArray} {k : Nat} (h : k ∉ ps → pgGet pg k = pgGet pg0 k) : pgGet (newP ps L pg) k = pgGet (newP ps L pg0) k := by
  by_cases hk : k ∈ ps
  · have hf := zip_fst ps L c.len
    have hk2 : k ∈ (ps.zip L).map Prod.fst := by rw [hf]; exact hk
    obtain ⟨x, hx, rfl⟩ := List.mem_map.1 hk2
    have hnd : ((ps.zip L).map Prod.fst).Nodup := by rw [hf]; exact c.rise.nodup
    unfold newP
    rw [puts_in _ _ c.zipOk hnd x hx, puts_in _ _ c.zipOk hnd x hx]
  · rw [newP_out hk, newP_out hk, h hk]
/-- What is settled, or not. -/
theorem settle_crash {ps : List Nat} {L : List ByteArray} (c : Cm ps L) {pg0 : Nat → ByteArray} {d : Dk} (h : ClsB ps L pg0 d.pg) :
    ((wrsD d (settleE ps L)).1 = true → ClsC ps L pg0 (wrsD d (settleE ps L)).2.pg ∧ pgGet (wrsD d (settleE ps L)).2.pg 2000 = zerosB) ∧
    ((wrsD d (settleE ps L)).1 = false → ClsB ps L pg0 (wrsD d (settleE ps L)).2.pg ∨ ClsC ps L pg0 (wrsD d (settleE ps L)).2.pg) := by
  obtain ⟨h1, h2, h3⟩ := h
  have hz2 : ∀ x ∈ ps.zip L, x.1 < 2000 := fun x hx => c.rise.lt (zip_mem hx).1
  constructor
  · intro hon
    rw [wrsD_pg _ hon]
    have e : putsP d.pg (settleE ps L) = pgPut (newP ps L d.pg) 2000 zerosB := by
      unfold settleE
      rw [putsP_append]
      rfl
    rw [e]
    have e0 : pgGet (pgPut (newP ps L d.pg) 2000 zerosB) 2000 = zerosB := by rw [pgGet_pgPut zerosB_sz, if_pos rfl]
    refine ⟨⟨logged_zeros e0, fun k hk => ?_⟩, e0⟩
    rw [pgGet_other _ (by omega)]
    exact c.newP_eq (h3 k hk)
  · intro hoff
    obtain ⟨a, x, b, e, hab, ha, hpg⟩ := wrsD_fail _ hoff
    rw [hpg]
    have hepg : e.pg = putsP d.pg a := by
      have := wrsD_pg a (d := d) (by rw [ha])
      rw [ha] at this
      exact this
    -- the writes to the places, or the last one
    have hcase : (∃ b', ps.zip L = a ++ x :: b') ∨ (a = ps.zip L ∧ x = (2000, zerosB)) := by
      unfold settleE at hab
      rcases List.append_eq_append_iff.1 hab with ⟨m, hm1, hm2⟩ | ⟨m, hm1, hm2⟩
      · cases m with
        | nil =>
          refine .inr ⟨by rw [hm1]; simp, ?_⟩
          rw [List.nil_append, List.cons.injEq] at hm2
          exact hm2.1.symm
        | cons y m =>
          rw [List.cons_append, List.cons.injEq] at hm2
          have := congrArg List.length hm2.2
          simp at this
      · cases m with
        | nil =>
          rw [List.nil_append] at hm2
          rw [List.cons.injEq] at hm2
          exact .inr ⟨by rw [hm1]; simp, hm2.1⟩
        | cons y m =>
          rw [List.cons_append, List.cons.injEq] at hm2
          exact .inl ⟨m, by rw [hm1, hm2.1]⟩
    rcases hcase with ⟨b', hb'⟩ | ⟨rfl, rfl⟩
    · have hx : x ∈ ps.zip L := by rw [hb']; simp
      have hsub : ∀ y ∈ a, y ∈ ps.zip L := fun y hy => by rw [hb']; simp [hy]
      have hx2 := hz2 x hx
      left
      refine ⟨fun i hi => ?_, ?_, fun k hk hks => ?_⟩
      · rw [pgGet_other _ (by omega), hepg, puts_out _ _ _ (fun y hy => by have := hz2 y (hsub y hy); omega)]
        exact h1 i hi
      · rw [pgGet_other _ (by omega), hepg, puts_out _ _ _ (fun y hy => by have := hz2 y (hsub y hy); omega)]
        exact h2
      · rw [pgGet_other _ (fun h' => hks (by rw [h']; exact (zip_mem hx).1)), hepg, puts_out _ _ _ (fun y hy h' => hks (by rw [← h']; exact (zip_mem (hsub y hy)).1))]
        exact h3 k hk hks
    · have he2 : pgGet e.pg 2000 = noteB ps L := by
        rw [hepg, puts_out _ _ _ (fun y hy => by have := hz2 y hy; omega)]
        exact h2
      have hdat : ∀ k, k < 2000 → pgGet e.pg k = pgGet (newP ps L pg0) k := fun k hk => by
        rw [hepg]
        exact c.newP_eq (h3 k hk)
      show ClsB ps L pg0 (pgPut e.pg 2000 (tearS zerosB (pgGet e.pg 2000) (clampT e.torn))) ∨ ClsC ps L pg0 (pgPut e.pg 2000 (tearS zerosB (pgGet e.pg 2000) (clampT e.torn)))
      rw [he2]
      have htn := tearS_sz zerosB_sz (noteB_sz ps L) _ (clampT_le e.torn)
      have hlp : logPages (pgPut e.pg 2000 (tearS zerosB (noteB ps L) (clampT e.torn))) L := fun i hi => by
        rw [pgGet_other _ (by omega), hepg, puts_out _ _ _ (fun y hy => by have := hz2 y hy; omega)]
        exact h1 i hi
      rcases torn_zero c.rise c.len hlp (clampT_le e.torn) (by rw [pgGet_pgPut htn, if_pos rfl]) with h0 | h0
      · exact .inr ⟨h0, fun k hk => by rw [pgGet_other _ (by omega)]; exact hdat k hk⟩
      · refine .inl ⟨hlp, h0, fun k hk hks => ?_⟩
        rw [pgGet_other _ (by omega), hdat k hk, newP_out hks]
/-- A commit, whole or not. -/
theorem commit_crash {ps : List Nat} {L : List ByteArray} (c : Cm ps L) {d : Dk} (h0 : pgGet d.pg 2000 = zerosB) :
    ((wrsD d (logsE ps L ++ settleE ps L)).1 = true → ClsC ps L d.pg (wrsD d (logsE ps L ++ settleE ps L)).2.pg ∧ pgGet (wrsD d (logsE ps L ++ settleE ps L)).2.pg 2000 = zerosB) ∧
    ((wrsD d (logsE ps L ++ settleE ps L)).1 = false → ClsA d.pg (wrsD d (logsE ps L ++ settleE ps L)).2.pg ∨ ClsB ps L d.pg (wrsD d (logsE ps L ++ settleE ps L)).2.pg ∨ ClsC ps L d.pg (wrsD d (logsE ps L ++ settleE ps L)).2.pg) := by
  have hlk : ∀ x ∈ (List.range L.length).map (fun i => (2001 + i, L.getD i ⟨#[]⟩)), 2000 < x.1 := fun x hx => by
    obtain ⟨i, _, rfl⟩ := List.mem_map.1 hx
    show 2000 < 2001 + i
    omega
  have hln : L.length ≤ 2000 := by rw [← c.len]; exact c.rise.len
  have hlok : okE ((List.range L.length).map (fun i => (2001 + i, L.getD i ⟨#[]⟩))) := fun x hx => (logsE_ok (ps := ps) hln c.size) x (by unfold logsE; exact List.mem_append_left _ hx)
  have hpages : ∀ pg, logPages (putsP pg ((List.range L.length).map (fun i => (2001 + i, L.getD i ⟨#[]⟩)))) L := fun pg i hi => by
    have hm : (2001 + i, L[i]) ∈ (List.range L.length).map (fun i => (2001 + i, L.getD i ⟨#[]⟩)) := List.mem_map.2 ⟨i, List.mem_range.2 hi, by rw [List.getD_eq_getElem?_getD, List.getElem?_eq_getElem hi]; rfl⟩
    refine puts_in _ pg hlok ?_ _ hm
    rw [List.map_map]
    show List.Pairwise _ _
    rw [List.pairwise_map]
    refine List.Pairwise.imp (fun {a b} (hab : a ≠ b) => ?_) List.nodup_range
    show 2001 + a ≠ 2001 + b
    omega
  cases hlog : (wrsD d (logsE ps L)).1
  · have e : (wrsD d (logsE ps L ++ settleE ps L)) = (false, (wrsD d (logsE ps L)).2) := by rw [wrsD_append, hlog]; rfl
    rw [e]
    refine ⟨fun h => absurd h Bool.false_ne_true, fun _ => ?_⟩
    obtain ⟨a, x, b, e, hab, ha, hpg⟩ := wrsD_fail _ hlog
    show ClsA d.pg (wrsD d (logsE ps L)).2.pg ∨ _
    rw [hpg]
    have hepg : e.pg = putsP d.pg a := by
      have := wrsD_pg a (d := d) (by rw [ha])
      rw [ha] at this
      exact this
    have hcase : (∃ b', (List.range L.length).map (fun i => (2001 + i, L.getD i ⟨#[]⟩)) = a ++ x :: b') ∨ (a = (List.range L.length).map (fun i => (2001 + i, L.getD i ⟨#[]⟩)) ∧ x = (2000, noteB ps L)) := by
      unfold logsE at hab
      rcases List.append_eq_append_iff.1 hab with ⟨m, hm1, hm2⟩ | ⟨m, hm1, hm2⟩
      · cases m with
        | nil =>
          refine .inr ⟨by rw [hm1]; simp, ?_⟩
          rw [List.nil_append, List.cons.injEq] at hm2
          exact hm2.1.symm
        | cons y m =>
          rw [List.cons_append, List.cons.injEq] at hm2
          have := congrArg List.length hm2.2
          simp at this
      · cases m with
        | nil =>
          rw [List.nil_append] at hm2
          rw [List.cons.injEq] at hm2
          exact .inr ⟨by rw [hm1]; simp, hm2.1⟩
        | cons y m =>
          rw [List.cons_append, List.cons.injEq] at hm2
          exact .inl ⟨m, by rw [hm1, hm2.1]⟩
    rcases hcase with ⟨b', hb'⟩ | ⟨rfl, rfl⟩
    · have hx := hlk x (by rw [hb']; simp)
      have hsub : ∀ y ∈ a, 2000 < y.1 := fun y hy => hlk y (by rw [hb']; simp [hy])
      refine .inl ⟨logged_zeros ?_, fun k hk => ?_⟩
      · rw [pgGet_other _ (by omega), hepg, puts_out _ _ _ (fun y hy => by have := hsub y hy; omega)]
        exact h0
      · rw [pgGet_other _ (by omega), hepg, puts_out _ _ _ (fun y hy => by have := hsub y hy; omega)]
    · have he2 : pgGet e.pg 2000 = zerosB := by
        rw [hepg, puts_out _ _ _ (fun y hy => by have := hlk y hy; omega)]
        exact h0
      have hdat : ∀ k, k < 2000 → pgGet e.pg k = pgGet d.pg k := fun k hk => by rw [hepg, puts_out _ _ _ (fun y hy => by have := hlk y hy; omega)]
      show ClsA d.pg (pgPut e.pg 2000 (tearS (noteB ps L) (pgGet e.pg 2000) (clampT e.torn))) ∨ ClsB ps L d.pg (pgPut e.pg 2000 (tearS (noteB ps L) (pgGet e.pg 2000) (clampT e.torn))) ∨ ClsC ps L d.pg (pgPut e.pg 2000 (tearS (noteB ps L) (pgGet e.pg 2000) (clampT e.torn)))
      rw [he2]
      have htn := tearS_sz (noteB_sz ps L) zerosB_sz _ (clampT_le e.torn)
      have hlp : logPages (pgPut e.pg 2000 (tearS (noteB ps L) zerosB (clampT e.torn))) L := fun i hi => by
        rw [pgGet_other _ (by omega), hepg]
        exact hpages _ i hi
      rcases torn_note c.rise c.len hlp (clampT_le e.torn) (by rw [pgGet_pgPut htn, if_pos rfl]) with h1 | h1
      · exact .inl ⟨h1, fun k hk => by rw [pgGet_other _ (by omega)]; exact hdat k hk⟩
      · refine .inr (.inl ⟨hlp, h1, fun k hk _ => ?_⟩)
        rw [pgGet_other _ (by omega), hdat k hk]
  · have e : (wrsD d (logsE ps L ++ settleE ps L)) = wrsD (wrsD d (logsE ps L)).2 (settleE ps L) := by rw [wrsD_append, hlog]; rfl
    have hB : ClsB ps L d.pg (wrsD d (logsE ps L)).2.pg := by
      rw [wrsD_pg _ hlog]
      unfold logsE
      rw [putsP_append]
      show ClsB ps L d.pg (pgPut (putsP d.pg _) 2000 (noteB ps L))
      refine ⟨fun i hi => ?_, ?_, fun k hk _ => ?_⟩
      · rw [pgGet_other _ (by omega)]
        exact hpages _ i hi
      · rw [pgGet_pgPut (noteB_sz _ _), if_pos rfl]
      · rw [pgGet_other _ (by omega), puts_out _ _ _ (fun y hy => by have := hlk y hy; omega)]
    have := settle_crash c hB
    rw [e]
    exact ⟨this.1, fun h => .inr (this.2 h)⟩
/-- The pages of a commit. -/
theorem commit_cm {c : Ch} (hf : fineF c.F) : Cm (pagesF c.F) (textsF c.h c.F) := ⟨pagesF_rises hf, pages_texts _ _, textsF_sz hf c.h⟩
theorem commit_zip (c : Ch) : (pagesF c.F).zip (textsF c.h c.F) = (0, textB c.h) :: (ksF c.F).map fun (k : Nat) => (k, (c.F k).getD ⟨#[]⟩) := by
  unfold pagesF textsF
  rw [List.zip_cons_cons, zip_map_self]
theorem commit_new {c : Ch} (hf : fineF c.F) (pg : Nat → ByteArray) : pgGet (newP (pagesF c.F) (textsF c.h c.F) pg) 0 = textB c.h ∧ ∀ k : Nat, 1 ≤ k → k < 2000 → pgGet (newP (pagesF c.F) (textsF c.h c.F) pg) k = pageNow pg c.F k := by
  have cm := commit_cm hf
  have hf' := zip_fst _ _ cm.len
  have hnd : (((pagesF c.F).zip (textsF c.h c.F)).map Prod.fst).Nodup := by rw [hf']; exact cm.rise.nodup
  refine ⟨puts_in _ pg cm.zipOk hnd (0, textB c.h) (by rw [commit_zip]; exact List.mem_cons_self), fun k h1 h2 => ?_⟩
  unfold pageNow
  cases hF : c.F (k : Int) with
  | some s =>
    have hm : (k, s) ∈ (pagesF c.F).zip (textsF c.h c.F) := by
      rw [commit_zip]
      refine List.mem_cons_of_mem _ (List.mem_map.2 ⟨k, ksF_mem.2 ⟨h2, by rw [hF]; rfl⟩, by rw [hF]; rfl⟩)
    exact puts_in _ pg cm.zipOk hnd (k, s) hm
  | none =>
    refine newP_out fun hk => ?_
    have := (pagesF_mem hf).1 hk
    rw [hF] at this
    rcases this.2 with h | h
    · omega
    · cases h
theorem head_same {h : Head} (hf : h.fine) {pg : Nat → ByteArray} (e : pgGet pg 0 = textB h) : (headD pg).same h := by
  unfold headD
  rw [e, show (textB h).data.toList = textF h from ba_eta _]
  exact reads_text hf
theorem pageNow_nil (pg : Nat → ByteArray) (k : Nat) : pageNow pg (fun _ => none) k = pgGet pg k := rfl
/-- What a pager has that is opened where it is settled. -/
theorem allT_settled {c : Ch} (hf : c.fine) {pg0 pg : Nat → ByteArray} (h : ∀ k, k < 2000 → pgGet pg k = pgGet (newP (pagesF c.F) (textsF c.h c.F) pg0) k) : allT (.new (headD pg)) pg = allT c pg0 := by
  have hn := commit_new hf.dirty pg0
  refine allT_eq (head_same hf.head (by rw [h 0 (by omega)]; exact hn.1)) fun k h1 h2 => ?_
  show pageNow pg (fun _ => none) k = _
  rw [pageNow_nil, h k h2]
  exact hn.2 k h1 h2
/-- And where nothing is. -/
theorem allT_old {h : Head} (hf : h.fine) {pg0 pg : Nat → ByteArray} (h0 : pgGet pg0 0 = textB h) (e : ∀ k, k < 2000 → pgGet pg k = pgGet pg0 k) : allT (.new (headD pg)) pg = allT (.new h) pg0 := by
  refine allT_eq (head_same hf (by rw [e 0 (by omega)]; exact h0)) fun k h1 h2 => ?_
  show pageNow pg (fun _ => none) k = pageNow pg0 (fun _ => none) k
  rw [pageNow_nil, pageNow_nil, e k h2]
/-- Behind a commit, all is as it was. -/
theorem allT_commit {c : Ch} (hf : c.fine) {pg0 pg : Nat → ByteArray} (h : ∀ k, k < 2000 → pgGet pg k = pgGet (newP (pagesF c.F) (textsF c.h c.F) pg0) k) : allT (.new c.h) pg = allT c pg0 := by
  have hn := commit_new hf.dirty pg0
  refine allT_eq (Head.same.refl _) fun k h1 h2 => ?_
  show pageNow pg (fun _ => none) k = _
  rw [pageNow_nil, h k h2]
  exact hn.2 k h1 h2
end Go.Proofs.YtcdoeninajpbmaaGreatDoor
