/-
  (*Tree).put puts as the plain function does.
-/
import Derived.Test.YtmjkalpjciddbaaTnS
import Derived.Test.YtmjkalpjciddbaaMg10
import Derived.Laws.EntriesVeiled
namespace Go.Proofs.Ytmjkalpjciddbaa
open Go Go.RowKit

def moreE {d : Nat} (o : Option (Option (ByteArray × T d))) : Option (Option En) := o.map (Option.map enN)
theorem splitL_res {X : Type} {en : ByteArray × X → En} (hkey : ∀ x, (en x).key = x.1) (leaf : Bool) (c : Ch) (p : Nat) (l old : List (ByteArray × X)) :
    splitE leaf c p (l.map en) = ((splitL en leaf c p l old).1, (splitL en leaf c p l old).2.2.map (Option.map fun m => ⟨m.1, noB, m.2.1⟩)) := by
  obtain ⟨h1, h2, h3, h4⟩ := splitL_E hkey leaf c p l old
  refine Prod.ext h1.symm ?_
  show (splitE leaf c p (l.map en)).2 = _
  rcases hr : (splitL en leaf c p l old).2.2 with _ | _ | m
  · exact h4 hr
  · exact h3 hr
  · exact h2 m hr
theorem keysE_L (l : List (ByteArray × ByteArray)) : keysE (l.map enL) = l.map Prod.fst := by
  unfold keysE
  rw [List.map_map]
  rfl
theorem keysE_N {d : Nat} (l : List (ByteArray × T d)) : keysE (l.map enN) = l.map Prod.fst := by
  unfold keysE
  rw [List.map_map]
  rfl
theorem putL_E (l : List (ByteArray × ByteArray)) (key item : ByteArray) : (putL l key item).map enL = if hitE (keysE (l.map enL)) key then (l.map enL).set (searchE (keysE (l.map enL)) key) ⟨key, item, 0⟩ else (l.map enL).insertIdx (searchE (keysE (l.map enL)) key) ⟨key, item, 0⟩ := by
  rw [keysE_L]
  unfold putL
  split
  · rw [List.map_set]
    rfl
  · rw [map_insertIdx']
    rfl
section
variable {PB DB M : Nat} {sv : Head} {t : Int} {dk : Dk}
theorem put_t {TP root : Nat} (hTn : TP ≠ PB ∧ TP ≠ DB ∧ TP ≠ M) (key item : ByteArray) (hk : key.size ≤ 60) (hi : item.size ≤ 100) : ∀ {d : Nat} {c : Ch} {x : T d} {w : World}, PgT w PB DB M c sv t dk → TreeAt w TP PB root → x.lays c dk.pg → x.okT → x.pages.Nodup →
    Calls Try.prog 41 #[.pointer (some ⟨TP, 0, none⟩), .int .i64 (x.pg : Int), .agg #[.string key, .string item, .int .i64 0]] w fun e w' => ∃ v, e = .returned v ∧ MoreAt w w' v (moreE (putT c x key item).2.2) ∧ PgT w' PB DB M (putT c x key item).1 sv t dk ∧ PgF PB DB M M w w'
  | 0, c, x, w, h, ht, hl, ho, hn => by
    obtain ⟨p, l⟩ : Nat × List (ByteArray × ByteArray) := x
    have hp := put_leaf h ht hTn (p := p) (l := l.map enL) hl ho.2.2 ho.2.1 key item hk hi
    rw [← putL_E, splitL_res (fun _ => rfl) true c p (putL l key item) l] at hp
    have e : putT c (d := 0) (p, l) key item = splitL enL true c p (putL l key item) l := by
      refine (putT.eq_1 c key item ((p, l) : Nat × List (ByteArray × ByteArray))).trans ?_
      rfl
    rw [e]
    exact hp
  | d + 1, c, t0, w, h, ht, hl, ho, hn => by
    obtain ⟨p, l⟩ : Nat × List (ByteArray × T d) := t0
    have hne : l.map Prod.fst ≠ [] := fun e => ho.1.1 (by
      have : l = [] := List.map_eq_nil_iff.1 e
      show l.map enN = []
      rw [this]
      rfl)
    have hdl := downE_lt hne key
    rw [List.length_map] at hdl
    obtain ⟨K, hK⟩ : ∃ K, downE (l.map Prod.fst) key = K := ⟨_, rfl⟩
    rw [hK] at hdl
    obtain ⟨x, hx⟩ : ∃ x, l[K]? = some x := ⟨_, List.getElem?_eq_getElem hdl⟩
    have hxe : l[K] = x := by
      rw [List.getElem?_eq_getElem hdl] at hx
      exact Option.some.inj hx
    have hxm : x ∈ l := List.mem_of_getElem? hx
    have hnd : (p :: l.flatMap fun y => y.2.pages).Nodup := hn
    obtain ⟨n1, n2⟩ := List.nodup_cons.1 hnd
    have hlx : x.2.lays c dk.pg := hl.2 x hxm
    have hox : x.2.okT := ho.2 x hxm
    have hnx : x.2.pages.Nodup := by
      obtain ⟨l1, l2, hle, _⟩ := at_split hx
      rw [hle, List.flatMap_append, List.flatMap_cons] at n2
      exact (List.nodup_append.1 (List.nodup_append.1 n2).2.1).1
    have hpx : p ∉ x.2.pages := fun e => n1 (List.mem_flatMap.2 ⟨x, hxm, e⟩)
    have ih := putT_ok (pg := dk.pg) hk hi h.f hlx hox hnx
    have iw := fun W (g : Gr w W) => put_t hTn key item hk hi (h.gr g) (ht.gr g) hlx hox hnx
    have heq : putT c (d := d + 1) (p, l) key item = match putT c x.2 key item with
      | (c1, u, none) => (c1, (p, l.set K (x.1, u)), none)
      | (c1, u, some none) => splitL (X := T d) enN false c1 p (l.set K (x.1, u)) (l.set K (x.1, u))
      | (c1, u, some (some m)) => splitL (X := T d) enN false c1 p ((l.set K (x.1, u)).insertIdx (K + 1) m) (l.set K (x.1, u)) := by
      refine (putT.eq_2 c key item d ((p, l) : Nat × List (ByteArray × T d))).trans ?_
      simp only [hK, hx]
      rfl
    rw [heq]
    rcases hr : putT c x.2 key item with ⟨c1, u, r⟩
    rw [hr] at ih iw
    have hpu : InU c1 p := ih.fr.inU hl.1.1 hpx
    have hpg : u.pg = x.2.pg := ih.page
    have hmo := ih.more
    have hlen : K < (l.map enN).length := by rw [List.length_map]; exact hdl
    have hpe : (l.map enN)[K] = enN x := by rw [List.getElem_map, hxe]
    have hmap : (l.set K (x.1, u)).map enN = l.map enN := by
      rw [List.map_set]
      have : enN (x.1, u) = enN x := by
        unfold enN
        rw [hpg]
      rw [this, ← hpe, List.set_getElem_self]
    have hnode := put_node h ht hTn (p := p) (l := l.map enN) hl.1 ho.1.2.2 ho.1.2.1 key item (K := K) (by rw [keysE_N]; exact hK) hlen (c1 := c1) (o := moreE r) hpu (fun m hm => by
      rcases r with _ | _ | m'
      · cases hm
      · cases hm
      · obtain rfl : enN m' = m := by
          have h1 : some (some (enN m')) = some (some m) := hm
          simpa using h1
        obtain ⟨q1, q2, q3, _, _⟩ := hmo m' rfl
        have := T.lays_used q1 _ (T.pg_mem m'.2)
        exact ⟨q3, by show (0 : Nat) ≤ 100; omega, this.2.1, fun e => (by cases e), fun _ => rfl⟩) (by
      rw [hpe]
      exact iw)
    rcases r with _ | _ | m
    · exact hnode
    · have e2 : nodeRes c1 p (l.map enN) K (moreE (d := d) (some none)) = splitE false c1 p ((l.set K (x.1, u)).map enN) := by rw [hmap]; rfl
      rw [e2, splitL_res (en := enN (d := d)) (fun _ => rfl) false c1 p (l.set K (x.1, u)) (l.set K (x.1, u))] at hnode
      exact hnode
    · have e2 : nodeRes c1 p (l.map enN) K (moreE (some (some m))) = splitE false c1 p (((l.set K (x.1, u)).insertIdx (K + 1) m).map enN) := by rw [map_insertIdx', hmap]; rfl
      rw [e2, splitL_res (en := enN (d := d)) (fun _ => rfl) false c1 p ((l.set K (x.1, u)).insertIdx (K + 1) m) (l.set K (x.1, u))] at hnode
      exact hnode
end
end Go.Proofs.Ytmjkalpjciddbaa

/-
  What is taken out leaves a tree a tree: joining two pages; by induction.
-/
namespace Go.Proofs.Ytmjkalpjciddbaa
open Go Go.RowKit

section
variable {pg : Nat → ByteArray} {d : Nat}
/-- Trees side by side: their pages are their own. -/
structure Kids (pg : Nat → ByteArray) (c : Ch) (p : Nat) (l : List (ByteArray × T d)) : Prop where
  lays : ∀ x ∈ l, x.2.lays c pg
  fits : ∀ x ∈ l, x.2.okT
  ents : ∀ e ∈ l.map enN, e.ok false
  bytes : bytesE false (l.map enN) ≤ 1024
  nd : (p :: l.flatMap fun x => x.2.pages).Nodup
theorem flat_sub {l m : List (ByteArray × T d)} (h : ∀ x ∈ l, ∃ y ∈ m, ∀ k ∈ x.2.pages, k ∈ y.2.pages) : ∀ k ∈ l.flatMap (fun x => x.2.pages), k ∈ m.flatMap fun x => x.2.pages := fun k hk => by
  obtain ⟨x, hx, hk⟩ := List.mem_flatMap.1 hk
  obtain ⟨y, hy, hs⟩ := h x hx
  exact List.mem_flatMap.2 ⟨y, hy, hs k hk⟩
theorem two_at {l : List (ByteArray × T d)} {i : Nat} {a b : ByteArray × T d} (ha : l[i]? = some a) (hb : l[i + 1]? = some b) : ∃ l1 l2, l = l1 ++ a :: b :: l2 ∧ l1.length = i := by
  obtain ⟨l1, l2, e, hl⟩ := at_split ha
  refine ⟨l1, l2.tail, ?_, hl⟩
  rw [e] at hb ⊢
  rw [List.getElem?_append_right (by omega), show i + 1 - l1.length = 1 by omega] at hb
  cases l2 with
  | nil => simp at hb
  | cons y r =>
    simp at hb
    rw [hb]
    rfl
/-- Joining leaves trees side by side. -/
theorem join_ok {c : Ch} {p : Nat} {l : List (ByteArray × T d)} (hc : c.fine) (h : Kids pg c p l) (k : Nat) (u : T d) :
    Fr pg (l.flatMap fun x => x.2.pages) c (joinT c l k u).1 ∧ Kids pg (joinT c l k u).1 p (joinT c l k u).2 ∧ (∀ j ∈ (joinT c l k u).2.flatMap (fun x => x.2.pages), j ∈ l.flatMap fun x => x.2.pages) ∧ (l ≠ [] → (joinT c l k u).2 ≠ []) := by
  have hsame : Fr pg (l.flatMap fun x => x.2.pages) c c ∧ Kids pg c p l ∧ (∀ j ∈ l.flatMap (fun x => x.2.pages), j ∈ l.flatMap fun x => x.2.pages) ∧ (l ≠ [] → l ≠ []) := ⟨Fr.refl hc _, h, fun _ h => h, fun h => h⟩
  by_cases h1 : 341 < bytesE (isLeaf d) u.ents ∨ l.length < 2
  · have e : joinT c l k u = (c, l) := by
      unfold joinT
      rw [if_pos h1]
    rw [e]
    exact hsame
  cases ha : l[k - 1]? with
  | none =>
    have e : joinT c l k u = (c, l) := by
      unfold joinT
      rw [if_neg h1, ha]
    rw [e]
    exact hsame
  | some a =>
    cases hb : l[k - 1 + 1]? with
    | none =>
      have e : joinT c l k u = (c, l) := by
        unfold joinT
        rw [if_neg h1, ha, hb]
      rw [e]
      exact hsame
    | some b =>
      by_cases h2 : 1024 < bytesE (isLeaf d) (a.2.meet b.1 b.2).ents
      · have e : joinT c l k u = (c, l) := by
          unfold joinT
          rw [if_neg h1, ha, hb]
          exact if_pos h2
        rw [e]
        exact hsame
      have h2' : bytesE (isLeaf d) (a.2.meet b.1 b.2).ents ≤ 1024 := by omega
      obtain ⟨l1, l2, hle, hk1⟩ := two_at ha hb
      have e : joinT c l k u = ((c.write (a.2.pg : Nat) (pageE (isLeaf d) (a.2.meet b.1 b.2).ents)).free (b.2.pg : Nat), l1 ++ (a.1, a.2.meet b.1 b.2) :: l2) := by
        unfold joinT
        rw [if_neg h1, ha, hb]
        refine (if_neg h2).trans ?_
        rw [← hk1, hle, set_mid]
        have := erase_mid b l2 (l1 ++ [(a.1, a.2.meet b.1 b.2)])
        rw [List.length_append, List.length_singleton] at this
        simp only [List.append_assoc, List.singleton_append] at this
        rw [this]
      rw [e]
      have ham : a ∈ l := by rw [hle]; simp
      have hbm : b ∈ l := by rw [hle]; simp
      have hoa := h.fits a ham
      have hob := h.fits b hbm
      have hla := T.lays_iff.1 (h.lays a ham)
      have hlb := T.lays_iff.1 (h.lays b hbm)
      have hbk : b.1.size ≤ 60 := (h.ents (enN b) (List.mem_map_of_mem hbm)).key
      have hom := meet_ok hoa hob hbk h2'
      have hnd := h.nd
      rw [hle, List.flatMap_append, List.flatMap_cons, List.flatMap_cons, T.pages_eq a.2, T.pages_eq b.2] at hnd
      -- the pages by parts: those of l1, a's, those below a, b's, those below b, those of l2
      obtain ⟨P1, hP1⟩ : ∃ P1, l1.flatMap (fun x => x.2.pages) = P1 := ⟨_, rfl⟩
      obtain ⟨P2, hP2⟩ : ∃ P2, l2.flatMap (fun x => x.2.pages) = P2 := ⟨_, rfl⟩
      obtain ⟨A, hA⟩ : ∃ A, a.2.pages.tail = A := ⟨_, rfl⟩
      obtain ⟨B, hB⟩ : ∃ B, b.2.pages.tail = B := ⟨_, rfl⟩
      rw [hP1, hP2, hA, hB] at hnd
      simp only [List.cons_append, List.nodup_cons, List.nodup_append, List.mem_append, List.mem_cons, not_or] at hnd
      obtain ⟨⟨np1, npa, npA, npb, npB, np2⟩, n1, ⟨⟨naA, nab, naB, na2⟩, nA, ⟨⟨nbB, nb2⟩, nB, n2, hB2⟩, hA2⟩, h1x⟩ := hnd
      have hma : a.2.pg ∈ l.flatMap fun x => x.2.pages := List.mem_flatMap.2 ⟨a, ham, T.pg_mem _⟩
      have hmb : b.2.pg ∈ l.flatMap fun x => x.2.pages := List.mem_flatMap.2 ⟨b, hbm, T.pg_mem _⟩
      have hsz : (pageE (isLeaf d) (a.2.meet b.1 b.2).ents).size = 1024 := pageE_size (T.okT_iff.1 hom).1.2.2 h2'
      obtain ⟨w1, w2, w3⟩ := write_fr (pg := pg) hc hla.1.1 hsz
      have hbu := w1.inU hlb.1.1 (by simpa using fun e => nab e.symm)
      have f1 := free_fr (pg := pg) w1.fine hbu
      have hfr : Fr pg [a.2.pg, b.2.pg] c ((c.write (a.2.pg : Nat) (pageE (isLeaf d) (a.2.meet b.1 b.2).ents)).free (b.2.pg : Nat)) :=
        (w1.wide (S' := [a.2.pg, b.2.pg]) fun k hk => .inl (by rw [List.mem_singleton.1 hk]; exact List.mem_cons_self)).trans f1 fun k hk => .inl (by rw [List.mem_singleton.1 hk]; exact List.mem_cons_of_mem _ List.mem_cons_self)
      have hmp : (a.2.meet b.1 b.2).pages = a.2.pg :: (A ++ B) := by
        rw [meet_pages, T.pages_eq a.2, hA, hB, List.cons_append]
      have hkeep1 : ∀ x ∈ l1, x.2.lays ((c.write (a.2.pg : Nat) (pageE (isLeaf d) (a.2.meet b.1 b.2).ents)).free (b.2.pg : Nat)) pg := fun x hx => T.lays_fr hfr (h.lays x (by rw [hle]; exact List.mem_append_left _ hx)) fun k hk hm => by
        have hk1 : k ∈ P1 := by rw [← hP1]; exact List.mem_flatMap.2 ⟨x, hx, hk⟩
        rcases List.mem_cons.1 hm with e | hm
        · exact h1x k hk1 k (.inl e) rfl
        · exact h1x k hk1 k (.inr (.inr (.inl (List.mem_singleton.1 hm)))) rfl
      have hkeep2 : ∀ x ∈ l2, x.2.lays ((c.write (a.2.pg : Nat) (pageE (isLeaf d) (a.2.meet b.1 b.2).ents)).free (b.2.pg : Nat)) pg := fun x hx => T.lays_fr hfr (h.lays x (by rw [hle]; exact List.mem_append_right _ (List.mem_cons_of_mem _ (List.mem_cons_of_mem _ hx)))) fun k hk hm => by
        have hk2 : k ∈ P2 := by rw [← hP2]; exact List.mem_flatMap.2 ⟨x, hx, hk⟩
        rcases List.mem_cons.1 hm with e | hm
        · rw [e] at hk2; exact na2 hk2
        · rw [List.mem_singleton.1 hm] at hk2; exact nb2 hk2
      have hmeet : (a.2.meet b.1 b.2).lays ((c.write (a.2.pg : Nat) (pageE (isLeaf d) (a.2.meet b.1 b.2).ents)).free (b.2.pg : Nat)) pg := by
        refine T.lays_iff.2 ⟨?_, meet_kids (T.kids_fr hfr hla.2 fun k hk hm => ?_) (T.kids_fr hfr hlb.2 fun k hk hm => ?_)⟩
        · rw [meet_pg]
          exact f1.hasN ⟨w2, w3⟩ (by simpa using nab)
        · rw [hA] at hk
          rcases List.mem_cons.1 hm with e | hm
          · rw [e] at hk; exact naA hk
          · exact hA2 k hk k (.inl (List.mem_singleton.1 hm)) rfl
        · rw [hB] at hk
          rcases List.mem_cons.1 hm with e | hm
          · rw [e] at hk; exact naB hk
          · rw [List.mem_singleton.1 hm] at hk; exact nbB hk
      have hmapab : enN (a.1, a.2.meet b.1 b.2) = enN a := by
        unfold enN
        rw [meet_pg]
      refine ⟨hfr.wide fun k hk => .inl ?_, ⟨fun x hx => ?_, fun x hx => ?_, fun e he => h.ents e ?_, ?_, ?_⟩, fun j hj => ?_, fun _ => by simp⟩
      · rcases List.mem_cons.1 hk with e | hk
        · rw [e]; exact hma
        · rw [List.mem_singleton.1 hk]; exact hmb
      · rcases List.mem_append.1 hx with hx | hx
        · exact hkeep1 x hx
        rcases List.mem_cons.1 hx with e | hx
        · rw [e]; exact hmeet
        · exact hkeep2 x hx
      · rcases List.mem_append.1 hx with hx | hx
        · exact h.fits x (by rw [hle]; exact List.mem_append_left _ hx)
        rcases List.mem_cons.1 hx with e | hx
        · rw [e]; exact hom
        · exact h.fits x (by rw [hle]; exact List.mem_append_right _ (List.mem_cons_of_mem _ (List.mem_cons_of_mem _ hx)))
      · rw [hle]
        simp only [List.map_append, List.map_cons, hmapab, List.mem_append, List.mem_cons] at he ⊢
        rcases he with he | he | he
        · exact .inl he
        · exact .inr (.inl he)
        · exact .inr (.inr (.inr he))
      · have hb := h.bytes
        rw [hle] at hb
        simp only [List.map_append, List.map_cons, hmapab, bytesE, sumE_append, sumE_cons] at hb ⊢
        omega
      · rw [List.flatMap_append, List.flatMap_cons, hmp, hP1, hP2]
        simp only [List.cons_append, List.nodup_cons, List.nodup_append, List.mem_append, List.mem_cons, not_or]
        refine ⟨⟨np1, npa, ⟨npA, npB⟩, np2⟩, n1, ⟨⟨⟨naA, naB⟩, na2⟩, ⟨nA, nB, fun x hx y hy => hA2 x hx y (.inr (.inl hy))⟩, n2, fun x hx y hy => ?_⟩, fun x hx y hy => ?_⟩
        · rcases hx with hx | hx
          · exact hA2 x hx y (.inr (.inr hy))
          · exact hB2 x hx y hy
        · rcases hy with hy | (hy | hy) | hy
          · exact h1x x hx y (.inl hy)
          · exact h1x x hx y (.inr (.inl hy))
          · exact h1x x hx y (.inr (.inr (.inr (.inl hy))))
          · exact h1x x hx y (.inr (.inr (.inr (.inr hy))))
      · rw [List.flatMap_append, List.flatMap_cons, hmp, hP1, hP2] at hj
        rw [hle, List.flatMap_append, List.flatMap_cons, List.flatMap_cons, T.pages_eq a.2, T.pages_eq b.2, hP1, hP2, hA, hB]
        simp only [List.cons_append, List.mem_append, List.mem_cons] at hj ⊢
        rcases hj with h | h | (h | h) | h
        · exact .inl h
        · exact .inr (.inl h)
        · exact .inr (.inr (.inl h))
        · exact .inr (.inr (.inr (.inr (.inl h))))
        · exact .inr (.inr (.inr (.inr (.inr h))))
end
end Go.Proofs.Ytmjkalpjciddbaa

/-
  What is taken out leaves a tree a tree; what is cleared leaves the others as they were.
-/
namespace Go.Proofs.Ytmjkalpjciddbaa
open Go Go.RowKit

theorem ents_nil {d : Nat} {p : Nat} {l : List (ByteArray × T d)} : (T.ents (d := d + 1) (p, l) = []) ↔ l = [] := by
  show l.map enN = [] ↔ l = []
  exact List.map_eq_nil_iff
theorem okE_sub {leaf : Bool} {a b : List En} (h : a.Sublist b) (hb : (∀ e ∈ b, e.ok leaf) ∧ bytesE leaf b ≤ 1024) : (∀ e ∈ a, e.ok leaf) ∧ bytesE leaf a ≤ 1024 := by
  refine ⟨fun e he => hb.1 e (h.subset he), ?_⟩
  have := sumE_sub (leaf := leaf) h
  have h2 := hb.2
  unfold bytesE at *
  omega
theorem dropT_ok {pg : Nat → ByteArray} {key : ByteArray} : ∀ {d : Nat} {c : Ch} {t : T d}, c.fine → t.lays c pg → t.okT → t.pages.Nodup → DropOk pg c t (dropT c t key)
  | 0, c, t, hc, hl, ho, hn => by
    obtain ⟨p, l⟩ : Nat × List (ByteArray × ByteArray) := t
    have hl : HasN c pg true p (l.map enL) := hl
    have ho : OkN true (l.map enL) := ho
    have e0 : dropT (d := 0) c (p, l) key = (c.write (p : Nat) (pageE true ((l.eraseIdx (searchE (l.map Prod.fst) key)).map enL)), (p, l.eraseIdx (searchE (l.map Prod.fst) key))) := rfl
    obtain ⟨m, hm⟩ : ∃ m, l.eraseIdx (searchE (l.map Prod.fst) key) = m := ⟨_, rfl⟩
    have hsub : (m.map enL).Sublist (l.map enL) := by
      rw [← hm]
      exact (List.eraseIdx_sublist _ _).map _
    obtain ⟨g1, g2⟩ := okE_sub hsub ⟨ho.2.2, ho.2.1⟩
    obtain ⟨w1, w2, w3⟩ := write_fr (pg := pg) hc hl.1 (pageE_size g1 g2)
    rw [e0, hm]
    exact ⟨w1, rfl, ⟨w2, w3⟩, fun h => ⟨h, g2, g1⟩, fun k hk => hk, hn⟩
  | d + 1, c, t, hc, hl, ho, hn => by
    obtain ⟨p, l⟩ : Nat × List (ByteArray × T d) := t
    have hne : l.map Prod.fst ≠ [] := fun e => ho.1.1 (by
      have : l = [] := List.map_eq_nil_iff.1 e
      show l.map enN = []
      rw [this]
      rfl)
    have hdl := downE_lt hne key
    rw [List.length_map] at hdl
    obtain ⟨x, hx⟩ : ∃ x, l[downE (l.map Prod.fst) key]? = some x := ⟨_, List.getElem?_eq_getElem hdl⟩
    obtain ⟨l1, l2, hle, hk1⟩ := at_split hx
    have hxm : x ∈ l := by rw [hle]; simp
    have hnl : (p :: l.flatMap fun y => y.2.pages).Nodup := hn
    have hpn := hnl
    rw [hle, List.flatMap_append, List.flatMap_cons] at hpn
    obtain ⟨n1, n2⟩ := List.nodup_cons.1 hpn
    obtain ⟨n3, n4, n5⟩ := List.nodup_append.1 n2
    obtain ⟨n6, n7, n8⟩ := List.nodup_append.1 n4
    have hlx : ∀ y ∈ l, y.2.lays c pg := hl.2
    have hox : ∀ y ∈ l, y.2.okT := ho.2
    have hnode : HasN c pg false p (l.map enN) := hl.1
    have hokn : OkN false (l.map enN) := ho.1
    have ih := dropT_ok (pg := pg) (key := key) hc (hlx x hxm) (hox x hxm) n6
    have hS : ∀ k ∈ x.2.pages, k ∈ p :: l.flatMap (fun y => y.2.pages) := fun k h => List.mem_cons_of_mem _ (List.mem_flatMap.2 ⟨x, hxm, h⟩)
    have hoth : ∀ y, y ∈ l1 ∨ y ∈ l2 → y ∈ l ∧ ∀ k ∈ y.2.pages, k ∉ x.2.pages := fun y hy => by
      rcases hy with hy | hy
      · refine ⟨by rw [hle]; exact List.mem_append_left _ hy, fun k h1 h2 => n5 k (List.mem_flatMap.2 ⟨y, hy, h1⟩) k (List.mem_append_left _ h2) rfl⟩
      · refine ⟨by rw [hle]; exact List.mem_append_right _ (List.mem_cons_of_mem _ hy), fun k h1 h2 => n8 k h2 k (List.mem_flatMap.2 ⟨y, hy, h1⟩) rfl⟩
    have hpx : p ∉ x.2.pages := fun h => n1 (List.mem_append_right _ (List.mem_append_left _ h))
    rcases hr : dropT c x.2 key with ⟨c1, u⟩
    rw [hr] at ih
    have hfr : Fr pg x.2.pages c c1 := ih.fr
    have hpg : u.pg = x.2.pg := ih.page
    have hlu : u.lays c1 pg := ih.lays
    have hou : u.ents ≠ [] → u.okT := ih.fits
    have hsu : ∀ k ∈ u.pages, k ∈ x.2.pages := ih.sub
    have hnu : u.pages.Nodup := ih.nd
    have hset : l.set (downE (l.map Prod.fst) key) (x.1, u) = l1 ++ (x.1, u) :: l2 := by rw [← hk1, hle, set_mid]
    have hera : (l1 ++ (x.1, u) :: l2).eraseIdx (downE (l.map Prod.fst) key) = l1 ++ l2 := by rw [← hk1, erase_mid]
    have hmap : (l1 ++ (x.1, u) :: l2).map enN = l.map enN := by
      rw [hle]
      simp only [List.map_append, List.map_cons]
      have : enN (x.1, u) = enN x := by
        unfold enN
        rw [hpg]
      rw [this]
    have hlo : ∀ y, y ∈ l1 ∨ y ∈ l2 → y.2.lays c1 pg ∧ y.2.okT := fun y hy => ⟨T.lays_fr hfr (hlx y (hoth y hy).1) (hoth y hy).2, hox y (hoth y hy).1⟩
    have hn1 : HasN c1 pg false p (l.map enN) := hfr.hasN hnode hpx
    have hfw : Fr pg (p :: l.flatMap fun y => y.2.pages) c c1 := hfr.wide fun k h => .inl (hS k h)
    -- what is behind the step below: c2 and the new list
    obtain ⟨s, hs⟩ : ∃ s : Ch × List (ByteArray × T d), (if u.ents.isEmpty then (c1.free (u.pg : Nat), (l1 ++ (x.1, u) :: l2).eraseIdx (downE (l.map Prod.fst) key)) else joinT c1 (l1 ++ (x.1, u) :: l2) (downE (l.map Prod.fst) key) u) = s := ⟨_, rfl⟩
    have e0 : dropT (d := d + 1) c (p, l) key = (s.1.write (p : Nat) (pageE false (s.2.map enN)), (p, s.2)) := by
      refine (dropT.eq_2 c key d ((p, l) : Nat × List (ByteArray × T d))).trans ?_
      simp only [hx, hr, hset, hs]
      rfl
    have key1 : Fr pg (l.flatMap fun y => y.2.pages) c1 s.1 ∧ (∀ y ∈ s.2, y.2.lays s.1 pg) ∧ (∀ y ∈ s.2, y.2.okT) ∧ (∀ e ∈ s.2.map enN, e.ok false) ∧ bytesE false (s.2.map enN) ≤ 1024 ∧ (p :: s.2.flatMap fun y => y.2.pages).Nodup ∧ ∀ k ∈ s.2.flatMap (fun y => y.2.pages), k ∈ l.flatMap fun y => y.2.pages := by
      by_cases hem : u.ents.isEmpty = true
      · have hs2 : s = (c1.free (u.pg : Nat), l1 ++ l2) := by
          rw [← hs, if_pos hem, hera]
        rw [hs2]
        have hup : u.pg ∈ x.2.pages := hsu _ (T.pg_mem u)
        have hf1 := free_fr (pg := pg) hfr.fine (T.lays_used hlu _ (T.pg_mem u))
        have hsl : (l1 ++ l2).Sublist l := by
          rw [hle]
          exact List.Sublist.append (List.Sublist.refl _) (List.sublist_cons_self _ _)
        have hsm : ((l1 ++ l2).map enN).Sublist (l.map enN) := hsl.map _
        obtain ⟨g1, g2⟩ := okE_sub hsm ⟨hokn.2.2, hokn.2.1⟩
        have hor : ∀ y ∈ l1 ++ l2, y ∈ l1 ∨ y ∈ l2 := fun y hy => List.mem_append.1 hy
        refine ⟨hf1.wide fun k hk => .inl ?_, fun y hy => T.lays_fr hf1 (hlo y (hor y hy)).1 fun k hk hm => ?_, fun y hy => (hlo y (hor y hy)).2, g1, g2, ?_, ?_⟩
        · rw [List.mem_singleton.1 hk]
          exact List.mem_flatMap.2 ⟨x, hxm, hup⟩
        · rw [List.mem_singleton.1 hm] at hk
          exact (hoth y (hor y hy)).2 _ hk hup
        · have : ((l1 ++ l2).flatMap fun y => y.2.pages).Sublist (l.flatMap fun y => y.2.pages) := by
            rw [hle, List.flatMap_append, List.flatMap_append, List.flatMap_cons]
            exact List.Sublist.append (List.Sublist.refl _) (List.sublist_append_right _ _)
          exact hnl.sublist (this.cons_cons p)
        · exact flat_sub fun y hy => ⟨y, hsl.subset hy, fun k hk => hk⟩
      · have hs2 : s = joinT c1 (l1 ++ (x.1, u) :: l2) (downE (l.map Prod.fst) key) u := by
          rw [← hs, if_neg hem]
        have hou := hou (fun e => hem (by rw [e]; rfl))
        have hsub : ∀ k ∈ (l1 ++ (x.1, u) :: l2).flatMap (fun y => y.2.pages), k ∈ l.flatMap fun y => y.2.pages := flat_sub fun y hy => by
          rcases List.mem_append.1 hy with h | h
          · exact ⟨y, (hoth y (.inl h)).1, fun k hk => hk⟩
          rcases List.mem_cons.1 h with e | h
          · exact ⟨x, hxm, fun k hk => by rw [e] at hk; exact hsu k hk⟩
          · exact ⟨y, (hoth y (.inr h)).1, fun k hk => hk⟩
        have hK : Kids pg c1 p (l1 ++ (x.1, u) :: l2) := by
          refine ⟨fun y hy => ?_, fun y hy => ?_, by rw [hmap]; exact hokn.2.2, by rw [hmap]; exact hokn.2.1, ?_⟩
          · rcases List.mem_append.1 hy with h | h
            · exact (hlo y (.inl h)).1
            rcases List.mem_cons.1 h with e | h
            · rw [e]; exact hlu
            · exact (hlo y (.inr h)).1
          · rcases List.mem_append.1 hy with h | h
            · exact (hlo y (.inl h)).2
            rcases List.mem_cons.1 h with e | h
            · rw [e]; exact hou
            · exact (hlo y (.inr h)).2
          · rw [List.flatMap_append, List.flatMap_cons]
            exact mid_nodup (U := fun _ => True) hpn hnu (fun k hk => .inl (hsu k hk)) (fun _ _ => trivial)
        obtain ⟨j1, j2, j3, _⟩ := join_ok hfr.fine hK (downE (l.map Prod.fst) key) u
        rw [hs2]
        exact ⟨j1.wide fun k hk => .inl (hsub k hk), j2.lays, j2.fits, j2.ents, j2.bytes, j2.nd, fun k hk => hsub k (j3 k hk)⟩
    obtain ⟨k1, k2, k3, k4, k5, k6, k7⟩ := key1
    have hpl : p ∉ l.flatMap fun y => y.2.pages := (List.nodup_cons.1 hnl).1
    have hps : InU s.1 p := k1.inU hn1.1 hpl
    obtain ⟨w1, w2, w3⟩ := write_fr (pg := pg) k1.fine hps (pageE_size k4 k5)
    rw [e0]
    have hps2 := (List.nodup_cons.1 k6).1
    refine ⟨(hfw.trans (k1.wide (S' := p :: l.flatMap fun y => y.2.pages) fun k hk => .inl (List.mem_cons_of_mem _ hk)) fun k hk => .inl hk).trans w1 fun k hk => .inl (by rw [List.mem_singleton.1 hk]; exact List.mem_cons_self), rfl, ⟨⟨w2, w3⟩, fun y hy => T.lays_fr w1 (k2 y hy) fun k hk hm => ?_⟩, fun h => ⟨⟨h, k5, k4⟩, k3⟩, fun k hk => ?_, k6⟩
    · rw [List.mem_singleton.1 hm] at hk
      exact hps2 (List.mem_flatMap.2 ⟨y, hy, hk⟩)
    · rcases List.mem_cons.1 hk with e | hk
      · rw [e]; exact List.mem_cons_self
      · exact List.mem_cons_of_mem _ (k7 k hk)
/-- Clearing frees a tree's pages, and leaves the others as they were. -/
theorem clearT_ok {pg : Nat → ByteArray} : ∀ {d : Nat} {c : Ch} {t : T d}, c.fine → t.lays c pg → t.pages.Nodup → Fr pg t.pages c (clearT c t)
  | 0, c, t, hc, hl, hn => free_fr hc hl.1
  | d + 1, c, t, hc, hl, hn => by
    obtain ⟨p, l⟩ : Nat × List (ByteArray × T d) := t
    have hl : HasN c pg false p (l.map enN) ∧ ∀ x ∈ l, x.2.lays c pg := hl
    have hn : (p :: l.flatMap fun y => y.2.pages).Nodup := hn
    have e0 : clearT (d := d + 1) c (p, l) = (l.foldl (fun c (x : ByteArray × T d) => clearT c x.2) c).free (p : Nat) := rfl
    obtain ⟨n1, n2⟩ := List.nodup_cons.1 hn
    have step : ∀ (m : List (ByteArray × T d)) (c : Ch), c.fine → (∀ x ∈ m, x.2.lays c pg) → (m.flatMap fun y => y.2.pages).Nodup → Fr pg (m.flatMap fun y => y.2.pages) c (m.foldl (fun c (x : ByteArray × T d) => clearT c x.2) c) := by
      intro m
      induction m with
      | nil => intro c hc _ _; exact Fr.refl hc _
      | cons x m ih =>
        intro c hc hx hnd
        rw [List.flatMap_cons] at hnd
        obtain ⟨a1, a2, a3⟩ := List.nodup_append.1 hnd
        have h1 := clearT_ok (pg := pg) hc (hx x List.mem_cons_self) a1
        have h2 := ih (clearT c x.2) h1.fine (fun y hy => T.lays_fr h1 (hx y (List.mem_cons_of_mem _ hy)) fun k hk hm => a3 k hm k (List.mem_flatMap.2 ⟨y, hy, hk⟩) rfl) a2
        rw [List.foldl_cons, List.flatMap_cons]
        exact (h1.wide fun k hk => .inl (List.mem_append_left _ hk)).trans h2 fun k hk => .inl (List.mem_append_right _ hk)
    have h1 := step l c hc hl.2 n2
    have h2 := free_fr (pg := pg) h1.fine (h1.inU hl.1.1 n1)
    rw [e0]
    exact (h1.wide fun k hk => .inl (List.mem_cons_of_mem _ hk)).trans h2 fun k hk => .inl (by rw [List.mem_singleton.1 hk]; exact List.mem_cons_self)
end Go.Proofs.Ytmjkalpjciddbaa

/-
  (*Tree).Clear's closure.
-/
namespace Go.Proofs.Ytmjkalpjciddbaa
open Go Go.RowKit

/-- What the closure has captured. -/
structure ClS (w : World) (FT FW TP : Nat) : Prop where
  ft : w.cell? ⟨FT, 0, none⟩ = some (.pointer (some ⟨TP, 0, none⟩))
  fw : w.cell? ⟨FW, 0, none⟩ = some (.func (.func 29) #[] #[.pointer (some ⟨FT, 0, none⟩), .pointer (some ⟨FW, 0, none⟩)])
theorem ClS.gr {w w' : World} {FT FW TP : Nat} (h : ClS w FT FW TP) (g : Gr w w') : ClS w' FT FW TP := ⟨g.keeps h.ft, g.keeps h.fw⟩
theorem ClS.pg {w w' : World} {FT FW TP PB DB M : Nat} (h : ClS w FT FW TP) (g : PgF PB DB M M w w') (h1 : FT ≠ PB ∧ FT ≠ DB ∧ FT ≠ M) (h2 : FW ≠ PB ∧ FW ≠ DB ∧ FW ≠ M) : ClS w' FT FW TP := ⟨g.keeps h1.1 h1.2.1 h1.2.2 h.ft, g.keeps h2.1 h2.2.1 h2.2.2 h.fw⟩
section
variable {w : World} {PB DB M : Nat} {c : Ch} {sv : Head} {t : Int} {d : Dk}
set_option maxRecDepth 100000 in
set_option maxHeartbeats 4000000 in
theorem clr_leaf (h : PgT w PB DB M c sv t d) {TP root : Nat} (ht : TreeAt w TP PB root) {p : Nat} {l : List En} (hp : HasN c d.pg true p l) (hok : ∀ e ∈ l, e.ok true) (hb : bytesE true l ≤ 1024) (hne : l ≠ []) {FT FW : Nat} (hw : ClS w FT FW TP) :
    Calls Try.prog 29 #[.int .i64 (p : Int), .pointer (some ⟨FT, 0, none⟩), .pointer (some ⟨FW, 0, none⟩)] w fun e w' => e = .returned .nilIface ∧ PgT w' PB DB M (c.free (p : Nat)) sv t d ∧ PgF PB DB M M w w' := by
  have hrd := read_n h.s ht hp hok hb
  have hl : l.length ≤ 600 := by
    have := sumE_len true l
    unfold bytesE at hb
    omega
  have ft := hw.ft
  have HRD := Lib.hid hrd
  have HH := Lib.hid (And.intro h (And.intro ht hp.1))
  clear hrd h ht hp
  go_enter Try.func29, Try.ntmps29
  go_wp2_with fail
  refine HRD.out.mono ?_
  rintro e w1 ⟨s', rfl, ho1, hg1⟩
  unfold nodeV at *
  replace ft := hg1.keeps ft
  have hl0 : 0 ≤ l.length := Nat.zero_le _
  rcases ho1.at' with ⟨_, hle⟩ | ⟨B, cap, rfl, h2, h3, h4, h5, h6⟩
  · exact absurd hle hne
  have hga : Gr w1 (w1.alloc (.cells #[.int .i64 (p : Int), .bool true, .slice (some ⟨B, 0, none⟩) l.length cap] 84)) := (Gr.refl w1).alloc _
  replace ft := hga.keeps ft
  have k1 : (w1.alloc (.cells #[.int .i64 (p : Int), .bool true, .slice (some ⟨B, 0, none⟩) l.length cap] 84)).cell? ⟨w1.heap.size, 1, none⟩ = some (.bool true) := by rw [World.cell?_alloc_new]; rfl
  have k2 : (w1.alloc (.cells #[.int .i64 (p : Int), .bool true, .slice (some ⟨B, 0, none⟩) l.length cap] 84)).cell? ⟨w1.heap.size, 2, none⟩ = some (.slice (some ⟨B, 0, none⟩) l.length cap) := by rw [World.cell?_alloc_new]; rfl
  have HG1 := Lib.hid (hg1.trans hga)
  have H5 := Lib.hid (h5.gr hga)
  have hsz := hg1.size
  clear h5 h6 ho1 hg1 hga
  go_wp2_with fail
  obtain ⟨NB, hNB⟩ : ∃ NB, w1.heap.size = NB := ⟨_, rfl⟩
  rw [hNB] at k1 k2 hsz h4 ⊢
  clear hNB
  generalize w1.alloc (.cells #[.int .i64 (p : Int), .bool true, .slice (some ⟨B, 0, none⟩) l.length cap] 84) = W0 at *
  go_loopw [22] (fun iv w' => ∃ i : Nat, i ≤ l.length ∧ iv = .int .i64 i ∧ Gr W0 w') (fun iv _ => l.length - (RowKit.intOf iv).toNat)
  case atStart => exact ⟨0, hl0, rfl, Gr.refl _⟩
  case round =>
    obtain ⟨i, hi, rfl, hg⟩ := hrel
    replace ft := hg.keeps ft
    replace k1 := hg.keeps k1
    by_cases hlt : i < l.length
    · have hlti : (i : Int) < (l.length : Int) := by omega
      obtain ⟨b0, b1, b2⟩ := (H5.out.gr hg) i hlt
      rw [Nat.zero_add] at b0 b1 b2
      generalize l[i] = en at *
      obtain ⟨ky, it, pgi⟩ := en
      have hgb : Gr wr (wr.alloc (.cells #[.string ky, .string it, .int .i64 (pgi : Int)] 72)) := (Gr.refl wr).alloc _
      have HG := Lib.hid (hg.trans hgb)
      replace k1 := hgb.keeps k1
      clear hg hgb
      go_wp2_with fail
      exact ⟨⟨i + 1, by omega, by go_num, HG.out⟩, by simp [RowKit.intOf]; omega⟩
    · have hlti : ¬ (i : Int) < (l.length : Int) := by omega
      have hgw := HG1.out.trans hg
      have hfr := free_t (HH.out.1.gr hgw) HH.out.2.2
      have tp := (HH.out.2.1.gr hgw).p
      have HFR := Lib.hid hfr
      have HGW := Lib.hid hgw
      clear hfr hgw hg
      go_wp2_with fail
      refine HFR.out.mono ?_
      rintro e w9 ⟨rfl, hp9, hf9⟩
      have HX := Lib.hid (And.intro hp9 ((PgF.of_gr PB DB M HGW.out).trans hf9))
      clear hp9 hf9
      go_wp2_with fail
      go_ret
      exact ⟨rfl, HX.out⟩
set_option maxRecDepth 100000 in
set_option maxHeartbeats 4000000 in
theorem clr_node (h : PgT w PB DB M c sv t d) {TP root : Nat} (ht : TreeAt w TP PB root) {p : Nat} {l : List En} (hp : HasN c d.pg false p l) (hok : ∀ e ∈ l, e.ok false) (hb : bytesE false l ≤ 1024) (hne : l ≠ []) {FT FW : Nat} (hw : ClS w FT FW TP) (hTn : TP ≠ PB ∧ TP ≠ DB ∧ TP ≠ M) (hFT : FT ≠ PB ∧ FT ≠ DB ∧ FT ≠ M) (hFW : FW ≠ PB ∧ FW ≠ DB ∧ FW ≠ M) {cs : Nat → Ch} (hc0 : cs 0 = c) (hcl : InU (cs l.length) p)
    (hsub : ∀ j (hj : j < l.length) W, PgT W PB DB M (cs j) sv t d → TreeAt W TP PB root → ClS W FT FW TP →
      Calls Try.prog 29 #[.int .i64 (l[j].page : Int), .pointer (some ⟨FT, 0, none⟩), .pointer (some ⟨FW, 0, none⟩)] W fun e w' => e = .returned .nilIface ∧ PgT w' PB DB M (cs (j + 1)) sv t d ∧ PgF PB DB M M W w') :
    Calls Try.prog 29 #[.int .i64 (p : Int), .pointer (some ⟨FT, 0, none⟩), .pointer (some ⟨FW, 0, none⟩)] w fun e w' => e = .returned .nilIface ∧ PgT w' PB DB M ((cs l.length).free (p : Nat)) sv t d ∧ PgF PB DB M M w w' := by
  have hrd := read_n h.s ht hp hok hb
  have hl : l.length ≤ 600 := by
    have := sumE_len false l
    unfold bytesE at hb
    omega
  have ft := hw.ft
  have hlw := h.lt
  have HSUB := Lib.hid hsub
  clear hsub
  have HW := Lib.hid hw
  have HRD := Lib.hid hrd
  have HH := Lib.hid (And.intro h (And.intro ht hcl))
  clear hrd h ht hp hw
  go_enter Try.func29, Try.ntmps29
  go_wp2_with fail
  refine HRD.out.mono ?_
  rintro e w1 ⟨s', rfl, ho1, hg1⟩
  unfold nodeV at *
  replace ft := hg1.keeps ft
  have hl0 : 0 ≤ l.length := Nat.zero_le _
  rcases ho1.at' with ⟨_, hle⟩ | ⟨B, cap, rfl, h2, h3, h4, h5, h6⟩
  · exact absurd hle hne
  have hga : Gr w1 (w1.alloc (.cells #[.int .i64 (p : Int), .bool false, .slice (some ⟨B, 0, none⟩) l.length cap] 84)) := (Gr.refl w1).alloc _
  replace ft := hga.keeps ft
  have k1 : (w1.alloc (.cells #[.int .i64 (p : Int), .bool false, .slice (some ⟨B, 0, none⟩) l.length cap] 84)).cell? ⟨w1.heap.size, 1, none⟩ = some (.bool false) := by rw [World.cell?_alloc_new]; rfl
  have k2 : (w1.alloc (.cells #[.int .i64 (p : Int), .bool false, .slice (some ⟨B, 0, none⟩) l.length cap] 84)).cell? ⟨w1.heap.size, 2, none⟩ = some (.slice (some ⟨B, 0, none⟩) l.length cap) := by rw [World.cell?_alloc_new]; rfl
  have HG1 := Lib.hid (hg1.trans hga)
  have H5 := Lib.hid (h5.gr hga)
  have hsz := hg1.size
  clear h5 h6 ho1 hg1 hga
  go_wp2_with fail
  obtain ⟨NB, hNB⟩ : ∃ NB, w1.heap.size = NB := ⟨_, rfl⟩
  rw [hNB] at k1 k2 hsz h4 ⊢
  clear hNB
  generalize w1.alloc (.cells #[.int .i64 (p : Int), .bool false, .slice (some ⟨B, 0, none⟩) l.length cap] 84) = W0 at *
  have hNP : NB ≠ PB ∧ NB ≠ DB ∧ NB ≠ M := by omega
  have hBP : B ≠ PB ∧ B ≠ DB ∧ B ≠ M := by omega
  have hT0 := HH.out.2.1.gr HG1.out
  have HT0 := Lib.hid hT0
  have HW0 := Lib.hid (HW.out.gr HG1.out)
  have HP0 := Lib.hid (HH.out.1.gr HG1.out)
  have HC0 := Lib.hid hc0
  clear hT0 hc0
  go_loopw [22] (fun iv w' => ∃ i : Nat, i ≤ l.length ∧ iv = .int .i64 i ∧ PgT w' PB DB M (cs i) sv t d ∧ PgF PB DB M M W0 w') (fun iv _ => l.length - (RowKit.intOf iv).toNat)
  case atStart => exact ⟨0, hl0, rfl, by rw [HC0.out]; exact HP0.out, PgF.of_gr PB DB M (Gr.refl W0)⟩
  case round =>
    obtain ⟨i, hi, rfl, hpi, hfi⟩ := hrel
    replace ft := hfi.keeps hFT.1 hFT.2.1 hFT.2.2 ft
    replace k1 := hfi.keeps hNP.1 hNP.2.1 hNP.2.2 k1
    have hti := HT0.out.pg hfi hTn.1 hTn.2.1 hTn.2.2
    have hwi := HW0.out.pg hfi hFT hFW
    have fw := hwi.fw
    by_cases hlt : i < l.length
    · have hlti : (i : Int) < (l.length : Int) := by omega
      obtain ⟨b0, b1, b2⟩ := (H5.out.keepX hfi.2 (fun e => e.elim hBP.1 fun e => e.elim hBP.2.1 hBP.2.2)) i hlt
      rw [Nat.zero_add] at b0 b1 b2
      have hsb := fun W (g : Gr wr W) => HSUB.out i hlt W (hpi.gr g) (hti.gr g) (hwi.gr g)
      generalize l[i] = en at *
      obtain ⟨ky, it, pgi⟩ := en
      have HSB := Lib.hid hsb
      have HFI := Lib.hid hfi
      have hgb : Gr wr (wr.alloc (.cells #[.string ky, .string it, .int .i64 (pgi : Int)] 72)) := (Gr.refl wr).alloc _
      have HGB := Lib.hid hgb
      replace k1 := hgb.keeps k1
      replace fw := hgb.keeps fw
      have e2 : (wr.alloc (.cells #[.string ky, .string it, .int .i64 (pgi : Int)] 72)).cell? ⟨wr.heap.size, 2, none⟩ = some (.int .i64 (pgi : Int)) := by rw [World.cell?_alloc_new]; rfl
      clear hpi hfi hti hwi hsb hgb
      go_wp2_with fail
      refine (HSB.out _ HGB.out).mono ?_
      rintro e w3 ⟨rfl, hp3, hf3⟩
      have HX := Lib.hid (And.intro hp3 ((HFI.out.trans (PgF.of_gr PB DB M HGB.out)).trans hf3))
      clear hp3 hf3
      go_wp2_with fail
      exact ⟨⟨i + 1, by omega, by go_num, HX.out⟩, by simp [RowKit.intOf]; omega⟩
    · have hlti : ¬ (i : Int) < (l.length : Int) := by omega
      have hie : i = l.length := by omega
      rw [hie] at hpi
      have hfr := free_t hpi HH.out.2.2
      have tp := hti.p
      have HFR := Lib.hid hfr
      have HFW := Lib.hid ((PgF.of_gr PB DB M HG1.out).trans hfi)
      clear hfr hpi hfi hti hwi hie
      go_wp2_with fail
      refine HFR.out.mono ?_
      rintro e w9 ⟨rfl, hp9, hf9⟩
      have HX := Lib.hid (And.intro hp9 (HFW.out.trans hf9))
      clear hp9 hf9
      go_wp2_with fail
      go_ret
      exact ⟨rfl, HX.out⟩
end
end Go.Proofs.Ytmjkalpjciddbaa
