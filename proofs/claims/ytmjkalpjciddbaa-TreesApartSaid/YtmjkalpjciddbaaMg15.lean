/-
  (*Tree).drop takes out as the plain function does.
-/
import Derived.Test.YtmjkalpjciddbaaTnX
import Derived.Test.YtmjkalpjciddbaaMg13
import Derived.Deep.LoopGhost
namespace Go.Proofs.Ytmjkalpjciddbaa
open Go Go.RowKit

theorem drop_kids {pg : Nat → ByteArray} {d : Nat} {c : Ch} {p : Nat} {l : List (ByteArray × T d)} (hl : T.lays (d := d + 1) c pg (p, l)) (ho : T.okT (d := d + 1) (p, l)) (hn : (p :: l.flatMap fun y => y.2.pages).Nodup) {K : Nat} {x : ByteArray × T d} (hx : l[K]? = some x) {c1 : Ch} {u : T d} (ih : DropOk pg c x.2 (c1, u)) (hu : u.ents ≠ []) : Kids pg c1 p (l.set K (x.1, u)) := by
  obtain ⟨l1, l2, hle, hk1⟩ := at_split hx
  have hxm : x ∈ l := by rw [hle]; simp
  have hpn := hn
  rw [hle, List.flatMap_append, List.flatMap_cons] at hpn
  obtain ⟨n1, n2⟩ := List.nodup_cons.1 hpn
  obtain ⟨n3, n4, n5⟩ := List.nodup_append.1 n2
  obtain ⟨n6, n7, n8⟩ := List.nodup_append.1 n4
  have hlx : ∀ y ∈ l, y.2.lays c pg := hl.2
  have hox : ∀ y ∈ l, y.2.okT := ho.2
  have hokn : OkN false (l.map enN) := ho.1
  have hoth : ∀ y, y ∈ l1 ∨ y ∈ l2 → y ∈ l ∧ ∀ k ∈ y.2.pages, k ∉ x.2.pages := fun y hy => by
    rcases hy with hy | hy
    · refine ⟨by rw [hle]; exact List.mem_append_left _ hy, fun k h1 h2 => n5 k (List.mem_flatMap.2 ⟨y, hy, h1⟩) k (List.mem_append_left _ h2) rfl⟩
    · refine ⟨by rw [hle]; exact List.mem_append_right _ (List.mem_cons_of_mem _ hy), fun k h1 h2 => n8 k h2 k (List.mem_flatMap.2 ⟨y, hy, h1⟩) rfl⟩
  have hfr : Fr pg x.2.pages c c1 := ih.fr
  have hpg : u.pg = x.2.pg := ih.page
  have hlu : u.lays c1 pg := ih.lays
  have hou : u.okT := ih.fits hu
  have hsu : ∀ k ∈ u.pages, k ∈ x.2.pages := ih.sub
  have hnu : u.pages.Nodup := ih.nd
  have hset : l.set K (x.1, u) = l1 ++ (x.1, u) :: l2 := by rw [← hk1, hle, set_mid]
  have hmap : (l1 ++ (x.1, u) :: l2).map enN = l.map enN := by
    rw [hle]
    simp only [List.map_append, List.map_cons]
    have : enN (x.1, u) = enN x := by
      unfold enN
      rw [hpg]
    rw [this]
  have hlo : ∀ y, y ∈ l1 ∨ y ∈ l2 → y.2.lays c1 pg ∧ y.2.okT := fun y hy => ⟨T.lays_fr hfr (hlx y (hoth y hy).1) (hoth y hy).2, hox y (hoth y hy).1⟩
  rw [hset]
  refine ⟨fun y hy => ?_, fun y hy => ?_, by rw [hmap]; exact hokn.2.2, by rw [hmap]; exact hokn.2.1, ?_⟩
  · rcases List.mem_append.1 hy with h | h
    · exact (hlo y (.inl h)).1
    rcases List.mem_cons.1 h with e | h
    · rw [e]; exact hlu
    · exact (hlo y (.inr h)).1
  · rcases List.mem_append.1 hy with h | h
    · exact (hlo y (.inl h)).2
    rcases List.mem_cons.1 h with e | h
    · rw [e]; exact hou
    · exact (hlo y (.inr h)).2
  · rw [List.flatMap_append, List.flatMap_cons]
    exact mid_nodup (U := fun _ => True) hpn hnu (fun k hk => .inl (hsu k hk)) (fun _ _ => trivial)
theorem map_eraseIdx' {α β : Type} (f : α → β) : ∀ (l : List α) (i : Nat), (l.eraseIdx i).map f = (l.map f).eraseIdx i
  | [], _ => by simp
  | _ :: _, 0 => rfl
  | a :: l, i + 1 => by
    show f a :: ((l.eraseIdx i).map f) = f a :: ((l.map f).eraseIdx i)
    rw [map_eraseIdx' f l i]
theorem write_used (c : Ch) (k : Int) (s : ByteArray) : (c.write k s).h = c.h := by
  unfold Ch.write
  split <;> rfl
section
variable {PB DB M : Nat} {sv : Head} {t : Int} {dk : Dk}
theorem drop_t {TP root : Nat} (hTn : TP ≠ PB ∧ TP ≠ DB ∧ TP ≠ M) (key : ByteArray) : ∀ {n : Nat} {c : Ch} {x : T n} {w : World}, PgT w PB DB M c sv t dk → TreeAt w TP PB root → x.lays c dk.pg → x.okT → x.pages.Nodup → getT key x ≠ none →
    Calls Try.prog 42 #[.pointer (some ⟨TP, 0, none⟩), .int .i64 (x.pg : Int), .string key] w fun e w' => ∃ s, e = .returned (.tuple #[nodeV x.pg (isLeaf n) s, .nilIface]) ∧ OwnE w w' s (dropT c x key).2.ents ∧ PgT w' PB DB M (dropT c x key).1 sv t dk ∧ PgF PB DB M M w w'
  | 0, c, x, w, h, ht, hl, ho, hn, hg => by
    obtain ⟨p, l⟩ : Nat × List (ByteArray × ByteArray) := x
    have hh : hitE (keysE (l.map enL)) key = true := by
      rw [keysE_L]
      cases hc : hitE (l.map Prod.fst) key with
      | true => rfl
      | false =>
        refine absurd ?_ hg
        show (if hitE (l.map Prod.fst) key then (l[searchE (l.map Prod.fst) key]?).map Prod.snd else none) = none
        rw [hc]
        rfl
    have hp := drop_leaf h ht hTn (p := p) (l := l.map enL) hl ho.2.2 ho.2.1 key hh
    rw [keysE_L, ← map_eraseIdx'] at hp
    exact hp
  | n + 1, c, t0, w, h, ht, hl, ho, hn, hg => by
    obtain ⟨p, l⟩ : Nat × List (ByteArray × T n) := t0
    have hne : l.map Prod.fst ≠ [] := fun e => ho.1.1 (by
      have : l = [] := List.map_eq_nil_iff.1 e
      show l.map enN = []
      rw [this]
      rfl)
    have hdl := downE_lt hne key
    rw [List.length_map] at hdl
    obtain ⟨K, hK⟩ : ∃ K, downE (l.map Prod.fst) key = K := ⟨_, rfl⟩
    rw [hK] at hdl
    obtain ⟨x, hx⟩ : ∃ x, l[K]? = some x := ⟨_, List.getElem?_eq_getElem hdl⟩
    have hxe : l[K] = x := by
      rw [List.getElem?_eq_getElem hdl] at hx
      exact Option.some.inj hx
    have hxm : x ∈ l := List.mem_of_getElem? hx
    have hnd : (p :: l.flatMap fun y => y.2.pages).Nodup := hn
    obtain ⟨n1, n2⟩ := List.nodup_cons.1 hnd
    have hlx : x.2.lays c dk.pg := hl.2 x hxm
    have hox : x.2.okT := ho.2 x hxm
    have hnx : x.2.pages.Nodup := by
      obtain ⟨l1, l2, hle, _⟩ := at_split hx
      rw [hle, List.flatMap_append, List.flatMap_cons] at n2
      exact (List.nodup_append.1 (List.nodup_append.1 n2).2.1).1
    have hgx : getT key x.2 ≠ none := by
      have e : getT key (d := n + 1) (p, l) = (l[downE (l.map Prod.fst) key]?).bind fun x => getT key x.2 := rfl
      rw [e, hK, hx] at hg
      exact hg
    have ih := dropT_ok (pg := dk.pg) (key := key) h.f hlx hox hnx
    have iw := fun W (g : Gr w W) => drop_t hTn key (h.gr g) (ht.gr g) hlx hox hnx hgx
    have hall := dropT_ok (pg := dk.pg) (key := key) h.f hl ho hn
    rcases hr : dropT c x.2 key with ⟨c1, u⟩
    rw [hr] at ih iw
    have hpg : u.pg = x.2.pg := ih.page
    have hmap : (l.set K (x.1, u)).map enN = l.map enN := by
      rw [List.map_set]
      have h1 : enN (x.1, u) = enN x := by
        unfold enN
        rw [hpg]
      have hpe : (l.map enN)[K]'(by rw [List.length_map]; exact hdl) = enN x := by rw [List.getElem_map, hxe]
      rw [h1, ← hpe, List.set_getElem_self]
    obtain ⟨s, hs⟩ : ∃ s : Ch × List (ByteArray × T n), (if u.ents.isEmpty then (c1.free (u.pg : Nat), (l.set K (x.1, u)).eraseIdx K) else joinT c1 (l.set K (x.1, u)) K u) = s := ⟨_, rfl⟩
    have e0 : dropT (d := n + 1) c (p, l) key = (s.1.write (p : Nat) (pageE false (s.2.map enN)), (p, s.2)) := by
      refine (dropT.eq_2 c key n ((p, l) : Nat × List (ByteArray × T n))).trans ?_
      simp only [hK, hx, hr, hs]
      rfl
    rw [e0] at hall
    rw [e0]
    have hlen : K < (l.map enN).length := by rw [List.length_map]; exact hdl
    have hpe : (l.map enN)[K] = enN x := by rw [List.getElem_map, hxe]
    have hinS : InU s.1 p := by
      have h1 : HasN (s.1.write (p : Nat) (pageE false (s.2.map enN))) dk.pg false p (s.2.map enN) := hall.lays.1
      have h2 := h1.1
      rw [write_used] at h2
      exact h2
    have hRok : (∀ e ∈ s.2.map enN, e.ok false) ∧ bytesE false (s.2.map enN) ≤ 1024 := by
      cases hse : s.2 with
      | nil => exact ⟨(fun e he => by cases he), bytes_nil false⟩
      | cons a r =>
        have h1 : OkN false (s.2.map enN) := (hall.fits (fun e => by
          have h2 : s.2.map enN = [] := e
          rw [hse] at h2
          cases h2)).1
        rw [← hse]
        exact ⟨h1.2.2, h1.2.1⟩
    have hlu : u.lays c1 dk.pg := ih.lays
    have hul : u.ents.length ≤ 600 := by
      by_cases hem : u.ents = []
      · rw [hem]; simp
      · have hou : u.okT := ih.fits hem
        have h1 := (T.okT_iff.1 hou).1.2.1
        have h2 := sumE_len (isLeaf n) u.ents
        unfold bytesE at h1
        omega
    have hnode := drop_node h ht hTn (p := p) (l := l.map enN) hl.1 ho.1.2.2 ho.1.2.1 key (K := K) (by rw [keysE_N]; exact hK) hlen (c1 := c1) (C2 := s.1) (pb := u.pg) (lc := isLeaf n) (be := u.ents) (R := s.2.map enN) (by
      rw [hpe, hpg]
      exact iw) (fun hbe a0 W sa sb q1 q2 q3 q4 q5 q6 => by
      have hk := drop_kids hl ho hnd hx ih hbe
      have hs2 : s = joinT c1 (l.set K (x.1, u)) K u := by
        rw [← hs, if_neg]
        intro e
        exact hbe (List.isEmpty_iff.1 e)
      have hou := ih.fits hbe
      by_cases hc : 341 < bytesE (isLeaf n) u.ents ∨ (l.set K (x.1, u)).length < 2
      · have e1 : joinT c1 (l.set K (x.1, u)) K u = (c1, l.set K (x.1, u)) := by
          unfold joinT
          rw [if_pos hc]
        rw [hs2, e1, hmap]
        refine (join_stay (TP := TP) (p := p) q3 (k := K) (pb := u.pg) q6 (T.okT_iff.1 hou).1.2.2 hul (by rw [List.length_set] at hc; rw [List.length_map]; exact hc)).mono ?_
        rintro e w' ⟨rfl, g⟩
        exact ⟨_, rfl, q3.gr g, q1.gr g, fun b hb => .inl hb, GrX.of_gr g⟩
      · have hlen2 : 2 ≤ l.length := by
          rw [List.length_set] at hc
          omega
        have hll : (l.set K (x.1, u)).length = l.length := List.length_set
        have hi0 : K - 1 < (l.set K (x.1, u)).length := by omega
        have hi1 : K - 1 + 1 < (l.set K (x.1, u)).length := by omega
        obtain ⟨a, ha⟩ : ∃ a, (l.set K (x.1, u))[K - 1]? = some a := ⟨_, List.getElem?_eq_getElem hi0⟩
        obtain ⟨b, hb⟩ : ∃ b, (l.set K (x.1, u))[K - 1 + 1]? = some b := ⟨_, List.getElem?_eq_getElem hi1⟩
        have ham := List.mem_of_getElem? ha
        have hbm := List.mem_of_getElem? hb
        have ham2 : (l.map enN)[K - 1]? = some (enN a) := by rw [← hmap, List.getElem?_map, ha]; rfl
        have hbm2 : (l.map enN)[K - 1 + 1]? = some (enN b) := by rw [← hmap, List.getElem?_map, hb]; rfl
        have hi0' : K - 1 < (l.map enN).length := by rw [List.length_map]; omega
        have hi1' : K - 1 + 1 < (l.map enN).length := by rw [List.length_map]; omega
        have hga : (l.map enN)[K - 1] = enN a := by
          rw [List.getElem?_eq_getElem hi0'] at ham2
          exact Option.some.inj ham2
        have hgb : (l.map enN)[K - 1 + 1] = enN b := by
          rw [List.getElem?_eq_getElem hi1'] at hbm2
          exact Option.some.inj hbm2
        have hna := (T.lays_iff.1 (hk.lays a ham)).1
        have hnb := (T.lays_iff.1 (hk.lays b hbm)).1
        have hoa := (T.okT_iff.1 (hk.fits a ham)).1
        have hob := (T.okT_iff.1 (hk.fits b hbm)).1
        have hkz : b.1.size ≤ 60 := (hk.ents (enN b) (List.mem_map_of_mem hbm)).key
        have hpp : a.2.pg ≠ b.2.pg := fun e => by
          obtain ⟨l1, l2, hle, _⟩ := two_at ha hb
          have hnd2 := hk.nd
          rw [hle, List.flatMap_append, List.flatMap_cons, List.flatMap_cons] at hnd2
          have h1 := (List.nodup_append.1 (List.nodup_cons.1 hnd2).2).2.1
          exact (List.nodup_append.1 h1).2.2 _ (T.pg_mem a.2) _ (List.mem_append_left _ (T.pg_mem b.2)) e
        have hlE : l.length ≤ 600 := by
          have h1 := ho.1.2.1
          have h2 := sumE_len false (l.map enN)
          have h3 : (l.map enN).length = l.length := List.length_map _
          have h4 : bytesE false (l.map enN) ≤ 1024 := h1
          unfold bytesE at h4
          omega
        have hj := join_go q1 q2 hTn (p := p) (nl := l.map enN) q3 q4 q5 (k := K) (lc := isLeaf n) (pb := u.pg) (be := u.ents) q6 (T.okT_iff.1 hou).1.2.2 hul (fun e => hc (.inl e)) (i := K - 1) hi0' rfl (by omega) hi1' (by rw [List.length_map]; omega) (pa := a.2.pg) (pb2 := b.2.pg) (ea := a.2.ents) (eb := b.2.ents) (key := b.1) (by rw [hga]; rfl) (by rw [hgb]; rfl) (by rw [hgb]; rfl) hna ⟨hoa.2.2, hoa.2.1⟩ hnb ⟨hob.2.2, hob.2.1⟩ hob.1 hkz hpp
        have hje : joinE (isLeaf n) c1 (l.map enN) (K - 1) a.2.pg b.2.pg a.2.ents b.2.ents b.1 = (s.1, s.2.map enN) := by
          rw [hs2]
          by_cases hz : 1024 < bytesE (isLeaf n) (meetE (isLeaf n) a.2.ents b.1 b.2.ents)
          · have e1 : joinT c1 (l.set K (x.1, u)) K u = (c1, l.set K (x.1, u)) := by
              unfold joinT
              rw [if_neg hc, ha, hb]
              exact if_pos (by rw [meet_ents]; exact hz)
            rw [e1, hmap]
            unfold joinE
            rw [if_pos hz]
          · have e1 : joinT c1 (l.set K (x.1, u)) K u = ((c1.write (a.2.pg : Nat) (pageE (isLeaf n) (a.2.meet b.1 b.2).ents)).free (b.2.pg : Nat), ((l.set K (x.1, u)).set (K - 1) (a.1, a.2.meet b.1 b.2)).eraseIdx (K - 1 + 1)) := by
              unfold joinT
              rw [if_neg hc, ha, hb]
              exact if_neg (by rw [meet_ents]; exact hz)
            have e5 : enN (a.1, a.2.meet b.1 b.2) = enN a := by
              unfold enN
              rw [meet_pg]
            rw [e1, map_eraseIdx', List.map_set, hmap, e5, ← hga, List.set_getElem_self, meet_ents]
            unfold joinE
            rw [if_neg hz]
        rw [hje] at hj
        exact hj) (fun hbe => by
      have hs2 : s = (c1.free (u.pg : Nat), (l.set K (x.1, u)).eraseIdx K) := by
        rw [← hs, if_pos]
        rw [hbe]
        rfl
      refine ⟨T.lays_used hlu _ (T.pg_mem u), by rw [hs2], ?_⟩
      rw [hs2, map_eraseIdx', hmap]) hRok hinS (by omega)
    exact hnode
end
end Go.Proofs.Ytmjkalpjciddbaa

/-
  (*Tree).Get.
-/
namespace Go.Proofs.Ytmjkalpjciddbaa
open Go Go.RowKit

def getV : Option ByteArray → Value
  | none => .tuple #[.string noB, errV 7]
  | some s => .tuple #[.string s, .nilIface]
section
variable {w : World} {PB DB M : Nat} {c : Ch} {sv : Head} {t : Int} {d : Dk}
theorem get_step {key : ByteArray} : {n : Nat} → (x : T n) → x.okT → x.lays c d.pg →
    (isLeaf n = true ∧ HasN c d.pg true x.pg x.ents ∧ OkN true x.ents ∧ getT key x = if hitE (keysE x.ents) key then (x.ents[searchE (keysE x.ents) key]?).map En.item else none) ∨
    (isLeaf n = false ∧ HasN c d.pg false x.pg x.ents ∧ OkN false x.ents ∧ downE (keysE x.ents) key < x.ents.length ∧ ∃ m, n = m + 1 ∧ ∃ y : T m, (∃ e, x.ents[downE (keysE x.ents) key]? = some e ∧ e.page = y.pg) ∧ y.okT ∧ y.lays c d.pg ∧ getT key x = getT key y)
  | 0, x, ho, hl => by
    obtain ⟨p, l⟩ : Nat × List (ByteArray × ByteArray) := x
    refine .inl ⟨rfl, hl, ho, ?_⟩
    have hk : keysE (T.ents (d := 0) (p, l)) = l.map Prod.fst := keysE_L l
    rw [hk]
    show (if hitE (l.map Prod.fst) key then (l[searchE (l.map Prod.fst) key]?).map Prod.snd else none) = if hitE (l.map Prod.fst) key then ((l.map enL)[searchE (l.map Prod.fst) key]?).map En.item else none
    rw [List.getElem?_map, Option.map_map]
    rfl
  | n + 1, x, ho, hl => by
    obtain ⟨p, l⟩ : Nat × List (ByteArray × T n) := x
    have hk : keysE (T.ents (d := n + 1) (p, l)) = l.map Prod.fst := keysE_N l
    have hne : l.map Prod.fst ≠ [] := fun e => ho.1.1 (by
      have : l = [] := List.map_eq_nil_iff.1 e
      show l.map enN = []
      rw [this]
      rfl)
    have hdl := downE_lt hne key
    have hdl2 := hdl
    rw [List.length_map] at hdl
    refine .inr ⟨rfl, hl.1, ho.1, ?_, n, rfl, ?_⟩
    · rw [hk]
      show _ < (l.map enN).length
      rw [List.length_map]
      exact hdl
    rw [hk]
    obtain ⟨y, hy⟩ : ∃ y, l[downE (l.map Prod.fst) key]? = some y := ⟨_, List.getElem?_eq_getElem hdl⟩
    have hym : y ∈ l := List.mem_of_getElem? hy
    refine ⟨y.2, ⟨enN y, ?_, rfl⟩, ho.2 y hym, hl.2 y hym, ?_⟩
    · show (l.map enN)[downE (l.map Prod.fst) key]? = _
      rw [List.getElem?_map, hy]
      rfl
    · show ((l[downE (l.map Prod.fst) key]?).bind fun x => getT key x.2) = _
      rw [hy]
      rfl
set_option maxRecDepth 100000 in
set_option maxHeartbeats 4000000 in
theorem get_n (h : PgT w PB DB M c sv t d) {TP root : Nat} (ht : TreeAt w TP PB root) (hr : root < 8) (key : ByteArray) {tr : Tr} (hl : tr.lays c d.pg root) :
    Calls Try.prog 15 #[.pointer (some ⟨TP, 0, none⟩), .string key] w (Ret w (getV (tr.get key))) := by
  have hst := start_n h ht hr
  have HST := Lib.hid hst
  have hrd := fun (W : World) (g : Gr w W) {leaf : Bool} {p : Nat} {l : List En} (hp : HasN c d.pg leaf p l) (hok : OkN leaf l) => read_n (h.gr g).s (ht.gr g) hp hok.2.2 hok.2.1
  have HRD := Lib.hid hrd
  obtain ⟨G, hG⟩ : ∃ G, tr.get key = G := ⟨_, rfl⟩
  rw [hG]
  have HP : Hid ((c.h.roots root = 0 ∧ G = none) ∨ ∃ n, ∃ x : T n, c.h.roots root = (x.pg : Nat) ∧ x.okT ∧ x.lays c d.pg ∧ getT key x = G) := by
    cases tr with
    | none => exact .inl ⟨hl, hG.symm⟩
    | some x => exact .inr ⟨x.1, x.2, hl.1, hl.2.2.1, hl.2.1, hG⟩
  clear hst hrd hG hl
  go_enter Try.func15, Try.ntmps15
  go_wp2_with (go_at_call 25; refine HST.out.mono ?_; rintro e w1 ⟨rfl, hg1⟩)
  have HG1 := Lib.hid hg1
  have HH := Lib.hid (And.intro h ht)
  obtain ⟨N0, hN0⟩ : ∃ N0 : Nat, (c.h.roots root = 0 ∧ G = none) ∨ ∃ n, N0 = n + 1 ∧ ∃ x : T n, c.h.roots root = (x.pg : Nat) ∧ x.okT ∧ x.lays c d.pg ∧ getT key x = G := by
    rcases HP.out with hz | ⟨n, x, hx⟩
    · exact ⟨0, .inl hz⟩
    · exact ⟨n + 1, .inr ⟨n, rfl, x, hx⟩⟩
  have HN0 := Lib.hid hN0
  clear hN0 hg1 HP
  go_loopg [6] N0 (fun k pv wr => Gr w wr ∧ ∃ pg : Nat, pv = .int .i64 (pg : Int) ∧ ((pg = 0 ∧ G = none) ∨ ∃ n, k = n + 1 ∧ ∃ x : T n, pg = x.pg ∧ x.okT ∧ x.lays c d.pg ∧ getT key x = G))
  case atStart =>
    refine ⟨HG1.out, ?_⟩
    rcases HN0.out with ⟨e1, e2⟩ | ⟨n, e1, x, e2, e3⟩
    · exact ⟨0, by rw [e1]; rfl, .inl ⟨rfl, e2⟩⟩
    · exact ⟨x.pg, by rw [e2], .inr ⟨n, e1, x, rfl, e3⟩⟩
  case round =>
    obtain ⟨hg, pg, rfl, hk⟩ := hrel
    rcases hk with ⟨rfl, hG⟩ | ⟨n, rfl, x, rfl, ho, hl, hG⟩
    · have hGe : getV G = .tuple #[.string noB, errV 7] := by rw [hG]; rfl
      have HGE := Lib.hid hGe
      have hRet : Ret w (getV G) (.returned (.tuple #[.string noB, errV 7])) wr := by rw [hGe]; exact Ret.mk rfl hg
      have HRet := Lib.hid hRet
      clear hGe hRet hG hg
      go_wp2_with fail
      go_ret2
      exact HRet.out
    · have hus := (T.lays_used hl _ (T.pg_mem x)).1
      have hst := get_step (key := key) x ho hl
      have hpi : (0 : Int) < (x.pg : Int) := by omega
      have HGr := Lib.hid hg
      rcases hst with ⟨i1, i2, i3, i4⟩ | ⟨i1, i2, i3, i4, m, rfl, y, ⟨en, i6, i7⟩, i8, i9, i10⟩
      · have hrdx := HRD.out _ hg i2 i3
        unfold nodeV at hrdx
        have hln : x.ents.length ≤ 600 := by
          have h1 := sumE_len true x.ents
          have h2 := i3.2.1
          unfold bytesE at h2
          omega
        obtain ⟨l, hle⟩ : ∃ l, x.ents = l := ⟨_, rfl⟩
        obtain ⟨p, hpe⟩ : ∃ p, x.pg = p := ⟨_, rfl⟩
        rw [hle] at hrdx hln
        rw [hG, hle] at i4
        have HI4 := Lib.hid i4
        clear i4 hG
        rw [hpe] at hrdx hpi ⊢
        have HRDX := Lib.hid hrdx
        clear hrdx hg i2 i3 hle hpe ho hl hus
        go_wp2_with fail
        refine HRDX.out.mono ?_
        rintro e w3 ⟨s3, rfl, ho3, hg3⟩
        obtain ⟨ao, ca, rfl⟩ := ho3.form
        have hfn := fun W (g : Gr w3 W) => find_n p true l (.slice ao l.length ca) key W (ho3.isE.gr g) (by omega)
        unfold nodeV at hfn
        simp only [if_true] at hfn
        have HFN := Lib.hid hfn
        clear hfn
        have hga : Gr w3 (w3.alloc (.cells #[.int .i64 (p : Int), .bool true, .slice ao l.length ca] 84)) := (Gr.refl w3).alloc _
        have k0 : (w3.alloc (.cells #[.int .i64 (p : Int), .bool true, .slice ao l.length ca] 84)).cell? ⟨w3.heap.size, 0, none⟩ = some (.int .i64 (p : Int)) := by rw [World.cell?_alloc_new]; rfl
        have k1 : (w3.alloc (.cells #[.int .i64 (p : Int), .bool true, .slice ao l.length ca] 84)).cell? ⟨w3.heap.size, 1, none⟩ = some (.bool true) := by rw [World.cell?_alloc_new]; rfl
        have k2 : (w3.alloc (.cells #[.int .i64 (p : Int), .bool true, .slice ao l.length ca] 84)).cell? ⟨w3.heap.size, 2, none⟩ = some (.slice ao l.length ca) := by rw [World.cell?_alloc_new]; rfl
        go_wp2_with fail
        obtain ⟨NB, hNB⟩ : ∃ NB, w3.heap.size = NB := ⟨_, rfl⟩
        rw [hNB] at k0 k1 k2 ⊢
        refine (HFN.out _ hga).mono ?_
        rintro e w4 ⟨rfl, hg4⟩
        replace k0 := hg4.keeps k0
        replace k1 := hg4.keeps k1
        replace k2 := hg4.keeps k2
        have HG4 := Lib.hid (((HGr.out.trans hg3).trans hga).trans hg4)
        have ho4 := ho3.gr (hga.trans hg4)
        cases hh : hitE (keysE l) key with
        | false =>
          have hRet : Ret w (getV G) (.returned (.tuple #[.string noB, errV 7])) w4 := by
            rw [HI4.out, hh]
            exact Ret.mk rfl HG4.out
          have HRet := Lib.hid hRet
          clear hRet
          go_wp2_with fail
          go_ret2
          exact HRet.out
        | true =>
          have hlt := hitE_lt hh
          have hkl : (keysE l).length = l.length := by unfold keysE; rw [List.length_map]
          obtain ⟨S, hS⟩ : ∃ S, searchE (keysE l) key = S := ⟨_, rfl⟩
          rw [hS] at hlt HI4 ⊢
          have hSl : S < l.length := by omega
          rcases ho4.at' with ⟨_, e2⟩ | ⟨B, cap, e3, h2, h3, h4, h5, h6⟩
          · rw [e2] at hSl
            exact absurd hSl (by simp)
          obtain ⟨rfl, rfl⟩ : ao = some ⟨B, 0, none⟩ ∧ ca = cap := by
            injection e3 with e1 e2 e3
            exact ⟨e1, e3⟩
          obtain ⟨_, b1, _⟩ := h5 S hSl
          rw [Nat.zero_add] at b1
          have hRet : Ret w (getV G) (.returned (.tuple #[.string l[S].item, .nilIface])) w4 := by
            rw [HI4.out, hh, if_pos rfl, List.getElem?_eq_getElem hSl]
            exact Ret.mk rfl HG4.out
          have HRet := Lib.hid hRet
          generalize l[S].item = it at *
          have hSi : (S : Int) < (l.length : Int) := by omega
          clear hRet h5 h6 e3 hkl
          go_wp2_with fail
          go_ret2
          exact HRet.out
      · have hrdx := HRD.out _ hg i2 i3
        unfold nodeV at hrdx
        have hln : x.ents.length ≤ 600 := by
          have h1 := sumE_len false x.ents
          have h2 := i3.2.1
          unfold bytesE at h2
          omega
        obtain ⟨l, hle⟩ : ∃ l, x.ents = l := ⟨_, rfl⟩
        obtain ⟨p, hpe⟩ : ∃ p, x.pg = p := ⟨_, rfl⟩
        rw [hle] at hrdx i4 i6 hln
        rw [hpe] at hrdx hpi ⊢
        have HRDX := Lib.hid hrdx
        rw [hG] at i10
        have HN := Lib.hid (And.intro i8 (And.intro i9 i10.symm))
        clear i8 i9 i10 hG
        clear hrdx hg i2 i3 hle hpe ho hl hus
        go_wp2_with fail
        refine HRDX.out.mono ?_
        rintro e w3 ⟨s3, rfl, ho3, hg3⟩
        obtain ⟨ao, ca, rfl⟩ := ho3.form
        have hfn := fun W (g : Gr w3 W) => find_n p false l (.slice ao l.length ca) key W (ho3.isE.gr g) (by omega)
        unfold nodeV at hfn
        simp only [Bool.false_eq_true, if_false] at hfn
        have HFN := Lib.hid hfn
        clear hfn
        have hga : Gr w3 (w3.alloc (.cells #[.int .i64 (p : Int), .bool false, .slice ao l.length ca] 84)) := (Gr.refl w3).alloc _
        have k0 : (w3.alloc (.cells #[.int .i64 (p : Int), .bool false, .slice ao l.length ca] 84)).cell? ⟨w3.heap.size, 0, none⟩ = some (.int .i64 (p : Int)) := by rw [World.cell?_alloc_new]; rfl
        have k1 : (w3.alloc (.cells #[.int .i64 (p : Int), .bool false, .slice ao l.length ca] 84)).cell? ⟨w3.heap.size, 1, none⟩ = some (.bool false) := by rw [World.cell?_alloc_new]; rfl
        have k2 : (w3.alloc (.cells #[.int .i64 (p : Int), .bool false, .slice ao l.length ca] 84)).cell? ⟨w3.heap.size, 2, none⟩ = some (.slice ao l.length ca) := by rw [World.cell?_alloc_new]; rfl
        go_wp2_with fail
        obtain ⟨NB, hNB⟩ : ∃ NB, w3.heap.size = NB := ⟨_, rfl⟩
        rw [hNB] at k0 k1 k2 ⊢
        refine (HFN.out _ hga).mono ?_
        rintro e w4 ⟨rfl, hg4⟩
        replace k0 := hg4.keeps k0
        replace k1 := hg4.keeps k1
        replace k2 := hg4.keeps k2
        have HG4 := Lib.hid (((HGr.out.trans hg3).trans hga).trans hg4)
        have ho4 := ho3.gr (hga.trans hg4)
        obtain ⟨K, hK⟩ : ∃ K, downE (keysE l) key = K := ⟨_, rfl⟩
        rw [hK] at i4 i6 ⊢
        rcases ho4.at' with ⟨_, e2⟩ | ⟨B, cap, e3, h2, h3, h4, h5, h6⟩
        · rw [e2] at i4
          exact absurd i4 (by simp)
        obtain ⟨rfl, rfl⟩ : ao = some ⟨B, 0, none⟩ ∧ ca = cap := by
          injection e3 with e1 e2 e3
          exact ⟨e1, e3⟩
        obtain ⟨_, _, b2⟩ := h5 K i4
        rw [Nat.zero_add] at b2
        have hen : l[K] = en := by
          rw [List.getElem?_eq_getElem i4] at i6
          exact Option.some.inj i6
        rw [hen, i7] at b2
        have hKi : (K : Int) < (l.length : Int) := by omega
        clear h5 h6 e3 i6 i7 hen
        generalize hitE (keysE l) key = hit at *
        go_wp2_with fail
        go_roundg (m + 1)
        case rel => exact ⟨HG4.out, y.pg, rfl, .inr ⟨m, rfl, y, rfl, HN.out.1, HN.out.2.1, HN.out.2.2⟩⟩
        case measure => omega
end
end Go.Proofs.Ytmjkalpjciddbaa

/-
  A tree at a root: what is put in, taken out, cleared leaves the other trees as they were.
-/
namespace Go.Proofs.Ytmjkalpjciddbaa
open Go Go.RowKit

/-- All pages in use but these are in use, and as they were; so are all roots but one. -/
structure Keep (pg : Nat → ByteArray) (S : List Nat) (i : Nat) (c c' : Ch) : Prop where
  fine : c'.fine
  keep : ∀ k, 1 ≤ k → k < 2000 → c.h.used k = true → k ∉ S → c'.h.used k = true ∧ pageNow pg c'.F k = pageNow pg c.F k
  roots : ∀ j, j ≠ i → c'.h.roots j = c.h.roots j
section
variable {pg : Nat → ByteArray} {i : Nat}
theorem Fr.keepR {S : List Nat} {c c' : Ch} (h : Fr pg S c c') (i : Nat) : Keep pg S i c c' := ⟨h.fine, h.keep, fun j _ => by rw [h.roots]⟩
theorem Keep.refl {c : Ch} (h : c.fine) (S : List Nat) : Keep pg S i c c := ⟨h, fun _ _ _ hu _ => ⟨hu, rfl⟩, fun _ _ => rfl⟩
theorem Keep.trans {S S' : List Nat} {c c1 c2 : Ch} (h : Keep pg S i c c1) (h' : Keep pg S' i c1 c2) (hs : ∀ k ∈ S', k ∈ S ∨ c.h.used k = false) : Keep pg S i c c2 :=
  ⟨h'.fine, fun k h1 h2 hu hn => by
    obtain ⟨a1, a2⟩ := h.keep k h1 h2 hu hn
    obtain ⟨b1, b2⟩ := h'.keep k h1 h2 a1 (fun hm => by
      rcases hs k hm with e | e
      · exact hn e
      · rw [e] at hu; cases hu)
    exact ⟨b1, b2.trans a2⟩, fun j hj => (h'.roots j hj).trans (h.roots j hj)⟩
theorem Keep.set {c : Ch} {p n : Int} (h : (⟨c.h.setRoot i p n, c.F⟩ : Ch).fine) : Keep pg [] i c ⟨c.h.setRoot i p n, c.F⟩ :=
  ⟨h, fun _ _ _ hu _ => ⟨hu, rfl⟩, fun j hj => by
    show (if j = i then p else c.h.roots j) = _
    rw [if_neg hj]⟩
theorem set_root {c : Ch} (p n : Int) : (⟨c.h.setRoot i p n, c.F⟩ : Ch).h.roots i = p := by
  show (if i = i then p else c.h.roots i) = p
  rw [if_pos rfl]
theorem Ch.fine.set {c : Ch} (h : c.fine) (i : Nat) {p n : Int} (hp : 0 ≤ p ∧ p < 2000) (hn : 0 ≤ n ∧ n < 65536) : (⟨c.h.setRoot i p n, c.F⟩ : Ch).fine := ⟨fine_set h.head i hp hn, h.dirty⟩
theorem T.lays_set {c : Ch} {p n : Int} : {d : Nat} → {t : T d} → t.lays c pg → t.lays ⟨c.h.setRoot i p n, c.F⟩ pg
  | 0, t, h => h
  | d + 1, t, h => ⟨h.1, fun x hx => T.lays_set (h.2 x hx)⟩
theorem Keep.hasN {S : List Nat} {c c' : Ch} (h : Keep pg S i c c') {leaf : Bool} {p : Nat} {l : List En} (hk : HasN c pg leaf p l) (hn : p ∉ S) : HasN c' pg leaf p l :=
  ⟨⟨hk.1.1, hk.1.2.1, (h.keep p hk.1.1 hk.1.2.1 hk.1.2.2 hn).1⟩, (h.keep p hk.1.1 hk.1.2.1 hk.1.2.2 hn).2.trans hk.2⟩
theorem T.lays_keep {S : List Nat} {c c' : Ch} (g : Keep pg S i c c') : {d : Nat} → {t : T d} → t.lays c pg → (∀ k ∈ t.pages, k ∉ S) → t.lays c' pg
  | 0, t, h, hn => g.hasN h (hn _ (by unfold T.pages; exact List.mem_singleton.2 rfl))
  | d + 1, t, h, hn => ⟨g.hasN h.1 (hn _ (by unfold T.pages; exact List.mem_cons_self)), fun x hx => T.lays_keep g (h.2 x hx) fun k hk => hn k (by
    unfold T.pages
    exact List.mem_cons_of_mem _ (List.mem_flatMap.2 ⟨x, hx, hk⟩))⟩
/-- A tree was changed: it is one again; its pages were its own, or in no use. -/
structure TrOk (pg : Nat → ByteArray) (i : Nat) (c : Ch) (X : Tr) (c' : Ch) (X' : Tr) : Prop where
  k : Keep pg X.pages i c c'
  lays : X'.lays c' pg i
  sub : ∀ k ∈ X'.pages, k ∈ X.pages ∨ c.h.used k = false
theorem TrOk.refl {c : Ch} {X : Tr} (hc : c.fine) (h : X.lays c pg i) : TrOk pg i c X c X := ⟨Keep.refl hc _, h, fun _ h => .inl h⟩
/-- Two trees, apart. -/
structure TwoTr (pg : Nat → ByteArray) (c : Ch) (i j : Nat) (X Y : Tr) : Prop where
  fine : c.fine
  x : X.lays c pg i
  y : Y.lays c pg j
  dj : ∀ k ∈ X.pages, k ∉ Y.pages
theorem TwoTr.swap {c : Ch} {j : Nat} {X Y : Tr} (h : TwoTr pg c i j X Y) : TwoTr pg c j i Y X := ⟨h.fine, h.y, h.x, fun k h1 h2 => h.dj k h2 h1⟩
theorem Tr.used {c : Ch} {X : Tr} (h : X.lays c pg i) : ∀ k ∈ X.pages, InU c k := by
  cases X with
  | none => intro k hk; cases hk
  | some t => exact T.lays_used h.2.1
theorem Tr.keep {c c' : Ch} {S : List Nat} {j : Nat} {Y : Tr} (hy : Y.lays c pg j) (g : Keep pg S i c c') (hij : j ≠ i) (hn : ∀ k ∈ Y.pages, k ∉ S) : Y.lays c' pg j := by
  cases Y with
  | none =>
    have hy : c.h.roots j = 0 := hy
    exact (g.roots j hij).trans hy
  | some t => exact ⟨(g.roots j hij).trans hy.1, T.lays_keep g hy.2.1 hn, hy.2.2⟩
theorem TwoTr.act {c c' : Ch} {j : Nat} {X Y X' : Tr} (h : TwoTr pg c i j X Y) (hij : j ≠ i) (g : TrOk pg i c X c' X') : TwoTr pg c' i j X' Y :=
  ⟨g.k.fine, g.lays, Tr.keep h.y g.k hij fun k hk hx => h.dj k hx hk, fun k hk hy => by
    rcases g.sub k hk with e | e
    · exact h.dj k e hy
    · rw [(Tr.used h.y k hy).2.2] at e
      cases e⟩
/-- The sum alone is changed. -/
theorem TrOk.more {c c' : Ch} {X X' : Tr} (h : TrOk pg i c X c' X') (hi : i < 8) (m : Int) : TrOk pg i c X (moreT c' i m).1 X' := by
  unfold moreT
  split
  · rename_i hm
    have hf := h.k.fine.set i (h.k.fine.head.root i hi) hm
    refine ⟨h.k.trans (Keep.set hf) (fun k hk => by cases hk), ?_, h.sub⟩
    cases X' with
    | none =>
      have := h.lays
      exact (set_root _ _).trans this
    | some t => exact ⟨(set_root _ _).trans h.lays.1, T.lays_set h.lays.2.1, h.lays.2.2⟩
  · exact h
theorem head_key {d : Nat} {u : T d} (ho : u.okT) : ((u.ents.head?.map En.key).getD noB).size ≤ 60 := by
  have ho := (T.okT_iff.1 ho).1.2.2
  cases he : u.ents with
  | nil => show (0 : Nat) ≤ 60; omega
  | cons e r =>
    rw [he] at ho
    exact (ho e List.mem_cons_self).key
/-- Two nodes below a new one. -/
def twoE (k1 : ByteArray) (p1 : Nat) (k2 : ByteArray) (p2 : Nat) : List En := [⟨k1, noB, p1⟩, ⟨k2, noB, p2⟩]
theorem twoE_ok {k1 k2 : ByteArray} {p1 p2 : Nat} (h1 : k1.size ≤ 60) (h2 : k2.size ≤ 60) (g1 : p1 < 2000) (g2 : p2 < 2000) : OkN false (twoE k1 p1 k2 p2) := by
  refine ⟨(fun h => by cases h), ?_, fun e he => ?_⟩
  · unfold twoE bytesE
    rw [sumE_cons, sumE_cons]
    unfold En.sz sumE
    simp
    omega
  · unfold twoE at he
    simp at he
    rcases he with rfl | rfl
    · exact ⟨h1, by show (0 : Nat) ≤ 100; omega, g1, (fun h => by cases h), fun _ => rfl⟩
    · exact ⟨h2, by show (0 : Nat) ≤ 100; omega, g2, (fun h => by cases h), fun _ => rfl⟩
theorem oneE_ok {key item : ByteArray} (h1 : key.size ≤ 60) (h2 : item.size ≤ 100) : OkN true [⟨key, item, 0⟩] := by
  refine ⟨(fun h => by cases h), ?_, fun e he => ?_⟩
  · unfold bytesE
    rw [sumE_cons]
    unfold En.sz sumE
    simp
    omega
  · simp at he
    rw [he]
    exact ⟨h1, h2, by show (0 : Nat) < 2000; omega, fun _ => rfl, (fun h => by cases h)⟩
theorem putsT_ok {c : Ch} {X : Tr} (hc : c.fine) (h : X.lays c pg i) (hi : i < 8) {key item : ByteArray} (hk : key.size ≤ 60) (hit : item.size ≤ 100) : TrOk pg i c X (putsT c i X key item).1 (putsT c i X key item).2.1 := by
  cases X with
  | none =>
    unfold putsT
    cases ha : allocF c.h with
    | none => exact TrOk.refl hc h
    | some k =>
      obtain ⟨f1, u1, n1, k1, k2⟩ := alloc_fr (pg := pg) hc ha
      have ho := oneE_ok hk hit
      obtain ⟨f2, u2, e2⟩ := write_fr (pg := pg) f1.fine u1 (pageE_size ho.2.2 ho.2.1)
      have hf := f2.fine.set i (p := (k : Nat)) (n := ((c.alloc.write (k : Nat) (pageE true [⟨key, item, 0⟩])).h.notes i)) (by omega) (f2.fine.head.note i hi)
      have kp : Keep pg [] i c (c.alloc.write (k : Nat) (pageE true [⟨key, item, 0⟩])) := (f1.keepR i).trans (f2.keepR i) fun j hj => .inr (by rw [List.mem_singleton.1 hj]; exact n1)
      refine ⟨kp.trans (Keep.set hf) (fun k hk => by cases hk), ⟨set_root _ _, ⟨u2, e2⟩, ho, ?_⟩, fun j hj => .inr ?_⟩
      · show ([k] : List Nat).Nodup
        simp
      · have : j ∈ ([k] : List Nat) := hj
        rw [List.mem_singleton.1 this]
        exact n1
  | some x =>
    obtain ⟨d, t⟩ := x
    obtain ⟨hr, hl, ho, hn⟩ := h
    have hp := putT_ok (pg := pg) hk hit hc hl ho hn
    rcases he : putT c t key item with ⟨c1, u, r⟩
    rw [he] at hp
    have hsame : TrOk pg i c (some ⟨d, t⟩) c1 (some ⟨d, u⟩) := by
      refine ⟨hp.fr.keepR i, ⟨?_, hp.lays, hp.fits, hp.nd⟩, hp.sub⟩
      show c1.h.roots i = (u.pg : Nat)
      have e1 : c1.h.roots = c.h.roots := hp.fr.roots
      have e2 : u.pg = t.pg := hp.page
      rw [e1, e2]
      exact hr
    rcases r with _ | _ | m
    · unfold putsT
      simp only [he]
      exact hsame
    · unfold putsT
      simp only [he]
      exact hsame
    · cases ha : allocF c1.h with
      | none =>
        unfold putsT
        simp only [he, ha]
        exact hsame
      | some k =>
        unfold putsT
        simp only [he, ha]
        obtain ⟨ml, mo, mk, ms, mn⟩ := hp.more m rfl
        have ml : m.2.lays c1 pg := ml
        have mo : m.2.okT := mo
        have ms : ∀ k ∈ m.2.pages, k ∈ t.pages ∨ c.h.used k = false := ms
        have mn : (u.pages ++ m.2.pages).Nodup := mn
        have ul : u.lays c1 pg := hp.lays
        have uo : u.okT := hp.fits
        obtain ⟨f1, u1, n1, k1, k2⟩ := alloc_fr (pg := pg) hp.fr.fine ha
        have uu := T.lays_used ul
        have mu := T.lays_used ml
        have ho2 := twoE_ok (p1 := u.pg) (p2 := m.2.pg) (head_key uo) mk (uu _ (T.pg_mem u)).2.1 (mu _ (T.pg_mem m.2)).2.1
        obtain ⟨f2, u2, e2⟩ := write_fr (pg := pg) f1.fine u1 (pageE_size ho2.2.2 ho2.2.1)
        have hf := f2.fine.set i (p := (k : Nat)) (n := ((c1.alloc.write (k : Nat) (pageE false (twoE ((u.ents.head?.map En.key).getD noB) u.pg m.1 m.2.pg))).h.notes i)) (by omega) (f2.fine.head.note i hi)
        have fr2 : Fr pg [k] c1 (c1.alloc.write (k : Nat) (pageE false (twoE ((u.ents.head?.map En.key).getD noB) u.pg m.1 m.2.pg))) := (f1.wide (S' := [k]) fun j hj => by cases hj).trans f2 fun j hj => .inl hj
        have nk : ∀ j, InU c1 j → j ∉ ([k] : List Nat) := fun j hj hm => by
          have := List.mem_singleton.1 hm
          rw [this] at hj
          have := hj.2.2
          rw [n1] at this
          cases this
        have hkf : k ∈ t.pages ∨ c.h.used k = false := by
          by_cases hu : c.h.used k = true
          · by_cases hm : k ∈ t.pages
            · exact .inl hm
            · have := (hp.fr.keep k k1 k2 hu hm).1
              rw [n1] at this
              cases this
          · exact .inr (by simpa using hu)
        have kp : Keep pg t.pages i c (c1.alloc.write (k : Nat) (pageE false (twoE ((u.ents.head?.map En.key).getD noB) u.pg m.1 m.2.pg))) := (hp.fr.keepR i).trans (fr2.keepR i) fun j hj => by rw [List.mem_singleton.1 hj]; exact hkf
        refine ⟨kp.trans (Keep.set hf) (fun k hk => by cases hk), ⟨set_root _ _, ⟨⟨u2, e2⟩, fun y hy => ?_⟩, ⟨ho2, fun y hy => ?_⟩, ?_⟩, fun j hj => ?_⟩
        · refine T.lays_set ?_
          have hy : y ∈ [((u.ents.head?.map En.key).getD noB, u), m] := hy
          rcases List.mem_cons.1 hy with e | hy
          · rw [e]
            exact T.lays_fr fr2 ul fun j hj => nk j (uu j hj)
          · rw [List.mem_singleton.1 hy]
            exact T.lays_fr fr2 ml fun j hj => nk j (mu j hj)
        · have hy : y ∈ [((u.ents.head?.map En.key).getD noB, u), m] := hy
          rcases List.mem_cons.1 hy with e | hy
          · rw [e]
            exact uo
          · rw [List.mem_singleton.1 hy]
            exact mo
        · show (k :: (u.pages ++ (m.2.pages ++ []))).Nodup
          rw [List.append_nil]
          refine List.nodup_cons.2 ⟨fun hm => ?_, mn⟩
          rcases List.mem_append.1 hm with hm | hm
          · exact nk k (uu k hm) (List.mem_singleton.2 rfl)
          · exact nk k (mu k hm) (List.mem_singleton.2 rfl)
        · have hj : j ∈ k :: (u.pages ++ (m.2.pages ++ [])) := hj
          rw [List.append_nil] at hj
          rcases List.mem_cons.1 hj with e | hj
          · rw [e]
            exact hkf
          rcases List.mem_append.1 hj with hj | hj
          · exact hp.sub j hj
          · exact ms j hj
theorem putR_ok {c : Ch} {X : Tr} (hc : c.fine) (h : X.lays c pg i) (hi : i < 8) (key item : ByteArray) : TrOk pg i c X (putR c i X key item).1 (putR c i X key item).2.1 := by
  unfold putR
  split
  · exact TrOk.refl hc h
  rename_i hs
  split
  · exact TrOk.refl hc h
  have hp := putsT_ok hc h hi (key := key) (item := item) (by omega) (by omega)
  rcases he : putsT c i X key item with ⟨c1, u, n⟩
  rw [he] at hp
  cases n with
  | zero => exact hp.more hi _
  | succ n => exact hp
theorem dropsT_ok {c : Ch} {X : Tr} (hc : c.fine) (h : X.lays c pg i) (hi : i < 8) (key : ByteArray) : TrOk pg i c X (dropsT c i X key).1 (dropsT c i X key).2 := by
  cases X with
  | none => exact TrOk.refl hc h
  | some x =>
    obtain ⟨d, t⟩ := x
    obtain ⟨hr, hl, ho, hn⟩ := h
    have hp := dropT_ok (pg := pg) (key := key) hc hl ho hn
    rcases he : dropT c t key with ⟨c1, u⟩
    rw [he] at hp
    have hfr : Fr pg t.pages c c1 := hp.fr
    have hpg : u.pg = t.pg := hp.page
    have hlu : u.lays c1 pg := hp.lays
    have hsu : ∀ k ∈ u.pages, k ∈ t.pages := hp.sub
    have hnu : u.pages.Nodup := hp.nd
    have hru : c1.h.roots i = (u.pg : Nat) := by
      rw [hfr.roots, hpg]
      exact hr
    have hut : InU c1 t.pg := by
      rw [← hpg]
      exact T.lays_used hlu _ (T.pg_mem u)
    have f2 := free_fr (pg := pg) hfr.fine hut
    have kf : Keep pg t.pages i c (c1.free (t.pg : Nat)) := (hfr.keepR i).trans (f2.keepR i) fun k hk => .inl (by rw [List.mem_singleton.1 hk]; exact T.pg_mem t)
    have hsame : u.ents ≠ [] → TrOk pg i c (some ⟨d, t⟩) c1 (some ⟨d, u⟩) := fun hne => ⟨hfr.keepR i, ⟨hru, hlu, hp.fits hne, hnu⟩, fun k hk => .inl (hsu k hk)⟩
    have hgone : TrOk pg i c (some ⟨d, t⟩) ((c1.free (t.pg : Nat)).root i 0) none := by
      have hf := f2.fine.set i (p := 0) (n := (c1.free (t.pg : Nat)).h.notes i) (by omega) (f2.fine.head.note i hi)
      exact ⟨kf.trans (Keep.set hf) (fun k hk => by cases hk), set_root _ _, fun k hk => by cases hk⟩
    cases d with
    | zero =>
      unfold dropsT
      simp only [he]
      split
      · exact hgone
      · rename_i hem
        exact hsame fun e => hem (by rw [e]; rfl)
    | succ d =>
      obtain ⟨p, l⟩ : Nat × List (ByteArray × T d) := u
      unfold dropsT
      simp only [he]
      split
      · exact hgone
      rename_i hem
      have hne : T.ents (d := d + 1) (p, l) ≠ [] := fun e => hem (by rw [e]; rfl)
      have hs := hsame hne
      have hx1 : ∀ x, l = [x] → TrOk pg i c (some ⟨d + 1, t⟩) ((c1.free (t.pg : Nat)).root i (T.pg (d := d) x.2 : Nat)) (some ⟨d, x.2⟩) := by
        intro x hx
        subst hx
        have hlx : x.2.lays c1 pg := hlu.2 x List.mem_cons_self
        have hox : x.2.okT := (hp.fits hne).2 x List.mem_cons_self
        have hpx : T.pages (d := d + 1) (p, [x]) = p :: (x.2.pages ++ []) := rfl
        rw [List.append_nil] at hpx
        rw [hpx] at hnu hsu
        obtain ⟨n1, n2⟩ := List.nodup_cons.1 hnu
        have hpt : p = t.pg := hpg
        have hlf : x.2.lays (c1.free (t.pg : Nat)) pg := T.lays_fr f2 hlx fun k hk hm => by
          rw [List.mem_singleton.1 hm, ← hpt] at hk
          exact n1 hk
        have hux := T.lays_used hlx _ (T.pg_mem x.2)
        have hf := f2.fine.set i (p := (x.2.pg : Nat)) (n := (c1.free (t.pg : Nat)).h.notes i) (by have := hux.2.1; omega) (f2.fine.head.note i hi)
        exact ⟨kf.trans (Keep.set hf) (fun k hk => by cases hk), ⟨set_root _ _, T.lays_set hlf, hox, n2⟩, fun k hk => .inl (hsu k (List.mem_cons_of_mem _ hk))⟩
      rcases l with _ | ⟨x, _ | ⟨y, r⟩⟩
      · exact hs
      · exact hx1 x rfl
      · exact hs
theorem dropR_ok {c : Ch} {X : Tr} (hc : c.fine) (h : X.lays c pg i) (hi : i < 8) (key : ByteArray) : TrOk pg i c X (dropR c i X key).1 (dropR c i X key).2.1 := by
  unfold dropR
  cases X.get key with
  | none => exact TrOk.refl hc h
  | some old => exact (dropsT_ok hc h hi key).more hi _
theorem clearR_ok {c : Ch} {X : Tr} (hc : c.fine) (h : X.lays c pg i) : TrOk pg i c X (clearR c i X) none := by
  cases X with
  | none =>
    have hf := hc.set i (p := 0) (n := 0) (by omega) (by omega)
    exact ⟨(Keep.refl hc []).trans (Keep.set hf) (fun k hk => by cases hk), set_root _ _, fun k hk => by cases hk⟩
  | some t =>
    have h1 := clearT_ok (pg := pg) hc h.2.1 h.2.2.2
    have hf := h1.fine.set i (p := 0) (n := 0) (by omega) (by omega)
    exact ⟨(h1.keepR i).trans (Keep.set hf) (fun k hk => by cases hk), set_root _ _, fun k hk => by cases hk⟩
end
end Go.Proofs.Ytmjkalpjciddbaa

/-
  (*Tree).puts in a tree without pages.
-/
namespace Go.Proofs.Ytmjkalpjciddbaa
open Go Go.RowKit

theorem setS_zero {c : Ch} (h : c.fine) {i : Nat} (hi : i < 8) (p : Int) : setS c i p 0 = (c.root i p, 0) := by
  have hn := h.head.note i hi
  unfold setS Ch.root
  rw [Int.add_zero, if_pos hn]
theorem one_isE (w : World) (key item : ByteArray) (pg : Nat) : IsE (w.alloc (.cells #[.string key, .string item, .int .i64 (pg : Int)] 72)) (.slice (some ⟨w.heap.size, 0, none⟩) 1 1) [⟨key, item, pg⟩] := by
  have : OneE (w.alloc (.cells #[.string key, .string item, .int .i64 (pg : Int)] 72)) w.heap.size ⟨key, item, pg⟩ := ⟨by show (w.heap.push _)[w.heap.size]? = _; rw [Array.getElem?_push_size]; rfl⟩
  exact this.isE
section
variable {w : World} {PB DB M : Nat} {c : Ch} {sv : Head} {t : Int} {d : Dk}
set_option maxRecDepth 100000 in
set_option maxHeartbeats 4000000 in
theorem puts_none (h : PgT w PB DB M c sv t d) {TP root : Nat} (ht : TreeAt w TP PB root) (hTn : TP ≠ PB ∧ TP ≠ DB ∧ TP ≠ M) (hr : root < 8) (key item : ByteArray) (hk : key.size ≤ 60) (hi : item.size ≤ 100) (h0 : c.h.roots root = 0) :
    Calls Try.prog 23 #[.pointer (some ⟨TP, 0, none⟩), .agg #[.string key, .string item, .int .i64 0]] w fun e w' => e = .returned (errV (putsT c root none key item).2.2) ∧ PgT w' PB DB M (putsT c root none key item).1 sv t d ∧ PgF PB DB M M w w' := by
  have hlw := h.lt
  have htl := lt_of_cell ht.p
  have gE : Gr w (w.alloc (.cells #[.string key, .string item, .int .i64 0] 72)) := (Gr.refl w).alloc _
  have e0 : (w.alloc (.cells #[.string key, .string item, .int .i64 0] 72)).cell? ⟨w.heap.size, 0, none⟩ = some (.string key) := by rw [World.cell?_alloc_new]; rfl
  have e1 : (w.alloc (.cells #[.string key, .string item, .int .i64 0] 72)).cell? ⟨w.heap.size, 1, none⟩ = some (.string item) := by rw [World.cell?_alloc_new]; rfl
  have e2 : (w.alloc (.cells #[.string key, .string item, .int .i64 0] 72)).cell? ⟨w.heap.size, 2, none⟩ = some (.int .i64 0) := by rw [World.cell?_alloc_new]; rfl
  have hst := start_n (h.gr gE) (ht.gr gE) hr
  rw [h0] at hst
  have HST := Lib.hid hst
  have HE := Lib.hid gE
  have hEW : w.heap.size < (w.alloc (.cells #[.string key, .string item, .int .i64 0] 72)).heap.size := by simp
  obtain ⟨PR, hPR⟩ : ∃ PR, putsT c root none key item = PR := ⟨_, rfl⟩
  rw [hPR]
  have HPR := Lib.hid hPR
  clear hst gE hPR
  go_enter Try.func23, Try.ntmps23
  go_wp2_with fail
  obtain ⟨WE, hWE⟩ : ∃ WE, w.alloc (.cells #[.string key, .string item, .int .i64 0] 72) = WE := ⟨_, rfl⟩
  rw [hWE] at e0 e1 e2 HST HE hEW ⊢
  clear hWE
  obtain ⟨EB, hEB⟩ : ∃ EB, w.heap.size = EB := ⟨_, rfl⟩
  rw [hEB] at e0 e1 e2 hEW hlw htl ⊢
  have HEB := Lib.hid hEB
  clear hEB
  refine HST.out.mono ?_
  rintro e w1 ⟨rfl, hg1⟩
  replace e0 := hg1.keeps e0
  replace e1 := hg1.keeps e1
  replace e2 := hg1.keeps e2
  have hE1 : EB < w1.heap.size := lt_of_cell e0
  have hG1 := HE.out.trans hg1
  have ht1 := ht.gr hG1
  have tp := ht1.p
  have hal := alloc_t (h.gr hG1)
  have HAL := Lib.hid hal
  have HT1 := Lib.hid ht1
  have HG1 := Lib.hid hG1
  have hEP : EB ≠ PB ∧ EB ≠ DB ∧ EB ≠ M := by omega
  have HF := Lib.hid h.f
  clear hg1 hG1 ht1 hal
  cases ha : allocF c.h with
  | none =>
    have hav : allocV c = .tuple #[.int .i64 0, .iface 56 (.int .i64 12)] := by
      unfold allocV
      rw [ha]
    have hce : c.alloc = c := by
      unfold Ch.alloc
      rw [ha]
    rw [hav, hce] at HAL
    have hpr : PR = (c, none, 12) := by
      rw [← HPR.out]
      unfold putsT
      rw [ha]
    have HP := Lib.hid hpr
    clear hav hce ha hpr
    go_wp2_with fail
    refine HAL.out.mono ?_
    rintro e w2 ⟨rfl, hp2, hf2⟩
    have HX := Lib.hid (And.intro hp2 hf2)
    clear hp2 hf2
    go_wp2_with fail
    go_ret
    exact ⟨by rw [HP.out]; rfl, by rw [HP.out]; exact HX.out.1, (PgF.of_gr PB DB M HG1.out).trans HX.out.2⟩
  | some k =>
    have hav : allocV c = .tuple #[.int .i64 (k : Int), .nilIface] := by
      unfold allocV
      rw [ha]
    rw [hav] at HAL
    obtain ⟨f1, u1, n1, k1, k2⟩ := alloc_fr (pg := d.pg) HF.out ha
    have ho := oneE_ok (key := key) (item := item) hk hi
    obtain ⟨f2, u2, _⟩ := write_fr (pg := d.pg) f1.fine u1 (pageE_size ho.2.2 ho.2.1)
    have hpr : PR = ((c.alloc.write (k : Nat) (pageE true [⟨key, item, 0⟩])).root root (k : Nat), some ⟨0, (k, [(key, item)])⟩, 0) := by
      rw [← HPR.out]
      unfold putsT
      rw [ha]
    have hss := setS_zero f2.fine hr (k : Nat)
    have HP := Lib.hid hpr
    have HSS := Lib.hid hss
    have HOO := Lib.hid ho
    have HU1 := Lib.hid u1
    clear hav ha hpr hss ho u1 u2 f1 f2 n1
    go_wp2_with fail
    refine HAL.out.mono ?_
    rintro e w2 ⟨rfl, hp2, hf2⟩
    have hE2 : EB < w2.heap.size := Nat.lt_of_lt_of_le hE1 hf2.size
    replace e0 := hf2.keeps hEP.1 hEP.2.1 hEP.2.2 e0
    replace e1 := hf2.keeps hEP.1 hEP.2.1 hEP.2.2 e1
    replace e2 := hf2.keeps hEP.1 hEP.2.1 hEP.2.2 e2
    have ht2 := HT1.out.pg hf2 hTn.1 hTn.2.1 hTn.2.2
    have gS : Gr w2 (w2.alloc (.cells #[.string key, .string item, .int .i64 0] 72)) := (Gr.refl w2).alloc _
    have hwr := write_n (hp2.gr gS) (ht2.gr gS) (p := k) (one_isE w2 key item 0) HOO.out.2.2 HOO.out.2.1 HU1.out
    unfold nodeV at hwr
    have HWR := Lib.hid hwr
    have HT2 := Lib.hid (ht2.gr gS)
    have HF2 := Lib.hid (((PgF.of_gr PB DB M HG1.out).trans hf2).trans (PgF.of_gr PB DB M gS))
    clear hp2 hf2 ht2 gS hwr
    go_wp2_with fail
    refine HWR.out.mono ?_
    rintro e w4 ⟨rfl, hp4, hf4⟩
    have hst := set_n hp4 (HT2.out.pg hf4 hTn.1 hTn.2.1 hTn.2.2) hTn hr (p := (k : Int)) (more := 0) (by omega) (by omega)
    rw [HSS.out] at hst
    have HST4 := Lib.hid hst
    have HF4 := Lib.hid (HF2.out.trans hf4)
    clear hp4 hf4 hst
    go_wp2_with fail
    refine HST4.out.mono ?_
    rintro e w5 ⟨rfl, hp5, hf5⟩
    have HX := Lib.hid (And.intro hp5 (HF4.out.trans hf5))
    clear hp5 hf5
    have hev : errV 0 = .nilIface := rfl
    rw [hev]
    go_wp2_with fail
    go_ret
    exact ⟨by rw [HP.out]; rfl, by rw [HP.out]; exact HX.out.1, HX.out.2⟩
end
end Go.Proofs.Ytmjkalpjciddbaa
