/-
  TreesApart's closure: a list of acts on a tree.
-/
import Derived.Test.YtmjkalpjciddbaaMg18
import Derived.ProofKit
import Derived.Deep.Slices
import Derived.Deep.Fields
import Derived.ChangeSame
import Derived.ChangeOld
import Derived.Below
namespace Go.Proofs.Ytmjkalpjciddbaa
open Go Go.RowKit

/-- One of a tree's acts. -/
structure GPut where
  what : Int
  key : ByteArray
  item : ByteArray
def PutsAt (w : World) (b off : Nat) (l : List GPut) : Prop :=
  ∀ i (h : i < l.length), w.cell? ⟨b, off + i * 3, none⟩ = some (.int .i64 l[i].what) ∧ w.cell? ⟨b, off + i * 3 + 1, none⟩ = some (.string l[i].key) ∧ w.cell? ⟨b, off + i * 3 + 2, none⟩ = some (.string l[i].item)
def PutsV (w : World) (v : Value) (l : List GPut) : Prop := (v = .slice none 0 0 ∧ l = []) ∨ ∃ b off c, v = .slice (some ⟨b, off, none⟩) l.length c ∧ b < w.heap.size ∧ PutsAt w b off l
theorem PutsV.gr {w w' : World} {v : Value} {l : List GPut} (h : PutsV w v l) (g : Gr w w') : PutsV w' v l := by
  rcases h with h | ⟨b, off, c, h1, h2, h3⟩
  · exact .inl h
  · exact .inr ⟨b, off, c, h1, Nat.lt_of_lt_of_le h2 g.size, fun i hi => ⟨g.keeps (h3 i hi).1, g.keeps (h3 i hi).2.1, g.keeps (h3 i hi).2.2⟩⟩
theorem PutsV.form {w : World} {v : Value} {l : List GPut} (h : PutsV w v l) : ∃ ao c, v = .slice ao l.length c := by
  rcases h with ⟨rfl, rfl⟩ | ⟨b, off, c, rfl, _⟩
  · exact ⟨none, 0, rfl⟩
  · exact ⟨_, c, rfl⟩
theorem TrOk.trans {pg : Nat → ByteArray} {i : Nat} {c c1 c2 : Ch} {X X1 X2 : Tr} (h : TrOk pg i c X c1 X1) (k : TrOk pg i c1 X1 c2 X2) : TrOk pg i c X c2 X2 := by
  have hfree : ∀ j, 1 ≤ j → j < 2000 → c1.h.used j = false → j ∈ X.pages ∨ c.h.used j = false := fun j h1 h2 hu => by
    by_cases hc : c.h.used j = true
    · by_cases hm : j ∈ X.pages
      · exact .inl hm
      · have := (h.k.keep j h1 h2 hc hm).1
        rw [hu] at this
        cases this
    · exact .inr (by simpa using hc)
  refine ⟨h.k.trans k.k fun j hj => h.sub j hj, k.lays, fun j hj => ?_⟩
  rcases k.sub j hj with e | e
  · exact h.sub j e
  · have hu := Tr.used k.lays j hj
    exact hfree j hu.1 hu.2.1 e
/-- Old blocks are as they were. -/
theorem PgF.old {PB DB M : Nat} {w0 w w' : World} (h : PgF PB DB M M w w') (g0 : Gr w0 w) (hb : w0.heap.size ≤ PB ∧ w0.heap.size ≤ DB ∧ w0.heap.size ≤ M) : Gr w0 w' :=
  h.2.gr g0 fun k e => e.elim (fun e => by omega) fun e => e.elim (fun e => by omega) fun e => by omega
/-- Acts were carried out on a tree. -/
def ActsP (PB DB M : Nat) (sv : Head) (t : Int) (d : Dk) (root : Nat) (c : Ch) (tr : Tr) (w w' : World) : Prop := ∃ c' X', PgT w' PB DB M c' sv t d ∧ TrOk d.pg root c tr c' X' ∧ PgF PB DB M M w w'
section
variable {w w0 : World} {PB DB M : Nat} {c : Ch} {sv : Head} {t : Int} {d : Dk}
set_option maxRecDepth 100000 in
set_option maxHeartbeats 4000000 in
theorem acts_k (h : PgT w PB DB M c sv t d) {TP root : Nat} (ht : TreeAt w TP PB root) (hTn : TP ≠ PB ∧ TP ≠ DB ∧ TP ≠ M) (hr : root < 8) {tr : Tr} (hl : tr.lays c d.pg root) {v : Value} {l : List GPut} (hv : PutsV w0 v l) (hg0 : Gr w0 w) (hb : w0.heap.size ≤ PB ∧ w0.heap.size ≤ DB ∧ w0.heap.size ≤ M) (hln : l.length ≤ 1000) :
    Calls Try.prog 7 #[.pointer (some ⟨TP, 0, none⟩), v] w fun e w' => e = .returned (.tuple #[]) ∧ ActsP PB DB M sv t d root c tr w w' := by
  obtain ⟨ao, ca, rfl⟩ := hv.form
  have HV := Lib.hid hv
  have HG0 := Lib.hid hg0
  have HT := Lib.hid ht
  have HP := Lib.hid h
  have HL := Lib.hid (TrOk.refl h.f hl)
  clear hv hg0 ht h hl
  go_enter Try.func7, Try.ntmps7
  go_wp2_with fail
  go_loopw [4] (fun iv w' => ∃ i : Nat, i ≤ l.length ∧ iv = .int .i64 i ∧ ActsP PB DB M sv t d root c tr w w') (fun iv _ => l.length - (RowKit.intOf iv).toNat)
  case atStart => exact ⟨0, Nat.zero_le _, rfl, c, tr, HP.out, HL.out, PgF.of_gr PB DB M (Gr.refl w)⟩
  case round =>
    obtain ⟨i, hi, rfl, c', X', hp, hk, hf⟩ := hrel
    by_cases hlt : i < l.length
    · have hlti : (i : Int) < (l.length : Int) := by omega
      have hg := hf.old HG0.out hb
      rcases HV.out with ⟨_, e2⟩ | ⟨b, off, cc, e3, h2, h3⟩
      · rw [e2] at hlt
        exact absurd hlt (by simp)
      obtain ⟨rfl, rfl⟩ : ao = some ⟨b, off, none⟩ ∧ ca = cc := by
        injection e3 with e1 e2 e3
        exact ⟨e1, e3⟩
      obtain ⟨b0, b1, b2⟩ := h3 i hlt
      replace b0 := hg.keeps b0
      replace b1 := hg.keeps b1
      replace b2 := hg.keeps b2
      generalize l[i] = x at *
      obtain ⟨wh, ky, it⟩ := x
      have ht' := HT.out.pg hf hTn.1 hTn.2.1 hTn.2.2
      have hpn := fun W (g : Gr wr W) => put_n (hp.gr g) (ht'.gr g) hTn hr ky it hk.lays
      have hdn := fun W (g : Gr wr W) => drop_n (hp.gr g) (ht'.gr g) hTn hr ky hk.lays
      have hpo := hk.trans (putR_ok hp.f hk.lays hr ky it)
      have hdo := hk.trans (dropR_ok hp.f hk.lays hr ky)
      have HPN := Lib.hid hpn
      have HDN := Lib.hid hdn
      have HPO := Lib.hid hpo
      have HDO := Lib.hid hdo
      have HF := Lib.hid hf
      clear h3 e3 hg hp hk hf ht' hpn hdn hpo hdo
      by_cases hw0 : wh = 0
      · subst hw0
        go_wp2_with fail
        go_region_with (go_at_call 8; refine (HPN.out _ ?_).mono ?_; (with_reducible exact (Gr.refl _).drew); rintro e w3 ⟨rfl, hp3, hf3⟩)
        all_goals
          have HX : Hid (ActsP PB DB M sv t d root c tr w w3) := Lib.hid ⟨_, _, hp3, HPO.out, HF.out.trans ((PgF.of_gr PB DB M (Gr.refl wr).drew).trans hf3)⟩
          clear hp3 hf3
          go_wp2_with fail
          exact ⟨⟨i + 1, by omega, by go_num, HX.out⟩, by simp [RowKit.intOf]; omega⟩
      · go_wp2_with fail
        refine (HDN.out _ (Gr.refl wr)).mono ?_
        rintro e w3 ⟨rfl, hp3, hf3⟩
        have HX : Hid (ActsP PB DB M sv t d root c tr w w3) := Lib.hid ⟨_, _, hp3, HDO.out, HF.out.trans hf3⟩
        clear hp3 hf3
        go_wp2_with fail
        exact ⟨⟨i + 1, by omega, by go_num, HX.out⟩, by simp [RowKit.intOf]; omega⟩
    · have hlti : ¬ (i : Int) < (l.length : Int) := by omega
      have HX : Hid (ActsP PB DB M sv t d root c tr w wr) := Lib.hid ⟨c', X', hp, hk, hf⟩
      clear hp hk hf
      go_wp2_with fail
      refine bodyPost_end (v := .tuple #[]) (by simp [results, Try.results7, go_sem]) rfl ?_
      exact ⟨rfl, HX.out⟩
end
end Go.Proofs.Ytmjkalpjciddbaa

/-
  How a list of a tree's acts that came in is read.
-/
namespace Go.Proofs.Ytmjkalpjciddbaa
open Go Go.ChangeShapes Go.WideShapes Go.ChangeAt Go.RowKit Go.Deep
section
variable {H : Type} {enc : TypeId × Value → H} {P : Program} {w : World} {base : Nat} {spare : Nat → Bool} {held : Bool}
theorem open_slice_fields {t e : TypeId} {fs : Array Field} {fuel : Nat} {cs : List Value} {x : DataW H × List MemPlace} (ht : P.underlying t = some (.slice e)) (he : P.underlying e = some (.struct fs))
    (hone : oneCellFields P fs = true) (hC : P.cellsOf e = fs.size) (h : DataW.trod enc P w base spare held fuel t cs = some x) :
    (cs = [.slice none 0 0] ∧ x = (.nil, [])) ∨
    ∃ (a : Addr) (len cap m : Nat) (D : Nat → DataW H) (Pl : Nat → List MemPlace), cs = [.slice (some a) len cap] ∧ base ≤ a.block ∧ len ≤ cap ∧ cap ≤ maxLen ∧ m = (if spare a.block then cap else len) ∧
      x = (.slice ((List.range len).map D) ((List.range (m - len)).map fun j => D (len + j)), MemPlace.row a (m * fs.size) ++ (List.range m).flatMap Pl) ∧
      ∀ i, i < m → ∃ (ys : List (DataW H × List MemPlace)) (n : Nat), D i = .agg (ys.map (·.1)) ∧ Pl i = ys.flatMap (·.2) ∧ ys.length = fs.size ∧
        ∀ (j : Nat) (f : Field), fs[j]? = some f → ∃ (v : Value) (y : DataW H × List MemPlace), w.cell? (a.add (i * fs.size + j)) = some v ∧ ys[j]? = some y ∧ DataW.trod enc P w base spare held n f.type [v] = some y := by
  rcases open_slice ht h with h0 | ⟨a, len, cap, m, n, D, Pl, hcs, hb, hl, hm, hmm, hx, hi⟩
  · exact .inl h0
  · refine .inr ⟨a, len, cap, m, D, Pl, hcs, hb, hl, hm, hmm, by rw [hC] at hx; exact hx, fun i him => ?_⟩
    obtain ⟨cs', hc, ht'⟩ := hi i him
    rw [hC] at hc
    obtain ⟨ys, n', hn', hy, hlen, hyl, hf⟩ := DataW.trod_struct he ht'
    obtain ⟨_, hcl, hat⟩ := World.cells?_some hc
    simp only [Prod.mk.injEq] at hy
    refine ⟨ys, n', hy.1, hy.2, hyl, fun j f hj => ?_⟩
    obtain ⟨ho, hk⟩ := hone_of hone j f hj
    have hjl : j < fs.size := (Array.getElem?_eq_some_iff.1 hj).1
    have hcell := hat j hjl
    have hv : cs'[j]? = some (cs'[j]'(by omega)) := List.getElem?_eq_getElem (by omega)
    have h1 := hf j f hj
    rw [ho, hk] at h1
    have hone' : (cs'.drop j).take 1 = [cs'[j]'(by omega)] := by
      rw [List.drop_eq_getElem_cons (by omega)]
      rfl
    rw [hone'] at h1
    have hys : ys[j]? = some (ys[j]'(by omega)) := List.getElem?_eq_getElem (by omega)
    refine ⟨_, _, ?_, hys, h1.trans hys⟩
    rw [← Go.Deep.add_add, hcell, hv]
end
theorem list_of {α : Type} {n : Nat} {Q : Nat → α → Prop} (h : ∀ i, i < n → ∃ x, Q i x) : ∃ xs : List α, xs.length = n ∧ ∀ i (hi : i < xs.length), Q i xs[i] := by
  induction n with
  | zero => exact ⟨[], rfl, fun i hi => by simp at hi⟩
  | succ n ih =>
    obtain ⟨xs, hl, hx⟩ := ih (fun i hi => h i (by omega))
    obtain ⟨x, hq⟩ := h n (by omega)
    refine ⟨xs ++ [x], by simp [hl], fun i hi => ?_⟩
    rw [List.getElem_append]
    split
    · exact hx i _
    · have : i = n := by simp at hi; omega
      subst this
      simpa using hq
theorem wf_range {n : Int} (h : (Lit.int .i64 n).wf = true) : -9223372036854775808 ≤ n ∧ n ≤ 9223372036854775807 := by
  simp [Lit.wf, IntKind.min, IntKind.max, IntKind.bits, IntKind.signed] at h
  omega
/-- A slice that came in: it is nil, or it lies in memory. -/
theorem okWide_slice_at {P : Program} {w : World} {r : Reach} {base : Nat} {t e : TypeId} {v : Value} (ht : P.underlying t = some (.slice e)) (h : Value.okWide P w r base t v) :
    ∃ a len cap, v = .slice a len cap ∧ (a = none → len = 0 ∧ cap = 0) ∧ ∀ x, a = some x → x.spot = none ∧ x.block < w.heap.size := by
  obtain ⟨a, len, cap, rfl⟩ := okWide_slice ht h
  refine ⟨a, len, cap, rfl, fun ha => ?_, fun x ha => ?_⟩
  · subst ha
    simp only [Value.okWide, ht, Cell.okWide] at h
    simp only [Cell.ok, ht] at h
    cases len <;> cases cap <;> simp_all
  · subst ha
    simp only [Value.okWide, ht, Cell.okWide] at h
    simp only [Cell.ok, ht] at h
    obtain ⟨_, _, _, h2, row, cells, h3, _⟩ := h
    refine ⟨h2, ?_⟩
    rcases Nat.lt_or_ge x.block w.heap.size with hl | hl
    · exact hl
    · simp [World.shape?, Array.getElem?_eq_none hl] at h3
/-- A list of acts that came in. -/
theorem open_puts {H : Type} {enc : TypeId × Value → H} {w : World} {base : Nat} {spare : Nat → Bool} {held : Bool} {fuel : Nat} {ao : Option Addr} {len cap : Nat} {x : DataW H × List MemPlace}
    (h : DataW.trod enc Try.prog w base spare held fuel 22 [.slice ao len cap] = some x) (z0 : ao = none → len = 0 ∧ cap = 0) (l0 : ∀ x, ao = some x → x.spot = none ∧ x.block < w.heap.size) :
    ∃ xs : List GPut, xs.length = len ∧ PutsV w (.slice ao len cap) xs := by
  rcases open_slice_fields Try.underlying22 Try.underlying37 (by kernel_rfl) (by kernel_rfl) h with ⟨hcs, _⟩ | ⟨a, l, c, m, D, Pl, hcs, _, hlc, hcm, hm, _, hf⟩
  · simp only [List.cons.injEq, Value.slice.injEq] at hcs
    obtain ⟨⟨rfl, rfl, rfl⟩, _⟩ := hcs
    exact ⟨[], rfl, .inl ⟨rfl, rfl⟩⟩
  · simp only [List.cons.injEq, Value.slice.injEq] at hcs
    obtain ⟨⟨rfl, rfl, rfl⟩, _⟩ := hcs
    have hlm : len ≤ m := by rw [hm]; split <;> omega
    have hcell : ∀ i, i < len → ∃ v : GPut, w.cell? (a.add (i * 3)) = some (.int .i64 v.what) ∧ w.cell? (a.add (i * 3 + 1)) = some (.string v.key) ∧ w.cell? (a.add (i * 3 + 2)) = some (.string v.item) := by
      intro i hi
      obtain ⟨ys, n, _, _, _, hy⟩ := hf i (by omega)
      obtain ⟨v0, y0, c0, _, t0⟩ := hy 0 _ rfl
      obtain ⟨v1, y1, c1, _, t1⟩ := hy 1 _ rfl
      obtain ⟨v2, y2, c2, _, t2⟩ := hy 2 _ rfl
      obtain ⟨n0, e0, _, w0⟩ := DataW.trod_int Try.underlying3 t0
      obtain ⟨s1, e1, _⟩ := DataW.trod_string Try.underlying9 t1
      obtain ⟨s2, e2, _⟩ := DataW.trod_string Try.underlying9 t2
      simp only [List.cons.injEq, and_true] at e0 e1 e2
      subst e0 e1 e2
      exact ⟨⟨n0, s1, s2⟩, c0, c1, c2⟩
    obtain ⟨xs, hl, hx⟩ := list_of hcell
    obtain ⟨h2, h3⟩ := l0 a rfl
    obtain ⟨b, off, spot⟩ := a
    obtain rfl : spot = none := h2
    have he : ∀ k, (⟨b, off, none⟩ : Addr).add k = ⟨b, off + k, none⟩ := fun k => by
      unfold Addr.add
      split <;> simp_all
    refine ⟨xs, hl, .inr ⟨b, off, cap, by rw [hl], h3, fun i hi => ?_⟩⟩
    have := hx i hi
    rw [he, he, he] at this
    exact this
end Go.Proofs.Ytmjkalpjciddbaa

/-
  grown: a fact.
-/
namespace Go.Proofs.Ytmjkalpjciddbaa
open Go Go.RowKit

def keyK : ByteArray := ⟨#[107]⟩
def itemI : ByteArray := ⟨#[105, 116, 101, 109]⟩
/-- The tree with one pair. -/
def trK : Tr := some ⟨0, ((1 : Nat), [(keyK, itemI)])⟩
theorem getK : trK.get keyK = some itemI := by decide
theorem allocF_headZ : allocF headZ = some 1 := by
  unfold allocF
  have e : List.range 2000 = 0 :: 1 :: (List.range 1998).map fun i => i + 2 := by
    rw [List.range_succ_eq_map, List.range_succ_eq_map, List.map_cons, List.map_map]
    rfl
  rw [e]
  rfl
theorem usedN_used2 {h g : Head} (e : h.used = g.used) : ∀ n, usedN h n = usedN g n
  | 0 => rfl
  | n + 1 => by rw [usedN, usedN, usedN_used2 e n, e]
theorem free_h (c : Ch) {k : Nat} (hk : InU c k) : (c.free (k : Nat)).h = c.h.put k false := by rw [free_eq hk]
theorem root_notes (c : Ch) (i : Nat) (p : Int) : (c.root i p).h.notes i = c.h.notes i := by
  show (if i = i then c.h.notes i else c.h.notes i) = _
  rw [if_pos rfl]
theorem set_notes (c : Ch) (i : Nat) (p n : Int) (F : Int → Option ByteArray) : (⟨c.h.setRoot i p n, F⟩ : Ch).h.notes i = n := by
  show (if i = i then n else c.h.notes i) = _
  rw [if_pos rfl]
theorem root_used (c : Ch) (i : Nat) (p : Int) : (c.root i p).h.used = c.h.used := rfl
theorem set_used (c : Ch) (i : Nat) (p n : Int) (F : Int → Option ByteArray) : (⟨c.h.setRoot i p n, F⟩ : Ch).h.used = c.h.used := rfl
theorem put_notes (h : Head) (k : Nat) (b : Bool) (i : Nat) : (h.put k b).notes i = h.notes i := rfl
/-- The sum is changed: what it is then. -/
theorem more_eq {c : Ch} {i : Nat} {m n : Int} (h : c.h.notes i + m = n) (h0 : 0 ≤ n ∧ n < 65536) : moreT c i m = (⟨c.h.setRoot i (c.h.roots i) n, c.F⟩, 0) := by
  unfold moreT
  rw [h, if_pos h0]
theorem putsT_none (c : Ch) (i : Nat) (key item : ByteArray) {k : Nat} (h : allocF c.h = some k) : putsT c i none key item = ((c.alloc.write (k : Nat) (pageE true [⟨key, item, 0⟩])).root i (k : Nat), some ⟨0, (k, [(key, item)])⟩, 0) := by
  unfold putsT
  rw [h]
theorem putK : ∃ cB, putR (Ch.new headZ) 1 none keyK itemI = (cB, trK, 0) ∧ cB.h.notes 1 = 7 ∧ cB.h.used = (headZ.put 1 true).used := by
  have hs : ¬ (keyK.size < 1 ∨ 60 < keyK.size ∨ 100 < itemI.size) := by decide
  have hm : moreP none keyK itemI = 7 := by decide
  have hn : (Ch.new headZ).h.notes 1 = 0 := rfl
  have ha : allocF (Ch.new headZ).h = some 1 := allocF_headZ
  obtain ⟨A, hA⟩ : ∃ A, (Ch.new headZ).alloc.write ((1 : Nat) : Int) (pageE true [⟨keyK, itemI, 0⟩]) = A := ⟨_, rfl⟩
  have hAh : A.h = headZ.put 1 true := by
    rw [← hA, write_used, alloc_eq ha]
    rfl
  have hp := putsT_none (Ch.new headZ) 1 keyK itemI ha
  rw [hA] at hp
  have hmt := more_eq (c := A.root 1 ((1 : Nat) : Int)) (i := 1) (m := 7) (n := 7) (by rw [root_notes, hAh, put_notes]; rfl) (by omega)
  refine ⟨⟨(A.root 1 ((1 : Nat) : Int)).h.setRoot 1 ((A.root 1 ((1 : Nat) : Int)).h.roots 1) 7, (A.root 1 ((1 : Nat) : Int)).F⟩, ?_, set_notes _ _ _ _ _, ?_⟩
  · unfold putR
    rw [if_neg hs, hm, hn, if_neg (by omega), hp]
    show ((moreT (A.root 1 ((1 : Nat) : Int)) 1 7).1, _, (moreT (A.root 1 ((1 : Nat) : Int)) 1 7).2) = _
    rw [hmt]
    rfl
  · rw [set_used, root_used, hAh]
theorem dropK {cB : Ch} (hn : cB.h.notes 1 = 7) (hu : cB.h.used = (headZ.put 1 true).used) : ∃ cE, dropR cB 1 trK keyK = (cE, none, 0) ∧ cE.h.notes 1 = 0 ∧ usedN cE.h 2000 = 1 := by
  have hin : InU cB 1 := ⟨by omega, by omega, by rw [hu]; rfl⟩
  obtain ⟨cC, hC⟩ : ∃ cC, cB.write ((1 : Nat) : Int) (pageE true []) = cC := ⟨_, rfl⟩
  have hCh : cC.h = cB.h := by rw [← hC]; exact write_used _ _ _
  have hinC : InU cC 1 := ⟨by omega, by omega, by rw [hCh]; exact hin.2.2⟩
  have hd : dropsT cB 1 trK keyK = ((cC.free ((1 : Nat) : Int)).root 1 0, none) := by
    have e : dropT (d := 0) cB ((1 : Nat), [(keyK, itemI)]) keyK = (cC, ((1 : Nat), [])) := by
      have es : searchE ([(keyK, itemI)].map Prod.fst) keyK = 0 := by decide
      have e1 : dropT (d := 0) cB ((1 : Nat), [(keyK, itemI)]) keyK = (cB.write ((1 : Nat) : Int) (pageE true (([(keyK, itemI)].eraseIdx (searchE ([(keyK, itemI)].map Prod.fst) keyK)).map enL)), ((1 : Nat), [(keyK, itemI)].eraseIdx (searchE ([(keyK, itemI)].map Prod.fst) keyK))) := rfl
      rw [e1, es, ← hC]
      rfl
    unfold trK dropsT
    simp only [e]
    rfl
  obtain ⟨cD, hD⟩ : ∃ cD, (cC.free ((1 : Nat) : Int)).root 1 0 = cD := ⟨_, rfl⟩
  have hDn : cD.h.notes 1 = 7 := by
    rw [← hD, root_notes, free_h cC hinC, put_notes, hCh]
    exact hn
  have hDu : cD.h.used = headZ.used := by
    rw [← hD, root_used, free_h cC hinC, hCh]
    funext j
    show (if j = 1 then false else cB.h.used j) = _
    rw [hu]
    show (if j = 1 then false else if j = 1 then true else headZ.used j) = _
    split
    · rename_i h
      rw [h]
      rfl
    · rfl
  rw [hD] at hd
  have hk : (-2 - (keyK.size : Int) - itemI.size) = -7 := by decide
  have hm := more_eq (c := cD) (i := 1) (m := -7) (n := 0) (by rw [hDn]; omega) (by omega)
  refine ⟨⟨cD.h.setRoot 1 (cD.h.roots 1) 0, cD.F⟩, ?_, set_notes _ _ _ _ _, ?_⟩
  · unfold dropR
    rw [getK]
    show ((moreT (dropsT cB 1 trK keyK).1 1 (-2 - (keyK.size : Int) - itemI.size)).1, (dropsT cB 1 trK keyK).2, (moreT (dropsT cB 1 trK keyK).1 1 (-2 - (keyK.size : Int) - itemI.size)).2) = _
    rw [hk, hd]
    show ((moreT cD 1 (-7)).1, none, (moreT cD 1 (-7)).2) = _
    rw [hm]
  · rw [usedN_used2 (h := cD.h.setRoot 1 (cD.h.roots 1) 0) (g := headZ) hDu]
    exact usedN_zero 1999
theorem used_t {w : World} {PB DB M : Nat} {c : Ch} {sv : Head} {t : Int} {d : Dk} (h : PgT w PB DB M c sv t d) : Calls Try.prog 16 #[.pointer (some ⟨PB, 0, none⟩)] w (Ret w (.int .i64 (usedN c.h 2000 : Nat))) := used_s h.s
set_option maxRecDepth 100000 in
set_option maxHeartbeats 4000000 in
theorem grown_k (w : World) : Calls Try.prog 4 #[] w (Ret w (.bool true)) := by
  go_enter Try.func4, Try.ntmps4
  go_wp2_with fail
  have hg0 : Gr w (w.alloc (.cells Try.zeroCells32 32)) := (Gr.refl w).alloc _
  have hd0 := disk_made w
  generalize (Try.zeroCells32) = Z at *
  have HG0 := Lib.hid hg0
  have HD0 := Lib.hid hd0
  clear hg0 hd0
  generalize hDB : w.heap.size = DB at *
  have HDB := Lib.hid hDB
  clear hDB
  refine (open_s DB dk0 headZ _ HD0.out clean0 (by decide)).mono ?_
  rintro e w1 ⟨PB, M, rfl, hs, hle1, hle2, hgx⟩
  rw [headD_zero] at hs
  have HB : Hid (w.heap.size ≤ PB ∧ w.heap.size ≤ DB ∧ w.heap.size ≤ M) := Lib.hid (by have := HG0.out.size; have := HDB.out; omega)
  have hp1 : PgT w1 PB DB M (Ch.new headZ) headZ 0 dk0 := ⟨hs.mono (by omega), Ch.new_fine headZ_fine⟩
  have HP1 := Lib.hid hp1
  have HG1 := Lib.hid (hgx.gr HG0.out (fun k e => by have e2 : k = DB := e; rw [e2]; exact HB.out.2.1))
  clear hs hle1 hle2 hgx hp1
  go_wp2_with fail
  refine (at_n HP1.out (root := 1) (by omega)).mono ?_
  rintro e w2 ⟨TP, rfl, ht2, hle, hg2⟩
  have hlt := HP1.out.lt
  have hTn : TP ≠ PB ∧ TP ≠ DB ∧ TP ≠ M := by omega
  have hp2 := HP1.out.gr hg2
  have hl0 : Tr.lays (Ch.new headZ) dk0.pg 1 none := rfl
  have hpn := put_n hp2 ht2 hTn (by omega) keyK itemI hl0
  have hpo := putR_ok hp2.f hl0 (by omega) keyK itemI
  obtain ⟨cB, e1, e2, e3⟩ := putK
  rw [e1] at hpn hpo
  have hl2 : Tr.lays cB dk0.pg 1 trK := hpo.lays
  obtain ⟨cE, e4, e5, e6⟩ := dropK e2 e3
  have hev : errV 0 = .nilIface := rfl
  have HPN := Lib.hid hpn
  have HT2 := Lib.hid ht2
  have HL2 := Lib.hid hl2
  have HG2 := Lib.hid (HG1.out.trans hg2)
  have HE := Lib.hid (And.intro e2 (And.intro e4 (And.intro e5 e6)))
  dsimp only at HPN
  rw [hev] at HPN
  clear hle ht2 hg2 hp2 hl0 hpn hpo e1 e2 e3 e4 e5 e6 hl2
  go_wp2_with fail
  refine HPN.out.mono ?_
  rintro e w3 ⟨rfl, hp3, hf3⟩
  have ht3 := HT2.out.pg hf3 hTn.1 hTn.2.1 hTn.2.2
  have hsm := sum_n hp3 ht3 (by omega)
  rw [HE.out.1] at hsm
  have HSM := Lib.hid hsm
  have HP3 := Lib.hid hp3
  have HT3 := Lib.hid ht3
  have HG3 := Lib.hid (hf3.old HG2.out HB.out)
  clear hp3 hf3 ht3 hsm
  go_wp2_with fail
  refine HSM.out.mono ?_
  rintro e w4 ⟨rfl, hg4⟩
  have hp4 := HP3.out.gr hg4
  have ht4 := HT3.out.gr hg4
  have hgt := get_n hp4 ht4 (by omega) keyK HL2.out
  rw [getK] at hgt
  have HGT := Lib.hid hgt
  have HP4 := Lib.hid hp4
  have HT4 := Lib.hid ht4
  have HG4 := Lib.hid (HG3.out.trans hg4)
  clear hp4 ht4 hgt hg4
  go_wp2_with fail
  refine HGT.out.mono ?_
  rintro e w5 ⟨rfl, hg5⟩
  have hp5 := HP4.out.gr hg5
  have ht5 := HT4.out.gr hg5
  have hdn := drop_n hp5 ht5 hTn (by omega) keyK HL2.out
  rw [HE.out.2.1] at hdn
  dsimp only at hdn
  rw [hev] at hdn
  have HDN := Lib.hid hdn
  have HT5 := Lib.hid ht5
  have HG5 := Lib.hid (HG4.out.trans hg5)
  have hgv : getV (some itemI) = .tuple #[.string ⟨#[105, 116, 101, 109]⟩, .nilIface] := rfl
  rw [hgv]
  clear hp5 ht5 hdn hg5 hgv
  go_wp2_with fail
  refine HDN.out.mono ?_
  rintro e w6 ⟨rfl, hp6, hf6⟩
  have ht6 := HT5.out.pg hf6 hTn.1 hTn.2.1 hTn.2.2
  have hsm := sum_n hp6 ht6 (by omega)
  rw [HE.out.2.2.1] at hsm
  have HSM6 := Lib.hid hsm
  have HP6 := Lib.hid hp6
  have HG6 := Lib.hid (hf6.old HG5.out HB.out)
  clear hp6 hf6 ht6 hsm
  go_wp2_with fail
  refine HSM6.out.mono ?_
  rintro e w7 ⟨rfl, hg7⟩
  have hus := used_t (HP6.out.gr hg7)
  rw [HE.out.2.2.2] at hus
  have HUS := Lib.hid hus
  have HG7 := Lib.hid (HG6.out.trans hg7)
  clear hus hg7
  go_wp2_with fail
  refine HUS.out.mono ?_
  rintro e w8 ⟨rfl, hg8⟩
  have HG8 := Lib.hid (HG7.out.trans hg8)
  clear hg8
  go_wp2_with fail
  go_ret
  exact Ret.mk rfl HG8.out
end Go.Proofs.Ytmjkalpjciddbaa
