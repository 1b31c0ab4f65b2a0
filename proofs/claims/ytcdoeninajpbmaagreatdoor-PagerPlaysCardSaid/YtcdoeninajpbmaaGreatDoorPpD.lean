/-
  The document's pages stored and loaded; what the law holds besides the pager.
-/
import Derived.Test.YtcdoeninajpbmaaGreatDoorPpB
import Derived.Test.YtcdoeninajpbmaaGreatDoorPpC
import Derived.Test.YtcdoeninajpbmaaGreatDoorPagL
namespace Go.Proofs.YtcdoeninajpbmaaGreatDoor
open Go Go.RowKit Go.Maps

theorem rp_size (M : Nat) (R : Nat → Int × Int) : (rp M R).toArray.size = 17 := rfl
theorem wpList_load_rp {ops : Array Oper} {rest : List Oper} {op : Oper} {a : Act} {w : World} {Q : Exit → Act → World → Prop} (hgd : op.guard = none) (x : Operand) (ho : op.op = .load 38 x) (B M n : Nat) (G : Int → Option ByteArray) (R : Nat → Int × Int)
    (hx : a.eval x = .pointer (some ⟨B, 0, none⟩)) (h : RpAt w B M n G R) (hk : ∀ A : Array Value, Hid (A = (rp M R).toArray) → wpList Tryz.prog ops Q rest (a.put op.dst (.agg A)) w) : wpList Tryz.prog ops Q (op :: rest) a w :=
  wpList_load_mid hgd 38 x ho B 0 hx _ _ h.rng Tryz.underlying38 rfl (by rw [info_pages, rp_len]) (hk _ (Lib.hid rfl))
theorem wpList_store_rp {ops : Array Oper} {rest : List Oper} {op : Oper} {a : Act} {w : World} {Q : Exit → Act → World → Prop} (hgd : op.guard = none) (x y : Operand) (ho : op.op = .store 38 x y) (B M n : Nat) (G : Int → Option ByteArray) (R : Nat → Int × Int) (A : Array Value)
    (hx : a.eval x = .pointer (some ⟨B, 0, none⟩)) (hy : a.eval y = .agg A) (hA : A = (rp M R).toArray) (hth : w.there B 0 17) (hfr : ∀ o, w.frozen? ⟨B, o, none⟩ = false) (hm : MapAt w M n G) (hne : B ≠ M)
    (hk : ∀ w', RpAt w' B M n G R → GrX (fun k => k = B) w w' → wpList Tryz.prog ops Q rest (a.put op.dst undef) w') : wpList Tryz.prog ops Q (op :: rest) a w := by
  subst hA
  refine wpList_store_mid hgd 38 x y ho B 0 _ hx hy (by rw [rp_size]; exact hth) (by rw [info_pages, rp_size]) (all_oneCell_toArray (rp_one M R)) ?_
  have hg := setCells_blk B (rp M R) 0 w
  exact hk _ ⟨World.rangeAt_setCells_same w B 0 _ (by rw [rp_len]; exact hth), fun o => by rw [World.frozen?_setCells]; exact hfr o, hm.keepX hg (fun e => hne e.symm), hne⟩ hg
/-- The three, and a noted state. -/
structure Oth (w : World) (NB NM nn : Nat) (G : Int → Option ByteArray) (R : Nat → Int × Int) (SB SM sn : Nat) (G1 : Int → Option ByteArray) (R1 : Nat → Int × Int) (OB OM on : Nat) (G2 : Int → Option ByteArray) (R2 : Nat → Int × Int) (KB MK nK : Nat) (hm : Head) (Fm : Int → Option ByteArray) (tm : Int) : Prop where
  now : RpAt w NB NM nn G R
  saved : RpAt w SB SM sn G1 R1
  noted : RpAt w OB OM on G2 R2
  mrk : w.rangeAt KB 0 (markCells hm (some MK) tm)
  mfr : ∀ o, w.frozen? ⟨KB, o, none⟩ = false
  mmp : MapAt w MK nK Fm
  nd : [NB, NM, SB, SM, OB, OM, KB, MK].Nodup
  mlt : KB < w.heap.size
section
variable {w w' : World} {NB NM nn : Nat} {G : Int → Option ByteArray} {R : Nat → Int × Int} {SB SM sn : Nat} {G1 : Int → Option ByteArray} {R1 : Nat → Int × Int} {OB OM on : Nat} {G2 : Int → Option ByteArray} {R2 : Nat → Int × Int} {KB MK nK : Nat} {hm : Head} {Fm : Int → Option ByteArray} {tm : Int}
theorem Oth.lts (h : Oth w NB NM nn G R SB SM sn G1 R1 OB OM on G2 R2 KB MK nK hm Fm tm) : ∀ b ∈ [NB, NM, SB, SM, OB, OM, KB, MK], b < w.heap.size := by
  intro b hb
  simp only [List.mem_cons, List.not_mem_nil, or_false] at hb
  rcases hb with rfl | rfl | rfl | rfl | rfl | rfl | rfl | rfl
  · exact h.now.lt
  · exact h.now.map.lt
  · exact h.saved.lt
  · exact h.saved.map.lt
  · exact h.noted.lt
  · exact h.noted.map.lt
  · exact h.mlt
  · exact h.mmp.lt
theorem Oth.keepX {S : Nat → Prop} (h : Oth w NB NM nn G R SB SM sn G1 R1 OB OM on G2 R2 KB MK nK hm Fm tm) (g : GrX S w w') (hs : ∀ b ∈ [NB, NM, SB, SM, OB, OM, KB, MK], ¬ S b) : Oth w' NB NM nn G R SB SM sn G1 R1 OB OM on G2 R2 KB MK nK hm Fm tm :=
  ⟨h.now.keepX g (hs _ (by simp)) (hs _ (by simp)), h.saved.keepX g (hs _ (by simp)) (hs _ (by simp)), h.noted.keepX g (hs _ (by simp)) (hs _ (by simp)), range_kept h.mrk g (hs _ (by simp)), fun o => (g.frozen o h.mlt (hs _ (by simp))).trans (h.mfr o), h.mmp.keepX g (hs _ (by simp)), h.nd, Nat.lt_of_lt_of_le h.mlt g.2.2.2.1⟩
theorem Oth.gr (h : Oth w NB NM nn G R SB SM sn G1 R1 OB OM on G2 R2 KB MK nK hm Fm tm) (g : Gr w w') : Oth w' NB NM nn G R SB SM sn G1 R1 OB OM on G2 R2 KB MK nK hm Fm tm := h.keepX (S := fun _ => False) (GrX.of_gr g) (fun _ _ => id)
theorem Oth.sepNow (h : Oth w NB NM nn G R SB SM sn G1 R1 OB OM on G2 R2 KB MK nK hm Fm tm) : ∀ b ∈ [SB, SM, OB, OM, KB, MK], b ≠ NB ∧ b ≠ NM := by
  have hnd := h.nd
  simp only [List.nodup_cons, List.mem_cons, List.not_mem_nil, or_false, not_or] at hnd
  obtain ⟨⟨a1, a2, a3, a4, a5, a6, a7⟩, ⟨b2, b3, b4, b5, b6, b7⟩, r⟩ := hnd
  intro b hb
  simp only [List.mem_cons, List.not_mem_nil, or_false] at hb
  rcases hb with rfl | rfl | rfl | rfl | rfl | rfl
  · exact ⟨fun e => a2 e.symm, fun e => b2 e.symm⟩
  · exact ⟨fun e => a3 e.symm, fun e => b3 e.symm⟩
  · exact ⟨fun e => a4 e.symm, fun e => b4 e.symm⟩
  · exact ⟨fun e => a5 e.symm, fun e => b5 e.symm⟩
  · exact ⟨fun e => a6 e.symm, fun e => b6 e.symm⟩
  · exact ⟨fun e => a7 e.symm, fun e => b7 e.symm⟩
theorem Oth.sepSaved (h : Oth w NB NM nn G R SB SM sn G1 R1 OB OM on G2 R2 KB MK nK hm Fm tm) : ∀ b ∈ [NB, NM, OB, OM, KB, MK], b ≠ SB := by
  have hnd := h.nd
  simp only [List.nodup_cons, List.mem_cons, List.not_mem_nil, or_false, not_or] at hnd
  obtain ⟨⟨x01, x02, x03, x04, x05, x06, x07⟩, ⟨x12, x13, x14, x15, x16, x17⟩, ⟨x23, x24, x25, x26, x27⟩, ⟨x34, x35, x36, x37⟩, ⟨x45, x46, x47⟩, ⟨x56, x57⟩, x67, _⟩ := hnd
  intro b hb
  simp only [List.mem_cons, List.not_mem_nil, or_false] at hb
  rcases hb with rfl | rfl | rfl | rfl | rfl | rfl
  · exact x02
  · exact x12
  · exact fun e => x24 e.symm
  · exact fun e => x25 e.symm
  · exact fun e => x26 e.symm
  · exact fun e => x27 e.symm
theorem Oth.sepNoted (h : Oth w NB NM nn G R SB SM sn G1 R1 OB OM on G2 R2 KB MK nK hm Fm tm) : ∀ b ∈ [NB, NM, SB, SM, KB, MK], b ≠ OB := by
  have hnd := h.nd
  simp only [List.nodup_cons, List.mem_cons, List.not_mem_nil, or_false, not_or] at hnd
  obtain ⟨⟨x01, x02, x03, x04, x05, x06, x07⟩, ⟨x12, x13, x14, x15, x16, x17⟩, ⟨x23, x24, x25, x26, x27⟩, ⟨x34, x35, x36, x37⟩, ⟨x45, x46, x47⟩, ⟨x56, x57⟩, x67, _⟩ := hnd
  intro b hb
  simp only [List.mem_cons, List.not_mem_nil, or_false] at hb
  rcases hb with rfl | rfl | rfl | rfl | rfl | rfl
  · exact x04
  · exact x14
  · exact x24
  · exact x34
  · exact fun e => x46 e.symm
  · exact fun e => x47 e.symm
theorem Oth.sepMark (h : Oth w NB NM nn G R SB SM sn G1 R1 OB OM on G2 R2 KB MK nK hm Fm tm) : ∀ b ∈ [NB, NM, SB, SM, OB, OM], b ≠ KB := by
  have hnd := h.nd
  simp only [List.nodup_cons, List.mem_cons, List.not_mem_nil, or_false, not_or] at hnd
  obtain ⟨⟨x01, x02, x03, x04, x05, x06, x07⟩, ⟨x12, x13, x14, x15, x16, x17⟩, ⟨x23, x24, x25, x26, x27⟩, ⟨x34, x35, x36, x37⟩, ⟨x45, x46, x47⟩, ⟨x56, x57⟩, x67, _⟩ := hnd
  intro b hb
  simp only [List.mem_cons, List.not_mem_nil, or_false] at hb
  rcases hb with rfl | rfl | rfl | rfl | rfl | rfl
  · exact x06
  · exact x16
  · exact x26
  · exact x36
  · exact x46
  · exact x56
/-- The pages of now are others; their map is the same one, or a new one. -/
theorem Oth.newNow (h : Oth w NB NM nn G R SB SM sn G1 R1 OB OM on G2 R2 KB MK nK hm Fm tm) {S : Nat → Prop} (g : GrX S w w') (hs : ∀ b ∈ [SB, SM, OB, OM, KB, MK], ¬ S b) {NM' nn' : Nat} {G' : Int → Option ByteArray} {R' : Nat → Int × Int} (hn : RpAt w' NB NM' nn' G' R') (hf : NM' = NM ∨ w.heap.size ≤ NM') : Oth w' NB NM' nn' G' R' SB SM sn G1 R1 OB OM on G2 R2 KB MK nK hm Fm tm := by
  refine ⟨hn, h.saved.keepX g (hs _ (by simp)) (hs _ (by simp)), h.noted.keepX g (hs _ (by simp)) (hs _ (by simp)), range_kept h.mrk g (hs _ (by simp)), fun o => (g.frozen o h.mlt (hs _ (by simp))).trans (h.mfr o), h.mmp.keepX g (hs _ (by simp)), ?_, Nat.lt_of_lt_of_le h.mlt g.2.2.2.1⟩
  rcases hf with rfl | hf
  · exact h.nd
  · have l1 := h.now.lt
    have l2 := h.now.map.lt
    have l3 := h.saved.lt
    have l4 := h.saved.map.lt
    have l5 := h.noted.lt
    have l6 := h.noted.map.lt
    have l7 := h.mlt
    have l8 := h.mmp.lt
    have hnd := h.nd
    simp only [List.nodup_cons, List.mem_cons, List.not_mem_nil, or_false, not_or] at hnd ⊢
    refine ⟨⟨by omega, hnd.1.2⟩, ⟨by omega, by omega, by omega, by omega, by omega, by omega⟩, hnd.2.2⟩
theorem Oth.newSaved (h : Oth w NB NM nn G R SB SM sn G1 R1 OB OM on G2 R2 KB MK nK hm Fm tm) {S : Nat → Prop} (g : GrX S w w') (hs : ∀ b ∈ [NB, NM, OB, OM, KB, MK], ¬ S b) {SM' sn' : Nat} {G' : Int → Option ByteArray} {R' : Nat → Int × Int} (hn : RpAt w' SB SM' sn' G' R') (hf : w.heap.size ≤ SM') : Oth w' NB NM nn G R SB SM' sn' G' R' OB OM on G2 R2 KB MK nK hm Fm tm := by
  refine ⟨h.now.keepX g (hs _ (by simp)) (hs _ (by simp)), hn, h.noted.keepX g (hs _ (by simp)) (hs _ (by simp)), range_kept h.mrk g (hs _ (by simp)), fun o => (g.frozen o h.mlt (hs _ (by simp))).trans (h.mfr o), h.mmp.keepX g (hs _ (by simp)), ?_, Nat.lt_of_lt_of_le h.mlt g.2.2.2.1⟩
  have l1 := h.now.lt
  have l2 := h.now.map.lt
  have l3 := h.saved.lt
  have l4 := h.saved.map.lt
  have l5 := h.noted.lt
  have l6 := h.noted.map.lt
  have l7 := h.mlt
  have l8 := h.mmp.lt
  have hnd := h.nd
  simp only [List.nodup_cons, List.mem_cons, List.not_mem_nil, or_false, not_or] at hnd ⊢
  obtain ⟨⟨a1, a2, a3, a4, a5, a6, a7⟩, ⟨b2, b3, b4, b5, b6, b7⟩, ⟨c3, c4, c5, c6, c7⟩, ⟨e4, e5, e6, e7⟩, r⟩ := hnd
  refine ⟨⟨a1, a2, by omega, a4, a5, a6, a7⟩, ⟨b2, by omega, b4, b5, b6, b7⟩, ⟨by omega, c4, c5, c6, c7⟩, ⟨by omega, by omega, by omega, by omega⟩, r⟩
theorem Oth.newNoted (h : Oth w NB NM nn G R SB SM sn G1 R1 OB OM on G2 R2 KB MK nK hm Fm tm) {S : Nat → Prop} (g : GrX S w w') (hs : ∀ b ∈ [NB, NM, SB, SM, KB, MK], ¬ S b) {OM' on' : Nat} {G' : Int → Option ByteArray} {R' : Nat → Int × Int} (hn : RpAt w' OB OM' on' G' R') (hf : w.heap.size ≤ OM') : Oth w' NB NM nn G R SB SM sn G1 R1 OB OM' on' G' R' KB MK nK hm Fm tm := by
  refine ⟨h.now.keepX g (hs _ (by simp)) (hs _ (by simp)), h.saved.keepX g (hs _ (by simp)) (hs _ (by simp)), hn, range_kept h.mrk g (hs _ (by simp)), fun o => (g.frozen o h.mlt (hs _ (by simp))).trans (h.mfr o), h.mmp.keepX g (hs _ (by simp)), ?_, Nat.lt_of_lt_of_le h.mlt g.2.2.2.1⟩
  have l1 := h.now.lt
  have l2 := h.now.map.lt
  have l3 := h.saved.lt
  have l4 := h.saved.map.lt
  have l5 := h.noted.lt
  have l6 := h.noted.map.lt
  have l7 := h.mlt
  have l8 := h.mmp.lt
  have hnd := h.nd
  simp only [List.nodup_cons, List.mem_cons, List.not_mem_nil, or_false, not_or] at hnd ⊢
  obtain ⟨⟨a1, a2, a3, a4, a5, a6, a7⟩, ⟨b2, b3, b4, b5, b6, b7⟩, ⟨c3, c4, c5, c6, c7⟩, ⟨e4, e5, e6, e7⟩, ⟨f5, f6, f7⟩, ⟨q6, q7⟩, r⟩ := hnd
  refine ⟨⟨a1, a2, a3, a4, by omega, a6, a7⟩, ⟨b2, b3, b4, by omega, b6, b7⟩, ⟨c3, c4, by omega, c6, c7⟩, ⟨e4, by omega, e6, e7⟩, ⟨by omega, f6, f7⟩, ⟨by omega, by omega⟩, r⟩
theorem Oth.newMark (h : Oth w NB NM nn G R SB SM sn G1 R1 OB OM on G2 R2 KB MK nK hm Fm tm) {S : Nat → Prop} (g : GrX S w w') (hs : ∀ b ∈ [NB, NM, SB, SM, OB, OM], ¬ S b) {MK' nK' : Nat} {hm' : Head} {Fm' : Int → Option ByteArray} {tm' : Int} (h1 : w'.rangeAt KB 0 (markCells hm' (some MK') tm')) (h2 : ∀ o, w'.frozen? ⟨KB, o, none⟩ = false) (h3 : MapAt w' MK' nK' Fm') (hf : w.heap.size ≤ MK') : Oth w' NB NM nn G R SB SM sn G1 R1 OB OM on G2 R2 KB MK' nK' hm' Fm' tm' := by
  refine ⟨h.now.keepX g (hs _ (by simp)) (hs _ (by simp)), h.saved.keepX g (hs _ (by simp)) (hs _ (by simp)), h.noted.keepX g (hs _ (by simp)) (hs _ (by simp)), h1, h2, h3, ?_, Nat.lt_of_lt_of_le h.mlt g.2.2.2.1⟩
  have l1 := h.now.lt
  have l2 := h.now.map.lt
  have l3 := h.saved.lt
  have l4 := h.saved.map.lt
  have l5 := h.noted.lt
  have l6 := h.noted.map.lt
  have l7 := h.mlt
  have l8 := h.mmp.lt
  have hnd := h.nd
  simp only [List.nodup_cons, List.mem_cons, List.not_mem_nil, or_false, not_or] at hnd ⊢
  obtain ⟨⟨a1, a2, a3, a4, a5, a6, a7⟩, ⟨b2, b3, b4, b5, b6, b7⟩, ⟨c3, c4, c5, c6, c7⟩, ⟨e4, e5, e6, e7⟩, ⟨f5, f6, f7⟩, ⟨q6, q7⟩, s7, r⟩ := hnd
  refine ⟨⟨a1, a2, a3, a4, a5, a6, by omega⟩, ⟨b2, b3, b4, b5, b6, by omega⟩, ⟨c3, c4, c5, c6, by omega⟩, ⟨e4, e5, e6, by omega⟩, ⟨f5, f6, by omega⟩, ⟨q6, by omega⟩, by omega, r⟩
end
end Go.Proofs.YtcdoeninajpbmaaGreatDoor
