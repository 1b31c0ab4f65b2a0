/-
  The walk of PagerPlays: its state, and what each act makes of it.
-/
import Derived.Test.YtcdoeninajpbmaaGreatDoorPpD
import Derived.Test.YtcdoeninajpbmaaGreatDoorPgO
import Derived.Test.YtcdoeninajpbmaaGreatDoorTell
import Derived.ChangeKeysEq
namespace Go.Proofs.YtcdoeninajpbmaaGreatDoor
open Go Go.RowKit Go.Maps

/-- A struct Pages is loaded: it yields the same in every world that holds it. -/
theorem yieldsIf_load_rp {ops : Array Oper} {S : World → Prop} {op : Oper} {a : Act} (hw : Region.wanted op (yielded ops a.tmps) = true) (x : Operand) (ho : op.op = .load 38 x) (B M n : Nat) (G : Int → Option ByteArray) (R : Nat → Int × Int)
    (hx : a.eval x = .pointer (some ⟨B, 0, none⟩)) (A : Array Value) (hA : A = (rp M R).toArray) (hS : ∀ w, S w → RpAt w B M n G R) : YieldsIf Tryz.prog ops S op (.agg A) a := by
  subst hA
  exact yieldsIf_load_mid hw 38 x ho B 0 hx _ _ (fun w h => (hS w h).rng) Tryz.underlying38 rfl (by rw [info_pages, rp_len])
/-- Room for a struct Pages. -/
def RoomAt (w : World) (B : Nat) : Prop := w.there B 0 17 ∧ ∀ o, w.frozen? ⟨B, o, none⟩ = false
theorem RoomAt.lt {w : World} {B : Nat} (h : RoomAt w B) : B < w.heap.size := by
  obtain ⟨v, hv⟩ := Option.isSome_iff_exists.1 (h.1 0 (by omega)).1
  exact lt_of_cell hv
theorem RoomAt.keepX {S : Nat → Prop} {w w' : World} {B : Nat} (h : RoomAt w B) (g : GrX S w w') (hs : ¬ S B) : RoomAt w' B := by
  have hb := g.block h.lt hs
  exact ⟨fun j hj => ⟨by rw [World.cell?_of_block hb]; exact (h.1 j hj).1, by rw [World.frozen?_of_block hb]; exact (h.1 j hj).2⟩, fun o => by rw [World.frozen?_of_block hb]; exact h.2 o⟩
theorem RoomAt.gr {w w' : World} {B : Nat} (h : RoomAt w B) (g : Gr w w') : RoomAt w' B := h.keepX (S := fun _ => False) (GrX.of_gr g) id
theorem new_rp (w : World) : RoomAt (w.alloc (.cells #[.map none, .int .i64 0, .int .i64 0, .int .i64 0, .int .i64 0, .int .i64 0, .int .i64 0, .int .i64 0, .int .i64 0, .int .i64 0, .int .i64 0, .int .i64 0, .int .i64 0, .int .i64 0, .int .i64 0, .int .i64 0, .int .i64 0] 38)) w.heap.size := by
  refine ⟨fun j hj => ?_, fun o => by simp⟩
  constructor
  · rw [World.cell?_alloc_new, Array.getElem?_eq_getElem (by simp; omega)]
    rfl
  · simp
theorem wp_store_rp {o : Oper} {a : Act} {w : World} {K : Act → World → Prop} {Kp : Exit → Act → World → Prop} (x y : Operand) (ho : o.op = .store 38 x y) (B M n : Nat) (G : Int → Option ByteArray) (R : Nat → Int × Int) (A : Array Value)
    (hx : a.eval x = .pointer (some ⟨B, 0, none⟩)) (hy : a.eval y = .agg A) (hA : A = (rp M R).toArray) (hth : w.there B 0 17) (hfr : ∀ o, w.frozen? ⟨B, o, none⟩ = false) (hm : MapAt w M n G) (hne : B ≠ M)
    (hk : ∀ w', RpAt w' B M n G R → GrX (fun k => k = B) w w' → K (a.put o.dst undef) w') : o.wp Tryz.prog a w K Kp := by
  subst hA
  refine wp_store_mid 38 x y ho B 0 _ hx hy (by rw [rp_size]; exact hth) (by rw [info_pages, rp_size]) (all_oneCell_toArray (rp_one M R)) ?_
  have hg := setCells_blk B (rp M R) 0 w
  exact hk _ ⟨World.rangeAt_setCells_same w B 0 _ (by rw [rp_len]; exact hth), fun o => by rw [World.frozen?_setCells]; exact hfr o, hm.keepX hg (fun e => hne e.symm), hne⟩ hg
/-- One act. -/
structure LAct where
  what : Int
  at_ : Int
  n : Int
  note : Int
def LAct.ok (x : LAct) : Prop := (-9223372036854775808 ≤ x.what ∧ x.what ≤ 9223372036854775807) ∧ (-9223372036854775808 ≤ x.at_ ∧ x.at_ ≤ 9223372036854775807) ∧ (-9223372036854775808 ≤ x.n ∧ x.n ≤ 9223372036854775807) ∧ (-9223372036854775808 ≤ x.note ∧ x.note ≤ 9223372036854775807)
/-- A list of acts that came in. -/
def LActs (w : World) (v : Value) (xs : List LAct) : Prop :=
  (v = .slice none 0 0 ∧ xs = []) ∨ ∃ b off c, v = .slice (some ⟨b, off, none⟩) xs.length c ∧ b < w.heap.size ∧
    ∀ i (h : i < xs.length), w.cell? ⟨b, off + i * 4, none⟩ = some (.int .i64 xs[i].what) ∧ w.cell? ⟨b, off + i * 4 + 1, none⟩ = some (.int .i64 xs[i].at_) ∧ w.cell? ⟨b, off + i * 4 + 2, none⟩ = some (.int .i64 xs[i].n) ∧ w.cell? ⟨b, off + i * 4 + 3, none⟩ = some (.int .i64 xs[i].note)
theorem LActs.form {w : World} {v : Value} {xs : List LAct} (h : LActs w v xs) : ∃ ao c, v = .slice ao xs.length c := by
  rcases h with ⟨rfl, rfl⟩ | ⟨b, off, c, rfl, _⟩
  · exact ⟨none, 0, rfl⟩
  · exact ⟨_, c, rfl⟩
theorem LActs.gr {w w' : World} {v : Value} {xs : List LAct} (h : LActs w v xs) (g : Gr w w') : LActs w' v xs := by
  rcases h with h | ⟨b, off, c, rfl, hb, hc⟩
  · exact .inl h
  · exact .inr ⟨b, off, c, rfl, Nat.lt_of_lt_of_le hb g.size, fun i hi => ⟨g.keeps (hc i hi).1, g.keeps (hc i hi).2.1, g.keeps (hc i hi).2.2.1, g.keeps (hc i hi).2.2.2⟩⟩
theorem LActs.at {w : World} {ao : Option Addr} {n c : Nat} {xs : List LAct} (h : LActs w (.slice ao n c) xs) {i : Nat} (hi : i < xs.length) : ∃ b off, ao = some ⟨b, off, none⟩ ∧ b < w.heap.size ∧
    w.cell? ⟨b, off + i * 4, none⟩ = some (.int .i64 xs[i].what) ∧ w.cell? ⟨b, off + i * 4 + 1, none⟩ = some (.int .i64 xs[i].at_) ∧ w.cell? ⟨b, off + i * 4 + 2, none⟩ = some (.int .i64 xs[i].n) ∧ w.cell? ⟨b, off + i * 4 + 3, none⟩ = some (.int .i64 xs[i].note) := by
  rcases h with ⟨_, rfl⟩ | ⟨b, off, c, h1, h2, h3⟩
  · exact absurd hi (by simp)
  · injection h1 with e1 e2 e3
    exact ⟨b, off, e1, h2, h3 i hi⟩
/-- What the law holds, behind some acts. -/
structure LSt (w0 w : World) (PB DB M n NB NM nn : Nat) (G : Int → Option ByteArray) (R : Nat → Int × Int) (SB SM sn : Nat) (G1 : Int → Option ByteArray) (R1 : Nat → Int × Int) (OB OM on : Nat) (G2 : Int → Option ByteArray) (R2 : Nat → Int × Int) (KB MK nK : Nat) (hm : Head) (Fm : Int → Option ByteArray) (tm : Int)
    (c : Ch) (sv : Head) (t : Int) (d : Dk) (fresh : Bool) (i : Nat) (ok : Bool) : Prop where
  pg : PgS w PB DB M n c sv t d
  oth : Oth w NB NM nn G R SB SM sn G1 R1 OB OM on G2 R2 KB MK nK hm Fm tm
  sep : ∀ b ∈ [NB, NM, SB, SM, OB, OM, KB, MK], b ≠ PB ∧ b ≠ DB ∧ b ≠ M
  g0 : Gr w0 w
  base : (w0.heap.size ≤ PB ∧ w0.heap.size ≤ DB ∧ w0.heap.size ≤ M) ∧ ∀ b ∈ [NB, NM, SB, SM, OB, OM, KB, MK], w0.heap.size ≤ b
  l0 : ok = true → Lk c d.pg G R
  l1 : ok = true → Lk (.new sv) d.pg G1 R1
  l2 : fresh = true → tm = t ∧ Lk ⟨hm, Fm⟩ d.pg G2 R2 ∧ Ch.fine ⟨hm, Fm⟩
  l3 : fresh = false → tm < t
  tm0 : tm ≤ t
  cf : c.fine
  cl : Clean d sv
  cut : d.cut = false
  left : -(5000 * (i : Int)) ≤ d.left ∧ d.left ≤ 0
  tb : 0 ≤ t ∧ t ≤ i
  nb : n ≤ 2 * i ∧ nn ≤ 2 * i ∧ sn ≤ 2 * i ∧ on ≤ 2 * i ∧ nK ≤ 2 * i
  us : usedN c.h 2000 ≤ i + 1 ∧ usedN sv 2000 ≤ i + 1 ∧ (fresh = true → usedN hm 2000 ≤ i + 1)
theorem LSt.gr {w0 w w' : World} {PB DB M n NB NM nn : Nat} {G : Int → Option ByteArray} {R : Nat → Int × Int} {SB SM sn : Nat} {G1 : Int → Option ByteArray} {R1 : Nat → Int × Int} {OB OM on : Nat} {G2 : Int → Option ByteArray} {R2 : Nat → Int × Int} {KB MK nK : Nat} {hm : Head} {Fm : Int → Option ByteArray} {tm : Int} {c : Ch} {sv : Head} {t : Int} {d : Dk} {fresh : Bool} {i : Nat} {ok : Bool}
    (h : LSt w0 w PB DB M n NB NM nn G R SB SM sn G1 R1 OB OM on G2 R2 KB MK nK hm Fm tm c sv t d fresh i ok) (g : Gr w w') : LSt w0 w' PB DB M n NB NM nn G R SB SM sn G1 R1 OB OM on G2 R2 KB MK nK hm Fm tm c sv t d fresh i ok :=
  ⟨h.pg.gr g, h.oth.gr g, h.sep, h.g0.trans g, h.base, h.l0, h.l1, h.l2, h.l3, h.tm0, h.cf, h.cl, h.cut, h.left, h.tb, h.nb, h.us⟩
theorem LSt.up {w0 w : World} {PB DB M n NB NM nn : Nat} {G : Int → Option ByteArray} {R : Nat → Int × Int} {SB SM sn : Nat} {G1 : Int → Option ByteArray} {R1 : Nat → Int × Int} {OB OM on : Nat} {G2 : Int → Option ByteArray} {R2 : Nat → Int × Int} {KB MK nK : Nat} {hm : Head} {Fm : Int → Option ByteArray} {tm : Int} {c : Ch} {sv : Head} {t : Int} {d : Dk} {fresh : Bool} {i : Nat} {ok : Bool}
    (h : LSt w0 w PB DB M n NB NM nn G R SB SM sn G1 R1 OB OM on G2 R2 KB MK nK hm Fm tm c sv t d fresh i ok) : LSt w0 w PB DB M n NB NM nn G R SB SM sn G1 R1 OB OM on G2 R2 KB MK nK hm Fm tm c sv t d fresh (i + 1) ok := by
  obtain ⟨b1, b2, b3, b4, b5⟩ := h.nb
  obtain ⟨u1, u2, u3⟩ := h.us
  have hl := h.left
  have ht := h.tb
  exact ⟨h.pg, h.oth, h.sep, h.g0, h.base, h.l0, h.l1, h.l2, h.l3, h.tm0, h.cf, h.cl, h.cut, by omega, by omega, ⟨by omega, by omega, by omega, by omega, by omega⟩, ⟨by omega, by omega, fun e => by have := u3 e; omega⟩⟩
theorem LSt.moved {w0 w w' : World} {PB DB M M' n NB NM nn : Nat} {G : Int → Option ByteArray} {R : Nat → Int × Int} {SB SM sn : Nat} {G1 : Int → Option ByteArray} {R1 : Nat → Int × Int} {OB OM on : Nat} {G2 : Int → Option ByteArray} {R2 : Nat → Int × Int} {KB MK nK : Nat} {hm : Head} {Fm : Int → Option ByteArray} {tm : Int} {c : Ch} {sv : Head} {t : Int} {d : Dk} {fresh : Bool} {i : Nat} {ok : Bool}
    (h : LSt w0 w PB DB M n NB NM nn G R SB SM sn G1 R1 OB OM on G2 R2 KB MK nK hm Fm tm c sv t d fresh i ok) (hf : PgF PB DB M M' w w') : Oth w' NB NM nn G R SB SM sn G1 R1 OB OM on G2 R2 KB MK nK hm Fm tm ∧ (∀ b ∈ [NB, NM, SB, SM, OB, OM, KB, MK], b ≠ PB ∧ b ≠ DB ∧ b ≠ M') ∧ Gr w0 w' ∧ ((w0.heap.size ≤ PB ∧ w0.heap.size ≤ DB ∧ w0.heap.size ≤ M') ∧ ∀ b ∈ [NB, NM, SB, SM, OB, OM, KB, MK], w0.heap.size ≤ b) := by
  obtain ⟨⟨b1, b2, b3⟩, b4⟩ := h.base
  have hg := hf.gr h.g0 b1 b2 b3
  refine ⟨h.oth.keepX hf.2 fun b hb e => ?_, fun b hb => ⟨(h.sep b hb).1, (h.sep b hb).2.1, hf.off (h.oth.lts b hb) (h.sep b hb).2.2⟩, hg.1, ⟨b1, b2, hg.2⟩, b4⟩
  obtain ⟨s1, s2, s3⟩ := h.sep b hb
  rcases e with e | e | e
  · exact s1 e
  · exact s2 e
  · exact s3 e
/-- now is made anew, out of a copy. -/
theorem LSt.setNow2 {w0 w w' : World} {PB DB M n NB NM nn : Nat} {G : Int → Option ByteArray} {R : Nat → Int × Int} {SB SM sn : Nat} {G1 : Int → Option ByteArray} {R1 : Nat → Int × Int} {OB OM on : Nat} {G2 : Int → Option ByteArray} {R2 : Nat → Int × Int} {KB MK nK : Nat} {hm : Head} {Fm : Int → Option ByteArray} {tm : Int} {c : Ch} {sv : Head} {t : Int} {d : Dk} {fresh : Bool} {i : Nat} {ok : Bool}
    (h : LSt w0 w PB DB M n NB NM nn G R SB SM sn G1 R1 OB OM on G2 R2 KB MK nK hm Fm tm c sv t d fresh i ok) {NM' nn' : Nat} {G' : Int → Option ByteArray} {R' : Nat → Int × Int} {S : Nat → Prop} {ok2 : Bool} (g : GrX S w w') (hS : ∀ k, S k → k = NB ∨ k = NM) (hn : RpAt w' NB NM' nn' G' R') (hf : NM' = NM ∨ w.heap.size ≤ NM') (hl : ok2 = true → Lk c d.pg G' R') (hl1 : ok2 = true → Lk (.new sv) d.pg G1 R1) (hb : nn' ≤ 2 * i) :
    LSt w0 w' PB DB M n NB NM' nn' G' R' SB SM sn G1 R1 OB OM on G2 R2 KB MK nK hm Fm tm c sv t d fresh i ok2 := by
  have hlt := h.pg.lt
  have hsn := h.sep NB (by simp)
  have hsm := h.sep NM (by simp)
  have hsz := g.2.2.2.1
  have hbn := h.base.2 NB (by simp)
  have hbm := h.base.2 NM (by simp)
  have hg0 := h.g0.size
  have hno : ∀ b, b ≠ NB → b ≠ NM → ¬ S b := fun b h1 h2 e => (hS b e).elim h1 h2
  have hfr : ∀ x, x < w.heap.size → x ≠ NM → x ≠ NM' := fun x hx h1 => by rcases hf with e | e <;> omega
  refine ⟨?_, h.oth.newNow g (fun b hb => hno b (h.oth.sepNow b hb).1 (h.oth.sepNow b hb).2) hn hf, fun b hb => ?_, g.gr h.g0 (fun k e => (hS k e).elim (fun e => by omega) fun e => by omega), ⟨h.base.1, fun b hb => ?_⟩, hl, hl1, h.l2, h.l3, h.tm0, h.cf, h.cl, h.cut, h.left, h.tb, ?_, h.us⟩
  · obtain ⟨⟨n1, h4, h5⟩, h6, h7, h8⟩ := h.pg
    refine ⟨⟨n1, h4, h5.keepX g (hno _ (fun e => hsn.1 e.symm) (fun e => hsm.1 e.symm)) (hno _ (fun e => hsn.2.2 e.symm) (fun e => hsm.2.2 e.symm))⟩, h6.keepX g (hno _ (fun e => hsn.2.1 e.symm) (fun e => hsm.2.1 e.symm)), h7, h8⟩
  · have key : b = NM' ∨ b ∈ [NB, NM, SB, SM, OB, OM, KB, MK] := by
      simp only [List.mem_cons, List.not_mem_nil, or_false] at hb ⊢
      rcases hb with e | e | e | e | e | e | e | e <;> simp [e]
    rcases key with rfl | hb2
    · exact ⟨fun e => hfr _ hlt.1 (fun e => hsm.1 e.symm) e.symm, fun e => hfr _ hlt.2.1 (fun e => hsm.2.1 e.symm) e.symm, fun e => hfr _ hlt.2.2 (fun e => hsm.2.2 e.symm) e.symm⟩
    · exact h.sep b hb2
  · have key : b = NM' ∨ b ∈ [NB, NM, SB, SM, OB, OM, KB, MK] := by
      simp only [List.mem_cons, List.not_mem_nil, or_false] at hb ⊢
      rcases hb with e | e | e | e | e | e | e | e <;> simp [e]
    rcases key with rfl | hb2
    · rcases hf with e | e <;> omega
    · exact h.base.2 b hb2
  · obtain ⟨b1, b2, b3⟩ := h.nb
    exact ⟨b1, hb, b3⟩
theorem LSt.setNow {w0 w w' : World} {PB DB M n NB NM nn : Nat} {G : Int → Option ByteArray} {R : Nat → Int × Int} {SB SM sn : Nat} {G1 : Int → Option ByteArray} {R1 : Nat → Int × Int} {OB OM on : Nat} {G2 : Int → Option ByteArray} {R2 : Nat → Int × Int} {KB MK nK : Nat} {hm : Head} {Fm : Int → Option ByteArray} {tm : Int} {c : Ch} {sv : Head} {t : Int} {d : Dk} {fresh : Bool} {i : Nat} {ok : Bool}
    (h : LSt w0 w PB DB M n NB NM nn G R SB SM sn G1 R1 OB OM on G2 R2 KB MK nK hm Fm tm c sv t d fresh i ok) {NM' nn' : Nat} {G' : Int → Option ByteArray} {R' : Nat → Int × Int} {S : Nat → Prop} (g : GrX S w w') (hS : ∀ k, S k → k = NB ∨ k = NM) (hn : RpAt w' NB NM' nn' G' R') (hf : NM' = NM ∨ w.heap.size ≤ NM') (hl : Lk c d.pg G' R') (hl1 : Lk (.new sv) d.pg G1 R1) (hb : nn' ≤ 2 * i) :
    LSt w0 w' PB DB M n NB NM' nn' G' R' SB SM sn G1 R1 OB OM on G2 R2 KB MK nK hm Fm tm c sv t d fresh i true :=
  h.setNow2 g hS hn hf (fun _ => hl) (fun _ => hl1) hb
/-- saved is made anew, out of a copy. -/
theorem LSt.setSaved {w0 w w' : World} {PB DB M n NB NM nn : Nat} {G : Int → Option ByteArray} {R : Nat → Int × Int} {SB SM sn : Nat} {G1 : Int → Option ByteArray} {R1 : Nat → Int × Int} {OB OM on : Nat} {G2 : Int → Option ByteArray} {R2 : Nat → Int × Int} {KB MK nK : Nat} {hm : Head} {Fm : Int → Option ByteArray} {tm : Int} {c : Ch} {sv : Head} {t : Int} {d : Dk} {fresh : Bool} {i : Nat} {ok : Bool}
    (h : LSt w0 w PB DB M n NB NM nn G R SB SM sn G1 R1 OB OM on G2 R2 KB MK nK hm Fm tm c sv t d fresh i ok) {SM' sn' : Nat} {G' : Int → Option ByteArray} {R' : Nat → Int × Int} {S : Nat → Prop} (g : GrX S w w') (hS : ∀ k, S k → k = SB) (hn : RpAt w' SB SM' sn' G' R') (hf : w.heap.size ≤ SM') (hl0 : Lk c d.pg G R) (hl : Lk (.new sv) d.pg G' R') (hb : sn' ≤ 2 * i) :
    LSt w0 w' PB DB M n NB NM nn G R SB SM' sn' G' R' OB OM on G2 R2 KB MK nK hm Fm tm c sv t d fresh i true := by
  have hlt := h.pg.lt
  have hss := h.sep SB (by simp)
  have hsz := g.2.2.2.1
  have hbs := h.base.2 SB (by simp)
  have hg0 := h.g0.size
  have hno : ∀ b, b ≠ SB → ¬ S b := fun b h1 e => h1 (hS b e)
  refine ⟨?_, h.oth.newSaved g (fun b hb => hno b (h.oth.sepSaved b hb)) hn hf, fun b hb => ?_, g.gr h.g0 (fun k e => by rw [hS k e]; omega), ⟨h.base.1, fun b hb => ?_⟩, (fun _ => hl0), (fun _ => hl), h.l2, h.l3, h.tm0, h.cf, h.cl, h.cut, h.left, h.tb, ?_, h.us⟩
  · obtain ⟨⟨n1, h4, h5⟩, h6, h7, h8⟩ := h.pg
    exact ⟨⟨n1, h4, h5.keepX g (hno _ (fun e => hss.1 e.symm)) (hno _ (fun e => hss.2.2 e.symm))⟩, h6.keepX g (hno _ (fun e => hss.2.1 e.symm)), h7, h8⟩
  · have key : b = SM' ∨ b ∈ [NB, NM, SB, SM, OB, OM, KB, MK] := by
      simp only [List.mem_cons, List.not_mem_nil, or_false] at hb ⊢
      rcases hb with e | e | e | e | e | e | e | e <;> simp [e]
    rcases key with rfl | hb2
    · exact ⟨fun e => by omega, fun e => by omega, fun e => by omega⟩
    · exact h.sep b hb2
  · have key : b = SM' ∨ b ∈ [NB, NM, SB, SM, OB, OM, KB, MK] := by
      simp only [List.mem_cons, List.not_mem_nil, or_false] at hb ⊢
      rcases hb with e | e | e | e | e | e | e | e <;> simp [e]
    rcases key with rfl | hb2
    · omega
    · exact h.base.2 b hb2
  · obtain ⟨b1, b2, b3, b4⟩ := h.nb
    exact ⟨b1, b2, hb, b4⟩
/-- What the law holds, the letters hidden. -/
def LRel (w0 : World) (DB NB SB OB KB i : Nat) (pv : Value) (fresh : Bool) (w : World) : Prop :=
  ∃ PB M n NM nn G R SM sn G1 R1 OM on G2 R2 MK nK hm Fm tm c sv t d, pv = .pointer (some ⟨PB, 0, none⟩) ∧ LSt w0 w PB DB M n NB NM nn G R SB SM sn G1 R1 OB OM on G2 R2 KB MK nK hm Fm tm c sv t d fresh i true
theorem wpList_store_mark2 {ops : Array Oper} {rest : List Oper} {op : Oper} {a : Act} {w : World} {Q : Exit → Act → World → Prop} (hgd : op.guard = none) (x y : Operand) (ho : op.op = .store 45 x y) (b : Nat) (h : Head) (m : Option Nat) (t : Int) (A : Array Value)
    (hx : a.eval x = .pointer (some ⟨b, 0, none⟩)) (hy : a.eval y = .agg A) (hA : A = (markCells h m t).toArray) (hth : w.there b 0 2018)
    (hk : ∀ w', w'.rangeAt b 0 (markCells h m t) → GrX (fun k => k = b) w w' → (∀ o, w'.frozen? ⟨b, o, none⟩ = w.frozen? ⟨b, o, none⟩) → wpList Tryz.prog ops Q rest (a.put op.dst undef) w') : wpList Tryz.prog ops Q (op :: rest) a w := by
  subst hA
  refine wpList_store_mid hgd 45 x y ho b 0 _ hx hy (by rw [markCells_size]; exact hth) (by rw [info_mark, markCells_size]) (all_oneCell_toArray (markCells_one _ _ _)) ?_
  exact hk _ (World.rangeAt_setCells_same w b 0 _ (by rw [markCells_len]; exact hth)) (setCells_block b _ 0 w) (fun o => World.frozen?_setCells _ _ _ _ _)
theorem PgS.keepX {S : Nat → Prop} {w w' : World} {PB DB M n : Nat} {c : Ch} {sv : Head} {t : Int} {d : Dk} (h : PgS w PB DB M n c sv t d) (g : GrX S w w') (h1 : ¬ S PB) (h2 : ¬ S DB) (h3 : ¬ S M) : PgS w' PB DB M n c sv t d := by
  obtain ⟨⟨n', h4, h5⟩, h6, h7, h8⟩ := h
  exact ⟨⟨n', h4, h5.keepX g h1 h3⟩, h6.keepX g h2, h7, h8⟩
/-- An act of the pager. -/
theorem LSt.act {w0 w w' : World} {PB DB M n NB NM nn : Nat} {G : Int → Option ByteArray} {R : Nat → Int × Int} {SB SM sn : Nat} {G1 : Int → Option ByteArray} {R1 : Nat → Int × Int} {OB OM on : Nat} {G2 : Int → Option ByteArray} {R2 : Nat → Int × Int} {KB MK nK : Nat} {hm : Head} {Fm : Int → Option ByteArray} {tm : Int} {c : Ch} {sv : Head} {t : Int} {d : Dk} {fresh : Bool} {i : Nat} {ok : Bool}
    (h : LSt w0 w PB DB M n NB NM nn G R SB SM sn G1 R1 OB OM on G2 R2 KB MK nK hm Fm tm c sv t d fresh i ok) {M' n' : Nat} {c' : Ch} {ok2 : Bool} (hs : PgS w' PB DB M' n' c' sv t d) (hf : PgF PB DB M M' w w') (hcf : c'.fine) (hn : n' ≤ 2 * i) (hu : usedN c'.h 2000 ≤ i + 1) (hl : ok2 = true → Lk c' d.pg G R) (hl1 : ok2 = true → Lk (.new sv) d.pg G1 R1) :
    LSt w0 w' PB DB M' n' NB NM nn G R SB SM sn G1 R1 OB OM on G2 R2 KB MK nK hm Fm tm c' sv t d fresh i ok2 := by
  obtain ⟨h1, h2, h3, h4⟩ := h.moved hf
  obtain ⟨b1, b2, b3, b4, b5⟩ := h.nb
  obtain ⟨u1, u2, u3⟩ := h.us
  exact ⟨hs, h1, h2, h3, h4, hl, hl1, h.l2, h.l3, h.tm0, hcf, h.cl, h.cut, h.left, h.tb, ⟨hn, b2, b3, b4, b5⟩, ⟨hu, u2, u3⟩⟩
theorem Oth.mthere {w : World} {NB NM nn : Nat} {G : Int → Option ByteArray} {R : Nat → Int × Int} {SB SM sn : Nat} {G1 : Int → Option ByteArray} {R1 : Nat → Int × Int} {OB OM on : Nat} {G2 : Int → Option ByteArray} {R2 : Nat → Int × Int} {KB MK nK : Nat} {hm : Head} {Fm : Int → Option ByteArray} {tm : Int} (h : Oth w NB NM nn G R SB SM sn G1 R1 OB OM on G2 R2 KB MK nK hm Fm tm) : w.there KB 0 2018 := fun j hj =>
  ⟨World.rangeAt.isSome h.mrk j (by rw [markCells_len]; exact hj), h.mfr _⟩
/-- How many pages there are. -/
theorem MapAt.len {w : World} {M n : Nat} {F : Int → Option ByteArray} (h : MapAt w M n F) (hF : fineF F) (ty : TypeId) : (Builtin.len_ #[34] ty #[.map (some M)]).run Tryz.prog w = .ok (.int .i64 ((ksF F).length : Nat)) w := by
  obtain ⟨D, h1, h2⟩ := h.keys hF
  have hsz : Maps.size D = (ksF F).length := by
    obtain ⟨es, rfl, _⟩ := h1.entries keyI
    have := h2.length_eq
    simp only [intKeys, List.length_map] at this
    exact this.symm
  rw [h1.len (t := 34) (e := 9) Tryz.underlying34 ty, hsz]
/-- A root is stored. -/
theorem RpAt.setRoot {w : World} {B M n : Nat} {G : Int → Option ByteArray} {R : Nat → Int × Int} (h : RpAt w B M n G R) (i : Nat) (hi : i < 8) (p q : Int) : RpAt (w.setCells B (1 + i * 2) [.int .i64 p, .int .i64 q]) B M n G (fun j => if j = i then (p, q) else R j) := by
  have hg := setCells_blk B [.int .i64 p, .int .i64 q] (1 + i * 2) w
  have h17 : ∀ j v, (rp M R)[j]? = some v → w.cell? ⟨B, 0 + j, none⟩ = some v := h.rng
  have hx0 := h.there
  refine ⟨fun j v hv => ?_, fun o => by rw [World.frozen?_setCells]; exact h.free o, h.map.keepX hg (fun e => h.ne e.symm), h.ne⟩
  have hj : j < 17 := by
    have := (List.getElem?_eq_some_iff.1 hv).1
    rwa [rp_len] at this
  rw [Nat.zero_add]
  by_cases e1 : j = 1 + i * 2
  · have hs := World.rangeAt_setCells_same w B (1 + i * 2) [.int .i64 p, .int .i64 q] (fun k hk => by
      have hk2 : k < 2 := hk
      exact ⟨by have := (hx0 (1 + i * 2 + k) (by omega)).1; rwa [Nat.zero_add] at this, h.free _⟩) 0 _ rfl
    rw [Nat.add_zero] at hs
    rw [e1, hs, ← hv, e1]
    have : i = 0 ∨ i = 1 ∨ i = 2 ∨ i = 3 ∨ i = 4 ∨ i = 5 ∨ i = 6 ∨ i = 7 := by omega
    rcases this with rfl | rfl | rfl | rfl | rfl | rfl | rfl | rfl <;> rfl
  by_cases e2 : j = 1 + i * 2 + 1
  · have hs := World.rangeAt_setCells_same w B (1 + i * 2) [.int .i64 p, .int .i64 q] (fun k hk => by
      have hk2 : k < 2 := hk
      exact ⟨by have := (hx0 (1 + i * 2 + k) (by omega)).1; rwa [Nat.zero_add] at this, h.free _⟩) 1 _ rfl
    rw [e2, hs, ← hv, e2]
    have : i = 0 ∨ i = 1 ∨ i = 2 ∨ i = 3 ∨ i = 4 ∨ i = 5 ∨ i = 6 ∨ i = 7 := by omega
    rcases this with rfl | rfl | rfl | rfl | rfl | rfl | rfl | rfl <;> rfl
  · have ho : (w.setCells B (1 + i * 2) [.int .i64 p, .int .i64 q]).cell? ⟨B, j, none⟩ = w.cell? ⟨B, j, none⟩ := by
      simp only [World.setCells]
      rw [World.cell?_setCell_other _ _ _ _ (fun e => by injection e with _ e2 _; omega), World.cell?_setCell_other _ _ _ _ (fun e => by injection e with _ e2 _; omega)]
    rw [ho]
    have h1 := h17 j v (by
      rw [← hv]
      have : i = 0 ∨ i = 1 ∨ i = 2 ∨ i = 3 ∨ i = 4 ∨ i = 5 ∨ i = 6 ∨ i = 7 := by omega
      have : j = 0 ∨ j = 1 ∨ j = 2 ∨ j = 3 ∨ j = 4 ∨ j = 5 ∨ j = 6 ∨ j = 7 ∨ j = 8 ∨ j = 9 ∨ j = 10 ∨ j = 11 ∨ j = 12 ∨ j = 13 ∨ j = 14 ∨ j = 15 ∨ j = 16 := by omega
      rcases this with rfl | rfl | rfl | rfl | rfl | rfl | rfl | rfl | rfl | rfl | rfl | rfl | rfl | rfl | rfl | rfl | rfl <;> simp only [rp, List.getElem?_cons_succ, List.getElem?_cons_zero, Option.some.injEq, Value.int.injEq, true_and] <;> rw [if_neg (by omega)])
    rwa [Nat.zero_add] at h1
theorem usedN_free (c : Ch) (k : Int) (n : Nat) : usedN (c.free k).h n ≤ usedN c.h n := by
  unfold Ch.free
  split
  · exact usedN_le_put c.h _ n
  · exact Nat.le_refl _
theorem inUse_write (c : Ch) (k : Int) (s : ByteArray) (j : Int) : inUse (c.write k s).h j = inUse c.h j := by
  unfold Ch.write
  split <;> rfl
theorem usedN_write (c : Ch) (k : Int) (s : ByteArray) (n : Nat) : usedN (c.write k s).h n = usedN c.h n := by
  unfold Ch.write
  split <;> rfl
section
variable {w w' : World} {NB NM nn : Nat} {G : Int → Option ByteArray} {R : Nat → Int × Int} {SB SM sn : Nat} {G1 : Int → Option ByteArray} {R1 : Nat → Int × Int} {OB OM on : Nat} {G2 : Int → Option ByteArray} {R2 : Nat → Int × Int} {KB MK nK : Nat} {hm : Head} {Fm : Int → Option ByteArray} {tm : Int}
theorem Oth.newNoted2 (h : Oth w NB NM nn G R SB SM sn G1 R1 OB OM on G2 R2 KB MK nK hm Fm tm) {S : Nat → Prop} (g : GrX S w w') (hs : ∀ b ∈ [NB, NM, SB, SM, KB, MK], ¬ S b) {OM' on' : Nat} {G' : Int → Option ByteArray} {R' : Nat → Int × Int} (hn : RpAt w' OB OM' on' G' R') (hf : OM' ≠ NB ∧ OM' ≠ NM ∧ OM' ≠ SB ∧ OM' ≠ SM ∧ OM' ≠ OB ∧ OM' ≠ KB ∧ OM' ≠ MK) : Oth w' NB NM nn G R SB SM sn G1 R1 OB OM' on' G' R' KB MK nK hm Fm tm := by
  refine ⟨h.now.keepX g (hs _ (by simp)) (hs _ (by simp)), h.saved.keepX g (hs _ (by simp)) (hs _ (by simp)), hn, range_kept h.mrk g (hs _ (by simp)), fun o => (g.frozen o h.mlt (hs _ (by simp))).trans (h.mfr o), h.mmp.keepX g (hs _ (by simp)), ?_, Nat.lt_of_lt_of_le h.mlt g.2.2.2.1⟩
  have hnd := h.nd
  simp only [List.nodup_cons, List.mem_cons, List.not_mem_nil, or_false, not_or] at hnd ⊢
  obtain ⟨⟨a1, a2, a3, a4, a5, a6, a7⟩, ⟨b2, b3, b4, b5, b6, b7⟩, ⟨c3, c4, c5, c6, c7⟩, ⟨e4, e5, e6, e7⟩, ⟨f5, f6, f7⟩, ⟨q6, q7⟩, r⟩ := hnd
  refine ⟨⟨a1, a2, a3, a4, fun e => hf.1 e.symm, a6, a7⟩, ⟨b2, b3, b4, fun e => hf.2.1 e.symm, b6, b7⟩, ⟨c3, c4, fun e => hf.2.2.1 e.symm, c6, c7⟩, ⟨e4, fun e => hf.2.2.2.1 e.symm, e6, e7⟩, ⟨fun e => hf.2.2.2.2.1 e.symm, f6, f7⟩, ⟨hf.2.2.2.2.2.1, hf.2.2.2.2.2.2⟩, r⟩
end
theorem mem8 {P : Nat → Prop} {a b c d e f g h : Nat} (h0 : P a) (h1 : P b) (h2 : P c) (h3 : P d) (h4 : P e) (h5 : P f) (h6 : P g) (h7 : P h) : ∀ x ∈ [a, b, c, d, e, f, g, h], P x := by
  intro x hx
  simp only [List.mem_cons, List.not_mem_nil, or_false] at hx
  rcases hx with rfl | rfl | rfl | rfl | rfl | rfl | rfl | rfl <;> assumption
/-- All is as it was noted: what is noted is new. -/
theorem LSt.setMark {w0 w w' : World} {PB DB M n NB NM nn : Nat} {G : Int → Option ByteArray} {R : Nat → Int × Int} {SB SM sn : Nat} {G1 : Int → Option ByteArray} {R1 : Nat → Int × Int} {OB OM on : Nat} {G2 : Int → Option ByteArray} {R2 : Nat → Int × Int} {KB MK nK : Nat} {hm : Head} {Fm : Int → Option ByteArray} {tm : Int} {c : Ch} {sv : Head} {t : Int} {d : Dk} {fresh : Bool} {i : Nat} {ok : Bool}
    (h : LSt w0 w PB DB M n NB NM nn G R SB SM sn G1 R1 OB OM on G2 R2 KB MK nK hm Fm tm c sv t d fresh i ok) {OM' on' : Nat} {G' : Int → Option ByteArray} {R' : Nat → Int × Int} {MK' nK' : Nat} {hm' : Head} {Fm' : Int → Option ByteArray} {S : Nat → Prop} (g : GrX S w w') (hS : ∀ k, S k → k = OB ∨ k = KB)
    (ho : Oth w' NB NM nn G R SB SM sn G1 R1 OB OM' on' G' R' KB MK' nK' hm' Fm' t) (hf1 : w.heap.size ≤ OM') (hf2 : w.heap.size ≤ MK') (hl : Lk ⟨hm', Fm'⟩ d.pg G' R') (hfn : Ch.fine ⟨hm', Fm'⟩) (hl0 : Lk c d.pg G R) (hl1 : Lk (.new sv) d.pg G1 R1) (hb : on' ≤ 2 * i ∧ nK' ≤ 2 * i) (hu : usedN hm' 2000 ≤ i + 1) :
    LSt w0 w' PB DB M n NB NM nn G R SB SM sn G1 R1 OB OM' on' G' R' KB MK' nK' hm' Fm' t c sv t d true i true := by
  have hlt := h.pg.lt
  have hso := h.sep OB (by simp)
  have hsk := h.sep KB (by simp)
  have hbo := h.base.2 OB (by simp)
  have hbk := h.base.2 KB (by simp)
  have hg0 := h.g0.size
  obtain ⟨b1, b2, b3, b4, b5⟩ := h.nb
  obtain ⟨u1, u2, u3⟩ := h.us
  have hno : ∀ b, b ≠ OB → b ≠ KB → ¬ S b := fun b h1 h2 e => (hS b e).elim h1 h2
  refine ⟨h.pg.keepX g (hno _ (fun e => hso.1 e.symm) (fun e => hsk.1 e.symm)) (hno _ (fun e => hso.2.1 e.symm) (fun e => hsk.2.1 e.symm)) (hno _ (fun e => hso.2.2 e.symm) (fun e => hsk.2.2 e.symm)), ho, ?_, g.gr h.g0 (fun k e => (hS k e).elim (fun e => by omega) fun e => by omega), ⟨h.base.1, ?_⟩, (fun _ => hl0), (fun _ => hl1), (fun _ => ⟨rfl, hl, hfn⟩), (fun e => by cases e), Int.le_refl _, h.cf, h.cl, h.cut, h.left, h.tb, ⟨b1, b2, b3, hb.1, hb.2⟩, ⟨u1, u2, fun _ => hu⟩⟩
  · exact mem8 (P := fun b => b ≠ PB ∧ b ≠ DB ∧ b ≠ M) (h.sep _ (by simp)) (h.sep _ (by simp)) (h.sep _ (by simp)) (h.sep _ (by simp)) hso (by omega) hsk (by omega)
  · exact mem8 (P := fun b => w0.heap.size ≤ b) (h.base.2 _ (by simp)) (h.base.2 _ (by simp)) (h.base.2 _ (by simp)) (h.base.2 _ (by simp)) hbo (by omega) hbk (by omega)
/-- What is taken back is what was noted. -/
theorem LSt.back {w0 w w' : World} {PB DB M n NB NM nn : Nat} {G : Int → Option ByteArray} {R : Nat → Int × Int} {SB SM sn : Nat} {G1 : Int → Option ByteArray} {R1 : Nat → Int × Int} {OB OM on : Nat} {G2 : Int → Option ByteArray} {R2 : Nat → Int × Int} {KB MK nK : Nat} {hm : Head} {Fm : Int → Option ByteArray} {tm : Int} {c : Ch} {sv : Head} {t : Int} {d : Dk} {i : Nat} {ok : Bool}
    (h : LSt w0 w PB DB M n NB NM nn G R SB SM sn G1 R1 OB OM on G2 R2 KB MK nK hm Fm tm c sv t d true i ok) {M' : Nat} {ok2 : Bool} (hs : PgS w' PB DB M' nK ⟨hm, Fm⟩ sv t d) (hf : PgF PB DB M M' w w') (hl : ok2 = true → Lk ⟨hm, Fm⟩ d.pg G R) (hl1 : ok2 = true → Lk (.new sv) d.pg G1 R1) :
    LSt w0 w' PB DB M' nK NB NM nn G R SB SM sn G1 R1 OB OM on G2 R2 KB MK nK hm Fm tm ⟨hm, Fm⟩ sv t d true i ok2 := by
  obtain ⟨h1, h2, h3, h4⟩ := h.moved hf
  obtain ⟨b1, b2, b3, b4, b5⟩ := h.nb
  obtain ⟨u1, u2, u3⟩ := h.us
  exact ⟨hs, h1, h2, h3, h4, hl, hl1, h.l2, h.l3, h.tm0, (h.l2 rfl).2.2, h.cl, h.cut, h.left, h.tb, ⟨b5, b2, b3, b4, b5⟩, ⟨u3 rfl, u2, u3⟩⟩
theorem head_fine {h g : Head} (f : h.fine) (s : g.same h) : g.fine :=
  ⟨by rw [s.1 0 (by omega)]; exact f.zero, fun i hi => by rw [(s.2 i hi).1]; exact f.root i hi, fun i hi => by rw [(s.2 i hi).2]; exact f.note i hi⟩
/-- One of the three. -/
def Three (c : Ch) (pg0 pg : Nat → ByteArray) : Prop := ClsA pg0 pg ∨ ClsB (pagesF c.F) (textsF c.h c.F) pg0 pg ∨ ClsC (pagesF c.F) (textsF c.h c.F) pg0 pg
/-- One of the two that need nothing more. -/
def TwoC (c : Ch) (pg0 pg : Nat → ByteArray) : Prop := ClsA pg0 pg ∨ ClsC (pagesF c.F) (textsF c.h c.F) pg0 pg
/-- What is opened anew is what was committed. -/
theorem LSt.anew {w0 w w1 w' : World} {PB DB M n NB NM nn : Nat} {G : Int → Option ByteArray} {R : Nat → Int × Int} {SB SM sn : Nat} {G1 : Int → Option ByteArray} {R1 : Nat → Int × Int} {OB OM on : Nat} {G2 : Int → Option ByteArray} {R2 : Nat → Int × Int} {KB MK nK : Nat} {hm : Head} {Fm : Int → Option ByteArray} {tm : Int} {c : Ch} {sv : Head} {t : Int} {d : Dk} {fresh : Bool} {i : Nat}
    (h : LSt w0 w PB DB M n NB NM nn G R SB SM sn G1 R1 OB OM on G2 R2 KB MK nK hm Fm tm c sv t d fresh i true) {PB' M' : Nat} (hs : PgS w1 PB' DB M' 0 (.new (headD d.pg)) (headD d.pg) 0 d) (hp1 : w.heap.size ≤ PB') (hp2 : w.heap.size ≤ M') (g1 : GrX (fun b => b = DB) w w1)
    {NM' nn' OM' on' MK' nK' : Nat} {hm' : Head} {Fm' : Int → Option ByteArray} (he1 : hm' = headD d.pg) (he2 : Fm' = fun _ => none) {S : Nat → Prop} (g : GrX S w1 w') (hS : ∀ k, S k → k = NB ∨ k = OB ∨ k = KB) (ho : Oth w' NB NM' nn' G1 R1 SB SM sn G1 R1 OB OM' on' G1 R1 KB MK' nK' hm' Fm' 0)
    (hf0 : w1.heap.size ≤ NM') (hf1 : w1.heap.size ≤ OM') (hf2 : w1.heap.size ≤ MK') (hb : nn' ≤ 2 * i ∧ on' ≤ 2 * i ∧ nK' ≤ 2 * i) (hu : usedN (headD d.pg) 2000 ≤ i + 1) :
    LSt w0 w' PB' DB M' 0 NB NM' nn' G1 R1 SB SM sn G1 R1 OB OM' on' G1 R1 KB MK' nK' hm' Fm' 0 (.new (headD d.pg)) (headD d.pg) 0 d true i true := by
  subst he1 he2
  have hlt1 := hs.lt
  have lts := h.oth.lts
  have hz := g1.2.2.2.1
  have hg0 := h.g0.size
  obtain ⟨⟨bb1, bb2, bb3⟩, bb4⟩ := h.base
  obtain ⟨b1, b2, b3, b4, b5⟩ := h.nb
  have ne1 : ∀ {x y z : Nat}, x < y → y ≤ z → x ≠ z := fun h1 h2 => Nat.ne_of_lt (Nat.lt_of_lt_of_le h1 h2)
  have hno : ∀ b, b ≠ NB → b ≠ OB → b ≠ KB → ¬ S b := fun b h0 h1 h2 e => (hS b e).elim h0 fun e => e.elim h1 h2
  have hlk : Lk (.new (headD d.pg)) d.pg G1 R1 := (h.l1 rfl).sameHead h.cl.head
  have hfh : (headD d.pg).fine := head_fine h.cl.fine h.cl.head
  have hcl : Clean d (headD d.pg) := ⟨h.cl.whole, h.cl.log, Head.same.refl _, hfh⟩
  have hold : ∀ b ∈ [NB, NM, SB, SM, OB, OM, KB, MK], b ≠ PB' ∧ b ≠ DB ∧ b ≠ M' := fun b hb => ⟨ne1 (lts b hb) hp1, (h.sep b hb).2.1, ne1 (lts b hb) hp2⟩
  have hnew : ∀ b, w1.heap.size ≤ b → b ≠ PB' ∧ b ≠ DB ∧ b ≠ M' := fun b hb => ⟨fun e => ne1 hlt1.1 hb e.symm, fun e => ne1 hlt1.2.1 hb e.symm, fun e => ne1 hlt1.2.2 hb e.symm⟩
  have hb0 : w0.heap.size ≤ w1.heap.size := Nat.le_trans hg0 hz
  have gg : Gr w0 w' := g.gr (g1.gr h.g0 (fun k e => by rw [show k = DB from e]; exact bb2)) (fun k e => (hS k e).elim (fun e => by rw [e]; exact bb4 _ (by simp)) fun e => e.elim (fun e => by rw [e]; exact bb4 _ (by simp)) fun e => by rw [e]; exact bb4 _ (by simp))
  refine ⟨hs.keepX g (hno _ (fun e => (hold NB (by simp)).1 e.symm) (fun e => (hold OB (by simp)).1 e.symm) (fun e => (hold KB (by simp)).1 e.symm)) (hno _ (fun e => (hold NB (by simp)).2.1 e.symm) (fun e => (hold OB (by simp)).2.1 e.symm) (fun e => (hold KB (by simp)).2.1 e.symm)) (hno _ (fun e => (hold NB (by simp)).2.2 e.symm) (fun e => (hold OB (by simp)).2.2 e.symm) (fun e => (hold KB (by simp)).2.2 e.symm)), ho, ?_, gg, ⟨⟨Nat.le_trans hg0 hp1, bb2, Nat.le_trans hg0 hp2⟩, ?_⟩, (fun _ => hlk), (fun _ => hlk), (fun _ => ⟨rfl, hlk, Ch.new_fine hfh⟩), (fun e => by cases e), Int.le_refl _, Ch.new_fine hfh, hcl, h.cut, h.left, ⟨Int.le_refl _, Int.natCast_nonneg _⟩, ⟨Nat.zero_le _, hb.1, b3, hb.2.1, hb.2.2⟩, ⟨hu, hu, fun _ => hu⟩⟩
  · exact mem8 (P := fun b => b ≠ PB' ∧ b ≠ DB ∧ b ≠ M') (hold NB (by simp)) (hnew _ hf0) (hold SB (by simp)) (hold SM (by simp)) (hold OB (by simp)) (hnew _ hf1) (hold KB (by simp)) (hnew _ hf2)
  · exact mem8 (P := fun b => w0.heap.size ≤ b) (bb4 _ (by simp)) (Nat.le_trans hb0 hf0) (bb4 _ (by simp)) (bb4 _ (by simp)) (bb4 _ (by simp)) (Nat.le_trans hb0 hf1) (bb4 _ (by simp)) (Nat.le_trans hb0 hf2)
theorem zero_mark_list : Tryz.zeroCells45.toList = List.replicate 2000 (.bool false) ++ List.replicate 16 (.int .i64 0) ++ [.map none, .int .i64 0] := by kernel_rfl
set_option maxRecDepth 100000 in
theorem zero_mark : Tryz.zeroCells45 = (markCells head0 none 0).toArray := by
  apply Array.ext'
  rw [zero_mark_list]
  show _ = head0.cells ++ _
  refine congrArg (· ++ _) ?_
  kernel_rfl
theorem write_short {w : World} {PB DB M n : Nat} {c : Ch} {sv : Head} {t : Int} {d : Dk} (h : PgS w PB DB M n c sv t d) (k : Int) (s : ByteArray) (hs : s.size ≠ 1024) (hu : inUse c.h k = true) : Calls Tryz.prog 12 #[.pointer (some ⟨PB, 0, none⟩), .int .i64 k, .string s] w (Ret w (.iface 33 (.int .i64 1))) := by
  obtain ⟨⟨n', h1, h2⟩, _⟩ := h
  exact write_len_pg PB DB M n' c.h sv c.F t k s hs w h2 hu
theorem write_yes {w : World} {PB DB M n : Nat} {c : Ch} {sv : Head} {t : Int} {d : Dk} (h : PgS w PB DB M n c sv t d) (hn : n < 1000000) (k : Int) (s : ByteArray) (hs : s.size = 1024) (hu : inUse c.h k = true) : Calls Tryz.prog 12 #[.pointer (some ⟨PB, 0, none⟩), .int .i64 k, .string s] w fun e w' => e = .returned .nilIface ∧ PgS w' PB DB M (n + 1) (c.write k s) sv t d ∧ PgF PB DB M M w w' := by
  have := write_s h hn k s hs
  rw [hu] at this
  exact this
theorem write_no {w : World} {PB DB M n : Nat} {c : Ch} {sv : Head} {t : Int} {d : Dk} (h : PgS w PB DB M n c sv t d) (k : Int) (s : ByteArray) (hu : inUse c.h k = false) : Calls Tryz.prog 12 #[.pointer (some ⟨PB, 0, none⟩), .int .i64 k, .string s] w (Ret w (.iface 33 (.int .i64 2))) := by
  obtain ⟨⟨n', h1, h2⟩, _⟩ := h
  exact write_bad_pg PB DB M n' c.h sv c.F false t k s w h2 hu
theorem free_yes {w : World} {PB DB M n : Nat} {c : Ch} {sv : Head} {t : Int} {d : Dk} (h : PgS w PB DB M n c sv t d) (k : Int) (hu : inUse c.h k = true) : Calls Tryz.prog 10 #[.pointer (some ⟨PB, 0, none⟩), .int .i64 k] w fun e w' => e = .returned .nilIface ∧ PgS w' PB DB M (n + 1) (c.free k) sv t d ∧ PgF PB DB M M w w' := by
  have := free_s h k
  rw [hu] at this
  exact this
theorem free_no {w : World} {PB DB M n : Nat} {c : Ch} {sv : Head} {t : Int} {d : Dk} (h : PgS w PB DB M n c sv t d) (k : Int) (hu : inUse c.h k = false) : Calls Tryz.prog 10 #[.pointer (some ⟨PB, 0, none⟩), .int .i64 k] w (Ret w (.iface 33 (.int .i64 2))) := by
  obtain ⟨⟨n', h1, h2⟩, _⟩ := h
  exact free_bad_pg PB DB M n' c.h sv c.F false t k w h2 hu
theorem back_zero {w : World} {PB DB M n : Nat} {c : Ch} {sv : Head} {t : Int} {d : Dk} (h : PgS w PB DB M n c sv t d) : Calls Tryz.prog 16 #[.pointer (some ⟨PB, 0, none⟩), .agg Tryz.zeroCells45] w (Ret w (.iface 33 (.int .i64 1))) := by
  obtain ⟨⟨n', h1, h2⟩, _⟩ := h
  rw [zero_mark]
  exact back_none_pg PB DB M n' c.h sv c.F t w h2 head0 0
theorem back_old {w : World} {PB DB M n : Nat} {c : Ch} {sv : Head} {t : Int} {d : Dk} (h : PgS w PB DB M n c sv t d) (h2 : Head) (t2 : Int) (M2 : Nat) (hne : t2 ≠ t) : Calls Tryz.prog 16 #[.pointer (some ⟨PB, 0, none⟩), .agg (markCells h2 (some M2) t2).toArray] w (Ret w (.iface 33 (.int .i64 1))) := by
  obtain ⟨⟨n', h1, hp⟩, _⟩ := h
  exact back_old_pg PB DB M n' c.h sv c.F t w hp h2 t2 M2 hne
theorem setRoot_no {w : World} {PB DB M n : Nat} {c : Ch} {sv : Head} {t : Int} {d : Dk} (h : PgS w PB DB M n c sv t d) (i k m : Int) (hk : i < 0 ∨ 8 ≤ i ∨ k < 0 ∨ 2000 ≤ k ∨ m < 0 ∨ 65536 ≤ m) : Calls Tryz.prog 13 #[.pointer (some ⟨PB, 0, none⟩), .int .i64 i, .int .i64 k, .int .i64 m] w (Ret w (.iface 33 (.int .i64 2))) := by
  obtain ⟨⟨n', h1, hp⟩, _⟩ := h
  exact setRoot_bad_pg PB DB M n' c.h sv c.F false t i k m hk w hp
theorem root_no {w : World} {PB DB M n : Nat} {c : Ch} {sv : Head} {t : Int} {d : Dk} (h : PgS w PB DB M n c sv t d) (k : Int) (hk : k < 0 ∨ 8 ≤ k) : Calls Tryz.prog 20 #[.pointer (some ⟨PB, 0, none⟩), .int .i64 k] w (Ret w (.tuple #[.int .i64 0, .int .i64 0, .iface 33 (.int .i64 2)])) := by
  obtain ⟨⟨n', h1, hp⟩, _⟩ := h
  exact root_bad_pg PB DB M n' c.h sv c.F false t k hk w hp
set_option maxRecDepth 100000 in
theorem down_s {w : World} {PB DB M n : Nat} {c : Ch} {sv : Head} {t : Int} {d : Dk} (h : PgS w PB DB M n c sv t d) : Calls Tryz.prog 18 #[.pointer (some ⟨PB, 0, none⟩)] w (Ret w (.bool false)) := by
  obtain ⟨⟨n', h1, hp⟩, _⟩ := h
  have cd := hp.down
  clear hp h1
  go_enter Tryz.func18, Tryz.ntmps18
  go_wp2_with fail
  go_ret
  exact Ret.mk rfl (Gr.refl _)
theorem RpAt.rootAt {w : World} {B M n : Nat} {G : Int → Option ByteArray} {R : Nat → Int × Int} (h : RpAt w B M n G R) (i : Nat) (hi : i < 8) : w.cell? ⟨B, 1 + i * 2, none⟩ = some (.int .i64 (R i).1) ∧ w.cell? ⟨B, 1 + i * 2 + 1, none⟩ = some (.int .i64 (R i).2) := by
  have h17 := h.rng
  have e1 : (rp M R)[1 + i * 2]? = some (.int .i64 (R i).1) := by
    have : i = 0 ∨ i = 1 ∨ i = 2 ∨ i = 3 ∨ i = 4 ∨ i = 5 ∨ i = 6 ∨ i = 7 := by omega
    rcases this with rfl | rfl | rfl | rfl | rfl | rfl | rfl | rfl <;> rfl
  have e2 : (rp M R)[1 + i * 2 + 1]? = some (.int .i64 (R i).2) := by
    have : i = 0 ∨ i = 1 ∨ i = 2 ∨ i = 3 ∨ i = 4 ∨ i = 5 ∨ i = 6 ∨ i = 7 := by omega
    rcases this with rfl | rfl | rfl | rfl | rfl | rfl | rfl | rfl <;> rfl
  have f1 := h17 _ _ e1
  have f2 := h17 _ _ e2
  rw [Nat.zero_add] at f1 f2
  exact ⟨f1, f2⟩
theorem info_two : (Tryz.prog.info? 35).map (·.size) = some 2 := by kernel_rfl
theorem wpList_store_two {ops : Array Oper} {rest : List Oper} {op : Oper} {a : Act} {w : World} {Q : Exit → Act → World → Prop} (hgd : op.guard = none) (x y : Operand) (ho : op.op = .store 35 x y) (B o : Nat) (p q : Int)
    (hx : a.eval x = .pointer (some ⟨B, o, none⟩)) (hy : a.eval y = .agg #[.int .i64 p, .int .i64 q]) (hth : w.there B o 2)
    (hk : ∀ w', w' = w.setCells B o [.int .i64 p, .int .i64 q] → GrX (fun k => k = B) w w' → wpList Tryz.prog ops Q rest (a.put op.dst undef) w') : wpList Tryz.prog ops Q (op :: rest) a w := by
  refine wpList_store_mid hgd 35 x y ho B o _ hx hy hth (by rw [info_two]; rfl) (all_oneCell_toArray (cs := [.int .i64 p, .int .i64 q]) ?_) ?_
  · intro v hv
    simp only [List.mem_cons, List.not_mem_nil, or_false] at hv
    rcases hv with rfl | rfl <;> rfl
  · exact hk _ rfl (setCells_blk B _ o w)
/-- Two pairs of numbers are compared. -/
theorem equalIn_two (x1 x2 : Int) (W : World) : (Op.equalIn 10000 35 (.agg #[.int .i64 x1, .int .i64 x2]) (.agg #[.int .i64 x1, .int .i64 x2])).run Tryz.prog W = .ok true W := by
  have hI : (Tryz.prog.info? 3).isSome = true := by kernel_rfl
  obtain ⟨i, hi⟩ := Option.isSome_iff_exists.1 hI
  have hc : Tryz.prog.cellsOf 3 = 1 := by kernel_rfl
  have he : Tryz.prog.plainKey 3 = true := by kernel_rfl
  have e0 := run_part_plain W he (xs := #[Value.int .i64 x1, .int .i64 x2]) (off := 0) rfl
  have e1 := run_part_plain W he (xs := #[Value.int .i64 x1, .int .i64 x2]) (off := 1) rfl
  have hr : List.range 2 = [0, 1] := rfl
  rw [show (10000 : Nat) = 9999 + 1 from rfl, run_equalIn_array W 9999 _ _ Tryz.underlying35 hi, hc, hr]
  have q := fun a : Int => run_equalIn_int W 9998 3 .i64 .i64 a a Tryz.underlying3
  have e0' : (part 3 #[Value.int .i64 x1, .int .i64 x2] 0).run Tryz.prog W = .ok (.int .i64 x1) W := e0
  have e1' : (part 3 #[Value.int .i64 x1, .int .i64 x2] 1).run Tryz.prog W = .ok (.int .i64 x2) W := e1
  have q1 : (Op.equalIn 9999 3 (.int .i64 x1) (.int .i64 x1)).run Tryz.prog W = .ok true W := by rw [show (9999 : Nat) = 9998 + 1 from rfl, q]; simp
  have q2 : (Op.equalIn 9999 3 (.int .i64 x2) (.int .i64 x2)).run Tryz.prog W = .ok true W := by rw [show (9999 : Nat) = 9998 + 1 from rfl, q]; simp
  simp only [Op.eqItems, Sem.run_bind, Nat.zero_mul, Nat.one_mul, e0', e1', Result.andThen_ok, q1, q2, Bool.not_true, Bool.false_eq_true, if_false, Sem.run_pure]
theorem bare_0 (w : World) (hE : ErrTypeAt w) : Calls Tryz.prog 5 #[.nilIface, .int .i64 0] w (Ret w (.bool true)) := bare_t .nilIface 0 (-1) 0 w hE (.inl ⟨rfl, rfl, rfl⟩)
theorem bare_e (k : Int) (w : World) (hE : ErrTypeAt w) : Calls Tryz.prog 5 #[.iface 33 (.int .i64 k), .int .i64 k] w (Ret w (.bool true)) := by
  have := bare_t (.iface 33 (.int .i64 k)) k (-1) k w hE (.inr (.inl ⟨rfl, rfl⟩))
  simpa using this
theorem used_u {w : World} {PB DB M n : Nat} {c : Ch} {sv : Head} {t : Int} {d : Dk} (h : PgS w PB DB M n c sv t d) {u : Nat} (hu : usedN c.h 2000 = u) : Calls Tryz.prog 17 #[.pointer (some ⟨PB, 0, none⟩)] w (Ret w (.int .i64 (u : Nat))) := by
  rw [← hu]
  exact used_s h
theorem rest_sum {c : Ch} (hc : c.fine) {pg : Nat → ByteArray} {G : Int → Option ByteArray} {R : Nat → Int × Int} (l : Lk c pg G R) : ∃ u : Nat, usedN c.h 2000 = u ∧ IntKind.i64.wrap (((ksF G).length : Int) + 1) = (u : Int) := by
  obtain ⟨u, hu⟩ : ∃ u, usedN c.h 2000 = u := ⟨_, rfl⟩
  have hcnt := l.count hc
  rw [hu] at hcnt
  have hks := ksF_len G
  refine ⟨u, hu, ?_⟩
  rw [IntKind.wrap_i64]
  omega
theorem rest_len {w : World} {M n : Nat} {F : Int → Option ByteArray} (h : MapAt w M n F) (hF : fineF F) (d : Nat) (os : Array Obj) (ty : TypeId) : (Builtin.len_ #[34] ty #[.map (some M)]).run Tryz.prog (Sort.grow (redrawn w d) os) = .ok (.int .i64 ((ksF F).length : Nat)) (Sort.grow (redrawn w d) os) :=
  MapAt.len (h.gr (gr_regrown ⟨⟨d, os⟩, rfl⟩)) hF ty
end Go.Proofs.YtcdoeninajpbmaaGreatDoor
