/-
  (*Tree).set.
-/
import Derived.Test.YtmjkalpjciddbaaMg11
import Derived.Deep.RegionHeld3
import Derived.IntWalk
namespace Go.Proofs.Ytmjkalpjciddbaa
open Go Go.RowKit

def errV (n : Nat) : Value := if n = 0 then .nilIface else .iface 56 (.int .i64 (n : Int))
/-- What is the call's own may change too. -/
theorem PgF.own {T : Nat → Prop} {PB DB M : Nat} {w w1 w2 : World} (h : PgF PB DB M M w w1) (k : GrX T w1 w2) (ht : ∀ j, T j → w.heap.size ≤ j) : PgF PB DB M M w w2 :=
  ⟨.inl rfl, k.1.trans h.2.1, k.2.1.trans h.2.2.1, k.2.2.1.trans h.2.2.2.1, Nat.le_trans h.size k.2.2.2.1, fun j hj hs => (k.block (Nat.lt_of_lt_of_le hj h.size) (fun e => by have := ht j e; omega)).trans (h.2.block hj hs)⟩
/-- The root's page and its sum are set, if they may be so. -/
def setS (c : Ch) (i : Nat) (p more : Int) : Ch × Nat := if 0 ≤ c.h.notes i + more ∧ c.h.notes i + more < 65536 then (⟨c.h.setRoot i p (c.h.notes i + more), c.F⟩, 0) else (c, 2)
section
variable {w : World} {PB DB M : Nat} {c : Ch} {sv : Head} {t : Int} {d : Dk}
theorem PgT.keepX {S : Nat → Prop} {w' : World} (h : PgT w PB DB M c sv t d) (g : GrX S w w') (h1 : ¬ S PB) (h2 : ¬ S DB) (h3 : ¬ S M) : PgT w' PB DB M c sv t d := by
  obtain ⟨n', hn, hp⟩ := h.s.pg
  exact ⟨⟨⟨n', hn, hp.keepX g h1 h3⟩, h.s.dk.keepX g h2, h.s.ne1, h.s.ne2⟩, h.f⟩
theorem setRoot_t (h : PgT w PB DB M c sv t d) {i : Nat} (hi : i < 8) {k m : Int} (hk : 0 ≤ k ∧ k < 2000) : Calls Try.prog 32 #[.pointer (some ⟨PB, 0, none⟩), .int .i64 i, .int .i64 k, .int .i64 m] w fun e w' =>
    e = .returned (errV (if 0 ≤ m ∧ m < 65536 then 0 else 2)) ∧ PgT w' PB DB M (if 0 ≤ m ∧ m < 65536 then ⟨c.h.setRoot i k m, c.F⟩ else c) sv t d ∧ PgF PB DB M M w w' := by
  by_cases hm : 0 ≤ m ∧ m < 65536
  · simp only [if_pos hm]
    have hf : (⟨c.h.setRoot i k m, c.F⟩ : Ch).fine := ⟨fine_set h.f.head i hk hm, h.f.dirty⟩
    exact (setRoot_s h.s i k m hi hk hm).mono fun _ _ ⟨h1, h2, h3⟩ => ⟨h1, ⟨h2.small hf, hf⟩, h3⟩
  · simp only [if_neg hm]
    obtain ⟨n', _, hp⟩ := h.s.pg
    exact (setRoot_bad_pg PB DB M n' c.h sv c.F false t (i : Int) k m (by omega) w hp).mono fun _ _ ⟨h1, h2⟩ => ⟨h1, h.gr h2, PgF.of_gr _ _ _ h2⟩
theorem setRoot_s2 (h : PgT w PB DB M c sv t d) {i : Nat} (hi : i < 8) {p more : Int} (hp : 0 ≤ p ∧ p < 2000) : Calls Try.prog 32 #[.pointer (some ⟨PB, 0, none⟩), .int .i64 i, .int .i64 p, .int .i64 (c.h.notes i + more)] w fun e w' =>
    e = .returned (errV (setS c i p more).2) ∧ PgT w' PB DB M (setS c i p more).1 sv t d ∧ PgF PB DB M M w w' := by
  refine (setRoot_t h hi hp).mono ?_
  intro e w' hh
  unfold setS
  by_cases hm : 0 ≤ c.h.notes i + more ∧ c.h.notes i + more < 65536
  · simp only [if_pos hm] at hh ⊢
    exact hh
  · simp only [if_neg hm] at hh ⊢
    exact hh
set_option maxHeartbeats 16000000 in
theorem set_n (h : PgT w PB DB M c sv t d) {TP root : Nat} (ht : TreeAt w TP PB root) (hTn : TP ≠ PB ∧ TP ≠ DB ∧ TP ≠ M) (hr : root < 8) {p more : Int} (hp : 0 ≤ p ∧ p < 2000) (hm : -1000000 ≤ more ∧ more ≤ 1000000) :
    Calls Try.prog 24 #[.pointer (some ⟨TP, 0, none⟩), .int .i64 p, .int .i64 more] w fun e w' => e = .returned (errV (setS c root p more).2) ∧ PgT w' PB DB M (setS c root p more).1 sv t d ∧ PgF PB DB M M w w' := by
  have hs := fun w' (g : Gr w w') => sum_n (h.gr g) (ht.gr g) hr
  have hw := fun w' (g : Gr w w') => setRoot_s2 (h.gr g) (i := root) hr (p := p) (more := more) hp
  have hnt := h.f.head.note root hr
  have h0 := ht.p
  have h1 := ht.r
  have k1 : ∀ w1, Gr w w1 → w1.cell? ⟨TP, 0, none⟩ = some (.pointer (some ⟨PB, 0, none⟩)) ∧ w1.cell? ⟨TP, 1, none⟩ = some (.int .i64 (root : Int)) := fun w1 g => ⟨(ht.gr g).p, (ht.gr g).r⟩
  generalize errV (setS c root p more).2 = E at *
  generalize (setS c root p more).1 = C at *
  generalize c.h.notes root = nt at *
  have hkf : ∀ (w1 w2 : World) {o : Nat} {v : Value}, PgF PB DB M M w1 w2 → w1.cell? ⟨TP, o, none⟩ = some v → w2.cell? ⟨TP, o, none⟩ = some v := fun w1 w2 _ _ hf hc => hf.keeps hTn.1 hTn.2.1 hTn.2.2 hc
  have KF := Lib.hid hkf
  clear hkf
  have HW := Lib.hid hw
  have HS := Lib.hid hs
  have K1 := Lib.hid k1
  clear hw hs k1 h ht
  go_enter Try.func24, Try.ntmps24
  go_wp2_with fail
  have hwr : IntKind.i64.wrap (nt + more) = nt + more := IntWalk.i64_in _ (by omega)
  have Y1 : w.drew.cell? ⟨TP, 0, none⟩ = some (.pointer (some ⟨PB, 0, none⟩)) := h0
  have Y2 : w.drew.cell? ⟨TP, 1, none⟩ = some (.int .i64 (root : Int)) := h1
  have Gc : Gr w w.drew := (Gr.refl w).drew
  go_region_held3 (fun w' => w'.cell? ⟨TP, 0, none⟩ = some (.pointer (some ⟨PB, 0, none⟩)) ∧ w'.cell? ⟨TP, 1, none⟩ = some (.int .i64 (root : Int))) (first | exact ⟨Y1, Y2⟩ | exact ⟨h0, h1⟩ | (refine ⟨?_, ?_⟩ <;> assumption)) (first
    | (go_at_call 14; refine (HS.out _ Gc).mono ?_; rintro e w1 ⟨rfl, hg1⟩; have Gc := Gc.trans hg1; obtain ⟨Y1, Y2⟩ := K1.out _ Gc)
    | (go_at_call 32; refine (HW.out _ Gc).mono ?_; rintro e w2 ⟨rfl, hp2, hf2⟩; have Y1 := KF.out _ _ hf2 Y1; have Y2 := KF.out _ _ hf2 Y2))
  all_goals
    go_wp2_with fail
    go_ret
    exact ⟨rfl, hp2, (PgF.of_gr PB DB M Gc).trans hf2⟩
end
end Go.Proofs.Ytmjkalpjciddbaa
