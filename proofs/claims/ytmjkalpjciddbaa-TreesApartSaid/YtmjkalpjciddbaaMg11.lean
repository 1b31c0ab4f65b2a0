/-
  A pager's acts without a budget; (*Tree).start, Sum, write, set.
-/
import Derived.Test.YtmjkalpjciddbaaTnL
import Derived.Test.YtmjkalpjciddbaaMg9
namespace Go.Proofs.Ytmjkalpjciddbaa
open Go Go.RowKit Go.Maps

theorem MapAt.small {w : World} {M n : Nat} {F : Int → Option ByteArray} (h : MapAt w M n F) (hF : fineF F) : MapAt w M 2000 F := by
  obtain ⟨D, h1, h2⟩ := h
  obtain ⟨es, clock, e1, e2, e3, rfl⟩ := h1
  obtain ⟨D', k1, k2⟩ := MapAt.keys ⟨_, ⟨es, clock, e1, e2, Nat.le_refl _, rfl⟩, h2⟩ hF
  have hsz : Maps.size D' = (ksF F).length := by
    obtain ⟨es', rfl, _⟩ := k1.entries keyI
    have := k2.length_eq
    simp only [intKeys, List.length_map] at this
    exact this.symm
  have hl := ksF_len F
  obtain ⟨es2, c2, f1, f2, f3, rfl⟩ := k1
  rw [e1] at f1
  have hes : es = es2 := by
    have := Option.some.inj f1
    injection this
  subst hes
  have h5 : es.size ≤ 2000 := by
    have h6 := hsz
    unfold Maps.size at h6
    simp only [length_read] at h6
    omega
  exact ⟨_, ⟨es, clock, e1, e2, h5, rfl⟩, h2⟩
theorem PgS.small {w : World} {PB DB M n : Nat} {c : Ch} {sv : Head} {t : Int} {d : Dk} (h : PgS w PB DB M n c sv t d) (hc : c.fine) : PgS w PB DB M 2000 c sv t d := by
  obtain ⟨⟨n', h1, h2⟩, h3, h4, h5⟩ := h
  exact ⟨⟨2000, Nat.le_refl _, ⟨h2.disk, h2.head, h2.map, h2.saved, h2.down, h2.times, h2.free, h2.dirty.small hc.dirty, h2.ne⟩⟩, h3, h4, h5⟩
/-- A pager, its disk; the change is fine. -/
structure PgT (w : World) (PB DB M : Nat) (c : Ch) (sv : Head) (t : Int) (d : Dk) : Prop where
  s : PgS w PB DB M 2000 c sv t d
  f : c.fine
section
variable {w : World} {PB DB M : Nat} {c : Ch} {sv : Head} {t : Int} {d : Dk}
theorem PgT.gr {w' : World} (h : PgT w PB DB M c sv t d) (g : Gr w w') : PgT w' PB DB M c sv t d := ⟨h.s.gr g, h.f⟩
theorem PgT.lt (h : PgT w PB DB M c sv t d) : PB < w.heap.size ∧ DB < w.heap.size ∧ M < w.heap.size := h.s.lt
theorem alloc_t (h : PgT w PB DB M c sv t d) : Calls Try.prog 39 #[.pointer (some ⟨PB, 0, none⟩)] w fun e w' => e = .returned (allocV c) ∧ PgT w' PB DB M c.alloc sv t d ∧ PgF PB DB M M w w' :=
  (alloc_s h.s (by omega)).mono fun _ _ ⟨h1, h2, h3⟩ => ⟨h1, ⟨h2.small h.f.alloc_fine, h.f.alloc_fine⟩, h3⟩
theorem free_t (h : PgT w PB DB M c sv t d) {k : Nat} (hk : InU c k) : Calls Try.prog 31 #[.pointer (some ⟨PB, 0, none⟩), .int .i64 (k : Int)] w fun e w' => e = .returned .nilIface ∧ PgT w' PB DB M (c.free (k : Nat)) sv t d ∧ PgF PB DB M M w w' :=
  (free_s h.s (k : Int)).mono fun _ _ ⟨h1, h2, h3⟩ => ⟨by rw [h1, hk.inUse]; rfl, ⟨h2.small (h.f.free_fine _), h.f.free_fine _⟩, h3⟩
theorem pwrite_t (h : PgT w PB DB M c sv t d) {k : Nat} (hk : InU c k) (s : ByteArray) (hs : s.size = 1024) : Calls Try.prog 61 #[.pointer (some ⟨PB, 0, none⟩), .int .i64 (k : Int), .string s] w fun e w' => e = .returned .nilIface ∧ PgT w' PB DB M (c.write (k : Nat) s) sv t d ∧ PgF PB DB M M w w' :=
  (write_s h.s (by omega) (k : Int) s hs).mono fun _ _ ⟨h1, h2, h3⟩ => ⟨by rw [h1, hk.inUse]; rfl, ⟨h2.small (h.f.write_fine _ hs), h.f.write_fine _ hs⟩, h3⟩
end
end Go.Proofs.Ytmjkalpjciddbaa

/-
  (*Tree).start, Sum, write, set.
-/
namespace Go.Proofs.Ytmjkalpjciddbaa
open Go Go.RowKit

theorem gr_undrew {w w' : World} (h : Gr w.drew w') : Gr w w' := ((Gr.refl w).drew).trans h
section
variable {w : World} {PB DB M : Nat} {c : Ch} {sv : Head} {t : Int} {d : Dk}
theorem start_n (h : PgT w PB DB M c sv t d) {TP root : Nat} (ht : TreeAt w TP PB root) (hr : root < 8) :
    Calls Try.prog 25 #[.pointer (some ⟨TP, 0, none⟩)] w (Ret w (.int .i64 (c.h.roots root))) := by
  have hs := fun w' (g : Gr w w') => root_s (h.s.gr g) root hr
  have h0 := ht.p
  have h1 := ht.r
  go_enter Try.func25, Try.ntmps25
  go_wp2_with fail
  go_region_with (go_at_call 21; refine (hs _ (by repeat (with_reducible first | exact Gr.refl _ | refine Gr.drew ?_))).mono ?_; rintro e w1 ⟨rfl, hg1⟩)
  all_goals
    go_wp2_with fail
    go_ret
    exact Ret.mk rfl (gr_undrew hg1)
theorem sum_n (h : PgT w PB DB M c sv t d) {TP root : Nat} (ht : TreeAt w TP PB root) (hr : root < 8) :
    Calls Try.prog 14 #[.pointer (some ⟨TP, 0, none⟩)] w (Ret w (.int .i64 (c.h.notes root))) := by
  have hs := fun w' (g : Gr w w') => root_s (h.s.gr g) root hr
  have h0 := ht.p
  have h1 := ht.r
  go_enter Try.func14, Try.ntmps14
  go_wp2_with fail
  go_region_with (go_at_call 21; refine (hs _ (by repeat (with_reducible first | exact Gr.refl _ | refine Gr.drew ?_))).mono ?_; rintro e w1 ⟨rfl, hg1⟩)
  all_goals
    go_wp2_with fail
    go_ret
    exact Ret.mk rfl (gr_undrew hg1)
set_option maxHeartbeats 1600000 in
theorem write_n (h : PgT w PB DB M c sv t d) {TP root : Nat} (ht : TreeAt w TP PB root) {leaf : Bool} {p : Nat} {l : List En} {s : Value} (hs : IsE w s l) (hok : ∀ e ∈ l, e.ok leaf) (hb : bytesE leaf l ≤ 1024) (hp : InU c p) :
    Calls Try.prog 40 #[.pointer (some ⟨TP, 0, none⟩), nodeV p leaf s] w fun e w' => e = .returned .nilIface ∧ PgT w' PB DB M (c.write (p : Nat) (pageE leaf l)) sv t d ∧ PgF PB DB M M w w' := by
  have htx := fun w' (g : Gr w w') => text_n p leaf l s w' (hs.gr g) hok hb
  obtain ⟨ao, ca, rfl⟩ := hs.form
  have hpz := pageE_size hok hb
  have hw := fun w' (g : Gr w w') => pwrite_t (h.gr g) hp (pageE leaf l) hpz
  unfold nodeV at *
  have hg0 : Gr w (w.alloc (.cells #[.int .i64 (p : Int), .bool leaf, .slice ao l.length ca] 84)) := (Gr.refl w).alloc _
  have c0 : ∀ w', Gr (w.alloc (.cells #[.int .i64 (p : Int), .bool leaf, .slice ao l.length ca] 84)) w' → w'.cell? ⟨w.heap.size, 0, none⟩ = some (.int .i64 (p : Int)) ∧ w'.cell? ⟨w.heap.size, 1, none⟩ = some (.bool leaf) ∧ w'.cell? ⟨w.heap.size, 2, none⟩ = some (.slice ao l.length ca) := fun w' g => ⟨g.keeps (by rw [World.cell?_alloc_new]; rfl), g.keeps (by rw [World.cell?_alloc_new]; rfl), g.keeps (by rw [World.cell?_alloc_new]; rfl)⟩
  obtain ⟨k0, k1, k2⟩ := c0 _ (Gr.refl _)
  have tp := (ht.gr hg0).p
  have HW := Lib.hid hw
  clear hw
  go_enter Try.func40, Try.ntmps40
  go_wp2_with fail
  go_region_with (first
    | (go_at_call 62; refine (htx _ ?_).mono ?_; (with_reducible exact hg0.drew); rintro e w1 ⟨rfl, hg1⟩; have hg2 := hg0.trans (gr_undrew hg1); obtain ⟨k0, k1, k2⟩ := c0 _ (gr_undrew hg1); have tp := (ht.gr hg2).p)
    | (go_at_call 61; refine (HW.out _ ?_).mono ?_; (with_reducible first | exact hg2 | exact hg2.drew); rintro e w2 ⟨rfl, hp2, hf2⟩))
  all_goals
    go_wp2_with fail
    go_ret
    first
      | exact ⟨rfl, hp2, (PgF.of_gr PB DB M hg2).trans hf2⟩
      | exact ⟨rfl, hp2, (PgF.of_gr PB DB M hg2.drew).trans hf2⟩
end
end Go.Proofs.Ytmjkalpjciddbaa
