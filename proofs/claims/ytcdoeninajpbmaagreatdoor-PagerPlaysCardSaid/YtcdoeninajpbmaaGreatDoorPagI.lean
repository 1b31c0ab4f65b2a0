/-
  A pager and its disk in memory, together; each act as plain data.
-/
import Derived.Test.YtcdoeninajpbmaaGreatDoorPagO
import Derived.Test.YtcdoeninajpbmaaGreatDoorPagC
namespace Go.Proofs.YtcdoeninajpbmaaGreatDoor
open Go Go.RowKit

/-- A pager in block PB, its map in block M, its disk in block DB. -/
structure PgS (w : World) (PB DB M n : Nat) (c : Ch) (sv : Head) (t : Int) (d : Dk) : Prop where
  pg : ∃ n', n' ≤ n ∧ PagerAt w PB DB M n' c.h sv c.F false t
  dk : DkAt w DB d
  ne1 : PB ≠ DB
  ne2 : M ≠ DB
/-- What an act leaves as it was. -/
def PgF (PB DB M M' : Nat) (w w' : World) : Prop := (M' = M ∨ w.heap.size ≤ M') ∧ GrX (fun b => b = PB ∨ b = DB ∨ b = M) w w'
theorem PgF.refl (PB DB M : Nat) (w : World) : PgF PB DB M M w w := ⟨.inl rfl, GrX.refl _ _⟩
theorem PgF.trans {PB DB M M' M'' : Nat} {w w' w'' : World} (h : PgF PB DB M M' w w') (k : PgF PB DB M' M'' w' w'') : PgF PB DB M M'' w w'' := by
  obtain ⟨h1, h2⟩ := h
  obtain ⟨k1, k2⟩ := k
  have hs := h2.2.2.2.1
  refine ⟨?_, k2.1.trans h2.1, k2.2.1.trans h2.2.1, k2.2.2.1.trans h2.2.2.1, Nat.le_trans hs k2.2.2.2.1, fun b hb hnb => ?_⟩
  · rcases k1 with rfl | k1
    · exact h1
    · exact .inr (Nat.le_trans hs k1)
  · refine (k2.2.2.2.2 b (Nat.lt_of_lt_of_le hb hs) fun e => ?_).trans (h2.2.2.2.2 b hb hnb)
    rcases e with e | e | e
    · exact hnb (.inl e)
    · exact hnb (.inr (.inl e))
    · rcases h1 with h1 | h1
      · exact hnb (.inr (.inr (e.trans h1)))
      · omega
theorem PgF.of_gr (PB DB M : Nat) {w w' : World} (g : Gr w w') : PgF PB DB M M w w' := ⟨.inl rfl, GrX.of_gr g⟩
theorem PgF.keeps {PB DB M M' : Nat} {w w' : World} (h : PgF PB DB M M' w w') {b o : Nat} {v : Value} (h1 : b ≠ PB) (h2 : b ≠ DB) (h3 : b ≠ M) (hc : w.cell? ⟨b, o, none⟩ = some v) : w'.cell? ⟨b, o, none⟩ = some v :=
  h.2.keeps (fun e => e.elim h1 fun e => e.elim h2 h3) hc
theorem PgF.size {PB DB M M' : Nat} {w w' : World} (h : PgF PB DB M M' w w') : w.heap.size ≤ w'.heap.size := h.2.2.2.2.1
theorem PgF.off {PB DB M M' : Nat} {w w' : World} (h : PgF PB DB M M' w w') {b : Nat} (hb : b < w.heap.size) (h3 : b ≠ M) : b ≠ M' := by
  rcases h.1 with e | e
  · omega
  · omega
theorem PgS.gr {w w' : World} {PB DB M n : Nat} {c : Ch} {sv : Head} {t : Int} {d : Dk} (h : PgS w PB DB M n c sv t d) (g : Gr w w') : PgS w' PB DB M n c sv t d := by
  obtain ⟨⟨n', h1, h2⟩, h3, h4, h5⟩ := h
  exact ⟨⟨n', h1, h2.gr g⟩, h3.gr g, h4, h5⟩
theorem PgS.mono {w : World} {PB DB M n m : Nat} {c : Ch} {sv : Head} {t : Int} {d : Dk} (h : PgS w PB DB M n c sv t d) (hm : n ≤ m) : PgS w PB DB M m c sv t d := by
  obtain ⟨⟨n', h1, h2⟩, h3, h4, h5⟩ := h
  exact ⟨⟨n', by omega, h2⟩, h3, h4, h5⟩
theorem PgS.lt {w : World} {PB DB M n : Nat} {c : Ch} {sv : Head} {t : Int} {d : Dk} (h : PgS w PB DB M n c sv t d) : PB < w.heap.size ∧ DB < w.heap.size ∧ M < w.heap.size := by
  obtain ⟨⟨n', h1, h2⟩, h3, h4, h5⟩ := h
  exact ⟨h2.lt, h3.lt, h2.dirty.lt⟩
theorem grX_three {PB DB M : Nat} {w w' : World} (h : GrX (fun b => b = PB ∨ b = M) w w') : GrX (fun b => b = PB ∨ b = DB ∨ b = M) w w' := grX_imp h fun _ e => e.elim .inl fun e => .inr (.inr e)
def allocV (c : Ch) : Value := match allocF c.h with | none => .tuple #[.int .i64 0, .iface 33 (.int .i64 12)] | some k => .tuple #[.int .i64 k, .nilIface]
theorem dk_off {PB DB M : Nat} {w w' : World} {d : Dk} (h : DkAt w DB d) (h1 : PB ≠ DB) (h2 : M ≠ DB) (g : GrX (fun b => b = PB ∨ b = M) w w') : DkAt w' DB d := h.keepX g fun e => e.elim (fun e => h1 e.symm) fun e => h2 e.symm
section
variable {w : World} {PB DB M n : Nat} {c : Ch} {sv : Head} {t : Int} {d : Dk}
set_option maxRecDepth 100000 in
theorem alloc_s (h : PgS w PB DB M n c sv t d) (hn : n < 1000000) : Calls Tryz.prog 8 #[.pointer (some ⟨PB, 0, none⟩)] w fun e w' => e = .returned (allocV c) ∧ PgS w' PB DB M (n + 1) c.alloc sv t d ∧ PgF PB DB M M w w' := by
  obtain ⟨⟨n', h1, h2⟩, h3, h4, h5⟩ := h
  unfold allocV Ch.alloc
  cases ha : allocF c.h with
  | none =>
    refine (alloc_full_pg PB DB M n' c.h sv c.F t w h2 ha).mono ?_
    rintro e w' ⟨rfl, g⟩
    exact ⟨rfl, ⟨⟨n', by omega, h2.gr g⟩, h3.gr g, h4, h5⟩, PgF.of_gr _ _ _ g⟩
  | some k =>
    have hk : k < 2000 := List.mem_range.1 (List.mem_of_find?_eq_some ha)
    refine (alloc_pg PB DB M n' c.h sv c.F t (by omega) w h2 hk ha).mono ?_
    rintro e w' ⟨rfl, p, g⟩
    exact ⟨rfl, ⟨⟨n' + 1, by omega, p⟩, dk_off h3 h4 h5 g, h4, h5⟩, .inl rfl, grX_three g⟩
/-- nil, or that there is no such page. -/
def rangeV (b : Bool) : Value := if b then .nilIface else .iface 33 (.int .i64 2)
set_option maxRecDepth 100000 in
theorem free_s (h : PgS w PB DB M n c sv t d) (k : Int) : Calls Tryz.prog 10 #[.pointer (some ⟨PB, 0, none⟩), .int .i64 k] w fun e w' => e = .returned (rangeV (inUse c.h k)) ∧ PgS w' PB DB M (n + 1) (c.free k) sv t d ∧ PgF PB DB M M w w' := by
  obtain ⟨⟨n', h1, h2⟩, h3, h4, h5⟩ := h
  unfold Ch.free
  cases hu : inUse c.h k with
  | false =>
    refine (free_bad_pg PB DB M n' c.h sv c.F false t k w h2 hu).mono ?_
    rintro e w' ⟨rfl, g⟩
    exact ⟨rfl, ⟨⟨n', by omega, h2.gr g⟩, h3.gr g, h4, h5⟩, PgF.of_gr _ _ _ g⟩
  | true =>
    obtain ⟨m, rfl, hm⟩ := inUse_iff.1 hu
    refine (free_pg PB DB M n' c.h sv c.F t m w h2 hu).mono ?_
    rintro e w' ⟨rfl, p, g⟩
    exact ⟨rfl, ⟨⟨n', by omega, p⟩, dk_off h3 h4 h5 g, h4, h5⟩, .inl rfl, grX_three g⟩
set_option maxRecDepth 100000 in
theorem write_s (h : PgS w PB DB M n c sv t d) (hn : n < 1000000) (k : Int) (s : ByteArray) (hs : s.size = 1024) : Calls Tryz.prog 12 #[.pointer (some ⟨PB, 0, none⟩), .int .i64 k, .string s] w fun e w' => e = .returned (rangeV (inUse c.h k)) ∧ PgS w' PB DB M (n + 1) (c.write k s) sv t d ∧ PgF PB DB M M w w' := by
  obtain ⟨⟨n', h1, h2⟩, h3, h4, h5⟩ := h
  unfold Ch.write
  cases hu : inUse c.h k with
  | false =>
    refine (write_bad_pg PB DB M n' c.h sv c.F false t k s w h2 hu).mono ?_
    rintro e w' ⟨rfl, g⟩
    exact ⟨rfl, ⟨⟨n', by omega, h2.gr g⟩, h3.gr g, h4, h5⟩, PgF.of_gr _ _ _ g⟩
  | true =>
    refine (write_pg PB DB M n' c.h sv c.F t k s hs (by omega) w h2 hu).mono ?_
    rintro e w' ⟨rfl, p, g⟩
    exact ⟨rfl, ⟨⟨n' + 1, by omega, p⟩, dk_off h3 h4 h5 g, h4, h5⟩, .inl rfl, grX_three g⟩
set_option maxRecDepth 100000 in
theorem setRoot_s (h : PgS w PB DB M n c sv t d) (i : Nat) (k m : Int) (hi : i < 8) (hk : 0 ≤ k ∧ k < 2000) (hm : 0 ≤ m ∧ m < 65536) : Calls Tryz.prog 13 #[.pointer (some ⟨PB, 0, none⟩), .int .i64 i, .int .i64 k, .int .i64 m] w fun e w' => e = .returned .nilIface ∧ PgS w' PB DB M n ⟨c.h.setRoot i k m, c.F⟩ sv t d ∧ PgF PB DB M M w w' := by
  obtain ⟨⟨n', h1, h2⟩, h3, h4, h5⟩ := h
  refine (setRoot_pg PB DB M n' c.h sv c.F t i k m hi hk hm w h2).mono ?_
  rintro e w' ⟨rfl, p, g⟩
  exact ⟨rfl, ⟨⟨n', by omega, p⟩, dk_off h3 h4 h5 g, h4, h5⟩, .inl rfl, grX_three g⟩
set_option maxRecDepth 100000 in
theorem rollback_s (h : PgS w PB DB M n c sv t d) : Calls Tryz.prog 15 #[.pointer (some ⟨PB, 0, none⟩)] w fun e w' => e = .returned .nilIface ∧ ∃ M', PgS w' PB DB M' 0 (.new sv) sv t d ∧ PgF PB DB M M' w w' := by
  obtain ⟨⟨n', h1, h2⟩, h3, h4, h5⟩ := h
  refine (rollback_pg PB DB M n' c.h sv c.F t w h2).mono ?_
  rintro e w' ⟨rfl, ⟨M', p, hM⟩, g⟩
  have := h3.lt
  exact ⟨rfl, M', ⟨⟨0, Nat.le_refl _, p⟩, h3.keepX g (fun e => h4 e.symm), h4, by omega⟩, .inr hM, grX_imp g fun _ e => .inl e⟩
set_option maxRecDepth 100000 in
theorem read_s (h : PgS w PB DB M n c sv t d) (k : Int) : Calls Tryz.prog 19 #[.pointer (some ⟨PB, 0, none⟩), .int .i64 k] w (Ret w (if inUse c.h k then .tuple #[.string (pageNow d.pg c.F k.toNat), .nilIface] else .tuple #[.string ⟨#[]⟩, .iface 33 (.int .i64 2)])) := by
  obtain ⟨⟨n', h1, h2⟩, h3, h4, h5⟩ := h
  cases hu : inUse c.h k with
  | false => exact read_bad_pg PB DB M n' c.h sv c.F false t k w h2 hu
  | true =>
    obtain ⟨m, rfl, hm⟩ := inUse_iff.1 hu
    exact read_pg PB DB M n' c.h sv c.F t d.pg d.cut d.left d.torn m w h2 h3 hu
theorem root_s (h : PgS w PB DB M n c sv t d) (k : Nat) (hk : k < 8) : Calls Tryz.prog 20 #[.pointer (some ⟨PB, 0, none⟩), .int .i64 k] w (Ret w (.tuple #[.int .i64 (c.h.roots k), .int .i64 (c.h.notes k), .nilIface])) := by
  obtain ⟨⟨n', h1, h2⟩, _⟩ := h
  exact root_pg PB DB M n' c.h sv c.F false t k hk w h2
theorem used_s (h : PgS w PB DB M n c sv t d) : Calls Tryz.prog 17 #[.pointer (some ⟨PB, 0, none⟩)] w (Ret w (.int .i64 (usedN c.h 2000 : Nat))) := by
  obtain ⟨⟨n', h1, h2⟩, _⟩ := h
  exact used_pg PB DB M n' c.h sv c.F false t w h2
set_option maxRecDepth 100000 in
/-- A commit, the power being on. -/
theorem commit_s (h : PgS w PB DB M n c sv t d) (hc : fineF c.F) (hw : d.whole) (hl : -890000 ≤ d.left ∧ d.left ≤ 1000000) (ht : 0 ≤ t ∧ t ≤ 1000000) (hok : (wrsD d (commitE c.h c.F)).1 = true) : Calls Tryz.prog 14 #[.pointer (some ⟨PB, 0, none⟩)] w fun e w' => e = .returned .nilIface ∧ ∃ M', PgS w' PB DB M' 0 (.new c.h) c.h (t + 1) (wrsD d (commitE c.h c.F)).2 ∧ PgF PB DB M M' w w' := by
  obtain ⟨⟨n', h1, h2⟩, h3, h4, h5⟩ := h
  refine (commit_pg PB DB M n' c.h sv c.F t d w h2 hc h3 hw hl ht h4 h5).mono ?_
  rintro e w' ⟨rfl, hd, hcm, g⟩
  have hlt := h3.lt
  unfold Committed at hcm
  rw [hok, if_pos rfl] at hcm
  obtain ⟨M', p, hM⟩ := hcm
  rw [hok]
  exact ⟨rfl, M', ⟨⟨0, Nat.le_refl _, p⟩, hd, h4, by omega⟩, .inr hM, grX_imp g fun _ e => e.elim .inl fun e => .inr (.inl e)⟩
end
end Go.Proofs.YtcdoeninajpbmaaGreatDoor
