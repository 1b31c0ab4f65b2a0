/-
  The contracts of the disk's Cut, of a pager's Down, and of a commit when it is down; a pager that is opened.
-/
import Derived.Test.YtcdoeninajpbmaaDoorKpD
import Derived.Test.YtcdoeninajpbmaaDoorKpG
import Derived.Test.YtcdoeninajpbmaaDoorDiskC
namespace Go.Proofs.YtcdoeninajpbmaaDoor
open Go Go.RowKit

theorem cut_k (B : Nat) (d : Dk) (n t : Int) (w : World) (h : DkAt w B d) :
    Calls Tryd.prog 9 #[.pointer (some ⟨B, 0, none⟩), .int .i64 n, .int .i64 t] w fun e w' => e = .returned (.tuple #[]) ∧ DkAt w' B ⟨d.pg, decide (0 ≤ n), max n 0, t⟩ ∧ GrX (fun b => b = B) w w' := by
  refine (cut_d B d.pg d.cut d.left d.torn n t w h).mono ?_
  rintro e w' ⟨rfl, h1, h2⟩
  exact ⟨rfl, h1, GrX.of_grown h2 rfl⟩
set_option maxRecDepth 100000 in
theorem down_k (PB DB M n : Nat) (h sv : Head) (F : Int → Option ByteArray) (down : Bool) (t : Int) (w : World) (p : PagerAt w PB DB M n h sv F down t) :
    Calls Tryd.prog 12 #[.pointer (some ⟨PB, 0, none⟩)] w fun e w' => e = .returned (.bool down) ∧ w' = w := by
  have cd := p.down
  clear p
  go_enter Tryd.func12, Tryd.ntmps12
  go_wp2_with fail
  go_ret
  exact ⟨rfl, rfl⟩
set_option maxRecDepth 100000 in
theorem commit_down (PB DB M n : Nat) (h sv : Head) (F : Int → Option ByteArray) (t : Int) (w : World) (p : PagerAt w PB DB M n h sv F true t) :
    Calls Tryd.prog 7 #[.pointer (some ⟨PB, 0, none⟩)] w fun e w' => e = .returned (.iface 38 (.int .i64 6)) ∧ w' = w := by
  have cd := p.down
  clear p
  go_enter Tryd.func7, Tryd.ntmps7
  go_wp2_with fail
  go_ret
  exact ⟨rfl, rfl⟩
theorem PgS.cut {w w' : World} {PB DB M n : Nat} {c : Ch} {sv : Head} {t : Int} {d d' : Dk} (h : PgS w PB DB M n c sv t d) (g : GrX (fun b => b = DB) w w') (hd : DkAt w' DB d') : PgS w' PB DB M n c sv t d' := by
  obtain ⟨⟨n', h1, h2⟩, _, h4, h5⟩ := h
  exact ⟨⟨n', h1, h2.keepX g h4 h5⟩, hd, h4, h5⟩
/-- What an opening leaves, where the disk is one of three. -/
def Op3 (DB : Nat) (c : Ch) (pg0 : Nat → ByteArray) (w : World) (e : Ending) (w' : World) : Prop :=
  GrX (fun b => b = DB) w w' ∧ ∃ d' : Dk, DkAt w' DB d' ∧ d'.whole ∧ d'.left ≤ 1000000 ∧ -900000 ≤ d'.left ∧
    ((e = .returned (.tuple #[.pointer none, .iface 38 (.int .i64 14)]) ∧ Three c pg0 d'.pg) ∨
      ∃ PB M, e = .returned (.tuple #[.pointer (some ⟨PB, 0, none⟩), .nilIface]) ∧ TwoC c pg0 d'.pg ∧ PgS w' PB DB M 0 (.new (headD d'.pg)) (headD d'.pg) 0 d' ∧ w.heap.size ≤ PB ∧ w.heap.size ≤ M)
theorem open_three (DB : Nat) {c : Ch} (hc : c.fine) {pg0 : Nat → ByteArray} (d : Dk) (w : World) (hd : DkAt w DB d) (hw : d.whole) (h : Three c pg0 d.pg) (hl : -890000 ≤ d.left ∧ d.left ≤ 1000000) :
    Calls Tryd.prog 5 #[.pointer (some ⟨DB, 0, none⟩)] w (Op3 DB c pg0 w) := by
  have hlt := hd.lt
  refine (open_g DB d w hd hw hl).mono ?_
  rintro e w' ⟨h1, h2, h3⟩
  obtain ⟨q1, q2, q3⟩ := three_open hc hw h
  have hwl := wrsD_left (openE d.pg) d
  have hln := openE_len d.pg
  refine ⟨h2, _, h1, q1, by omega, by omega, ?_⟩
  split at h3
  · rename_i hok
    obtain ⟨PB, M, rfl, h4, h5, h6⟩ := h3
    exact .inr ⟨PB, M, rfl, q2 hok, ⟨⟨0, Nat.le_refl _, h4⟩, h1, by omega, by omega⟩, h5, h6⟩
  · rename_i hok
    exact .inl ⟨h3, q3 (by simpa using hok)⟩
/-- An opening with the power on. -/
theorem open_power (DB : Nat) {c : Ch} (hc : c.fine) {pg0 : Nat → ByteArray} (d : Dk) (w : World) (hd : DkAt w DB d) (hw : d.whole) (h : Three c pg0 d.pg) (hcut : d.cut = false) (hl : -890000 ≤ d.left ∧ d.left ≤ 1000000) :
    Calls Tryd.prog 5 #[.pointer (some ⟨DB, 0, none⟩)] w fun e w' => GrX (fun b => b = DB) w w' ∧ ∃ d' : Dk, ∃ PB M, e = .returned (.tuple #[.pointer (some ⟨PB, 0, none⟩), .nilIface]) ∧ d'.cut = false ∧ d'.whole ∧ (d.left - 2001 ≤ d'.left ∧ d'.left ≤ d.left) ∧ TwoC c pg0 d'.pg ∧ PgS w' PB DB M 0 (.new (headD d'.pg)) (headD d'.pg) 0 d' ∧ w.heap.size ≤ PB ∧ w.heap.size ≤ M ∧ (TwoC c pg0 d.pg → d' = d) := by
  have hlt := hd.lt
  refine (open_g DB d w hd hw hl).mono ?_
  rintro e w' ⟨h1, h2, h3⟩
  obtain ⟨q1, q2, q3⟩ := three_open hc hw h
  obtain ⟨p1, p2, p3⟩ := wrsD_power hcut (openE d.pg)
  have hln := openE_len d.pg
  rw [if_pos p1] at h3
  obtain ⟨PB, M, rfl, h4, h5, h6⟩ := h3
  refine ⟨h2, _, PB, M, rfl, p2, q1, by omega, q2 p1, ⟨⟨0, Nat.le_refl _, h4⟩, h1, by omega, by omega⟩, h5, h6, fun h7 => ?_⟩
  rw [h7.none, wrsD_nil]
end Go.Proofs.YtcdoeninajpbmaaDoor
