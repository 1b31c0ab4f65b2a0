/-
  The contracts of a pager's Root, SetRoot, Used, Alloc.
-/
import Derived.Test.YtcdoeninajpbmaaGreatDoorPagQ
import Derived.Test.YtcdoeninajpbmaaGreatDoorPagD
namespace Go.Proofs.YtcdoeninajpbmaaGreatDoor
open Go Go.RowKit

theorem results_tmp3 {P : Program} {fn : Func} {a b c : Nat} {tmps : Array Value} {w : World} (hr : fn.results = #[ResultVar.tmp a, ResultVar.tmp b, ResultVar.tmp c]) :
    (results fn tmps).run P w = .ok (.tuple #[tmps.getD a undef, tmps.getD b undef, tmps.getD c undef]) w := by
  simp [results, hr]
set_option maxRecDepth 100000 in
set_option maxHeartbeats 1600000 in
theorem root_bad_pg (PB DB M n : Nat) (h sv : Head) (F : Int → Option ByteArray) (down : Bool) (times : Int) (k : Int) (hk : k < 0 ∨ 8 ≤ k) (w : World) (_ : PagerAt w PB DB M n h sv F down times) :
    Calls Tryz.prog 20 #[.pointer (some ⟨PB, 0, none⟩), .int .i64 k] w (Ret w (.tuple #[.int .i64 0, .int .i64 0, .iface 33 (.int .i64 2)])) := by
  go_enter Tryz.func20, Tryz.ntmps20
  go_wp2_with fail
  all_goals first | omega | skip
  all_goals
    refine bodyPost_ret (results_tmp3 rfl) rfl ?_
    exact Ret.mk rfl (Gr.refl _)
set_option maxRecDepth 100000 in
set_option maxHeartbeats 1600000 in
theorem root_pg (PB DB M n : Nat) (h sv : Head) (F : Int → Option ByteArray) (down : Bool) (times : Int) (k : Nat) (hk : k < 8) (w : World) (p : PagerAt w PB DB M n h sv F down times) :
    Calls Tryz.prog 20 #[.pointer (some ⟨PB, 0, none⟩), .int .i64 k] w (Ret w (.tuple #[.int .i64 (h.roots k), .int .i64 (h.notes k), .nilIface])) := by
  have c0 := p.head.root k hk
  have c1 := p.head.note k hk
  clear p
  generalize h.roots k = r0 at *
  generalize h.notes k = r1 at *
  go_enter Tryz.func20, Tryz.ntmps20
  go_wp2_with fail
  go_region
  all_goals
    go_wp2_with fail
    refine bodyPost_ret (results_tmp3 rfl) rfl ?_
    refine Ret.mk rfl ?_
    repeat (with_reducible first | refine Gr.drew ?_ | refine Gr.alloc ?_ _)
    exact Gr.refl _
set_option maxRecDepth 100000 in
set_option maxHeartbeats 1600000 in
theorem setRoot_bad_pg (PB DB M n : Nat) (h sv : Head) (F : Int → Option ByteArray) (down : Bool) (times : Int) (i k t : Int) (hk : i < 0 ∨ 8 ≤ i ∨ k < 0 ∨ 2000 ≤ k ∨ t < 0 ∨ 65536 ≤ t) (w : World) (_ : PagerAt w PB DB M n h sv F down times) :
    Calls Tryz.prog 13 #[.pointer (some ⟨PB, 0, none⟩), .int .i64 i, .int .i64 k, .int .i64 t] w (Ret w (.iface 33 (.int .i64 2))) := by
  go_enter Tryz.func13, Tryz.ntmps13
  go_wp2_with fail
  all_goals first | omega | skip
  all_goals
    go_ret
    exact Ret.mk rfl (Gr.refl _)
set_option maxRecDepth 100000 in
set_option maxHeartbeats 1600000 in
theorem setRoot_pg (PB DB M n : Nat) (h sv : Head) (F : Int → Option ByteArray) (times : Int) (i : Nat) (k t : Int) (hi : i < 8) (hk : 0 ≤ k ∧ k < 2000) (ht : 0 ≤ t ∧ t < 65536) (w : World) (p : PagerAt w PB DB M n h sv F false times) :
    Calls Tryz.prog 13 #[.pointer (some ⟨PB, 0, none⟩), .int .i64 i, .int .i64 k, .int .i64 t] w fun e w' => e = .returned .nilIface ∧ PagerAt w' PB DB M n (h.setRoot i k t) sv F false times ∧ GrX (fun b => b = PB ∨ b = M) w w' := by
  have c0 := p.head.root i hi
  have c1 := p.head.note i hi
  have cd := p.down
  have z0 := p.free (2001 + i)
  have z1 := p.free (2009 + i)
  have P := Lib.hid p
  clear p
  go_enter Tryz.func13, Tryz.ntmps13
  go_wp2_with fail
  all_goals first | omega | skip
  go_region
  all_goals
    go_wp2_with fail
    go_ret
    refine ⟨rfl, PagerAt.gr (w := (w.setCell ⟨PB, 2001 + i, none⟩ (.int .i64 k)).setCell ⟨PB, 2009 + i, none⟩ (.int .i64 t)) ?_ ?_, ?_⟩
    · exact (P.out.putRoot hi k).putNote hi t
    · exact (Gr.refl _).drew
    · exact ((GrX.setCell _ _ (.inl rfl)).trans (GrX.setCell _ _ (.inl rfl))).trans (GrX.drew _)
end Go.Proofs.YtcdoeninajpbmaaGreatDoor
