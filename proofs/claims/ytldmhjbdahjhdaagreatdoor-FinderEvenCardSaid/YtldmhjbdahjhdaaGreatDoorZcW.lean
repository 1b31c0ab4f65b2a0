/-
  Part 28 of the proof.
-/
import Derived.Test.YtldmhjbdahjhdaaGreatDoorCards
import Derived.Test.YtldmhjbdahjhdaaGreatDoorTie
import Derived.Test.YtldmhjbdahjhdaaGreatDoorZc23
import Derived.Lay
import Derived.ShutString
set_option maxRecDepth 100000
set_option maxHeartbeats 100000000
set_option linter.all false
namespace Go.Proofs.YtldmhjbdahjhdaaGreatDoor.finderEvenDone
open Go.ChangeShapes Go.WideShapes Go.ChangeAt Go.RowKit
noncomputable def start (os:Os):World:=World.doorLaid Tryz.prog 43 os
theorem start_os(os:Os):(start os).os=os:=rfl
theorem start_shaped(os:Os):((start os).forCall (fun _ _=>0) ⟨#[],#[.slice none 0 0,.slice none 0 0,.string ⟨#[]⟩],[]⟩).Shaped Tryz.prog:=World.shaped_of_ZipB (by kernel_rfl) (by kernel_rfl)
theorem door_met(os:Os)(args:Array Value):laidMetH Tryz.prog Rows.finderEvenRow.laid ((start os).forCall (fun _ _=>0) ⟨#[],args,[]⟩).memory:=
 laidMetH_of_parts3 (fuel:=8) (laidMet_of_run' 8 (by kernel_rfl) (by kernel_rfl)) (by kernel_rfl) (by kernel_rfl)
end Go.Proofs.YtldmhjbdahjhdaaGreatDoor.finderEvenDone
