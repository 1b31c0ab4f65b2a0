/-
  Part 27 of the proof.
-/
import Derived.Test.YtldmhjbdahjhdaaGreatDoorCards
import Derived.Test.YtldmhjbdahjhdaaGreatDoorTie
import Derived.Test.YtldmhjbdahjhdaaGreatDoorZb23
import Derived.Lay
import Derived.ShutString
open Go.Proofs.Tryz renaming prog->awk
set_option maxRecDepth 100000
set_option maxHeartbeats 100000000
set_option linter.all false
namespace Go.Proofs.YtldmhjbdahjhdaaGreatDoor.matchSetsDone
open Go.ChangeShapes Go.WideShapes Go.ChangeAt Go.RowKit
noncomputable def start (os:Os):World:=(World.doorLaid awk 43 os).layVars awk [("unicode/utf8.first",Rows.laid_unicode_utf8_first)]
theorem Qe(os:Os):(start os).os=os:=(World.layVars_os _ _ _).trans rfl
theorem DA(os:Os):((start os).forCall (fun _ _=>0) ⟨#[],#[.slice none 0 0,.string ⟨#[]⟩,.string ⟨#[]⟩],[]⟩).Shaped awk:=World.shaped_of_ZipB (by kernel_rfl) (by kernel_rfl)
theorem Qf(os:Os)(args:Array Value):laidMetH awk Rows.matchSetsRow.laid ((start os).forCall (fun _ _=>0) ⟨#[],args,[]⟩).memory:=
 laidMetH_of_parts3 (fuel:=8) (laidMet_of_run' 8 (by kernel_rfl) (by kernel_rfl)) (by kernel_rfl) (by kernel_rfl)
end Go.Proofs.YtldmhjbdahjhdaaGreatDoor.matchSetsDone
