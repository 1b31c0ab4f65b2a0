/-
  Part 21 of the proof.
-/
import Derived.Test.YtldmhjbdahjhdaaGreatDoorCards
import Derived.Test.YtldmhjbdahjhdaaGreatDoorTie
import Derived.Test.YtldmhjbdahjhdaaGreatDoorZa16
import Derived.Lay
import Derived.ShutString
open Go.Proofs.Tryz renaming prog->b
set_option maxRecDepth 100000
set_option maxHeartbeats 100000000
set_option linter.all false
namespace Go.Proofs.YtldmhjbdahjhdaaGreatDoor.matchFindsDone
open Go.ChangeShapes Go.WideShapes Go.ChangeAt Go.RowKit
noncomputable def start (os:Os):World:=(World.doorLaid b 43 os).layVars b [("unicode/utf8.first",Rows.laid_unicode_utf8_first)]
theorem Sf(os:Os):(start os).os=os:=(World.layVars_os _ _ _).trans rfl
theorem Fs(os:Os):((start os).forCall (fun _ _=>0) ⟨#[],#[.slice none 0 0,.string ⟨#[]⟩],[]⟩).Shaped b:=World.shaped_of_ZipB (by kernel_rfl) (by kernel_rfl)
theorem Sg(os:Os)(args:Array Value):laidMetH b Rows.matchFindsRow.laid ((start os).forCall (fun _ _=>0) ⟨#[],args,[]⟩).memory:=
 laidMetH_of_parts3 (fuel:=8) (laidMet_of_run' 8 (by kernel_rfl) (by kernel_rfl)) (by kernel_rfl) (by kernel_rfl)
end Go.Proofs.YtldmhjbdahjhdaaGreatDoor.matchFindsDone
