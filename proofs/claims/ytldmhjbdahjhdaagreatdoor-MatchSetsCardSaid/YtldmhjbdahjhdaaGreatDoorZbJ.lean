/-
  Part 29 of the proof.
-/
import Derived.Test.YtldmhjbdahjhdaaGreatDoorCards
import Derived.Test.YtldmhjbdahjhdaaGreatDoorTie
import Derived.Test.YtldmhjbdahjhdaaGreatDoorZb23
open Go.Proofs.Tryz renaming prog->awT
set_option maxRecDepth 100000
set_option maxHeartbeats 100000000
set_option linter.all false
namespace Go.Proofs.YtldmhjbdahjhdaaGreatDoor.matchSetsDone
open Go
theorem Ki:(Rows.matchSetsRow.inPlace==Program.inPlace awT 5)=true:=by kernel_rfl
theorem CO:(Rows.matchSetsRow.unfollowed==Program.unfollowed awT 5)=true:=by kernel_rfl
theorem Hw:(Rows.matchSetsRow.recurses==Program.recurses awT 5)=true:=by kernel_rfl
theorem Qg:(Rows.matchSetsRow.named==Program.varsNamed awT 5)=true:=by kernel_rfl
theorem TK:joinedFacts awT 5 Tryz.f5 Rows.matchSetsSpec Rows.matchSetsRow=true:=
 M4 (by as_aux_lemma=>kernel_rfl) (by as_aux_lemma=>kernel_rfl) (by as_aux_lemma=>kernel_rfl) (by as_aux_lemma=>kernel_rfl) (by as_aux_lemma=>kernel_rfl)
  (by as_aux_lemma=>kernel_rfl) (by as_aux_lemma=>kernel_rfl) (by as_aux_lemma=>kernel_rfl) (by as_aux_lemma=>kernel_rfl)
  Ki CO Hw Qg
  (by as_aux_lemma=>kernel_rfl) (by as_aux_lemma=>kernel_rfl) (by as_aux_lemma=>kernel_rfl) (by as_aux_lemma=>kernel_rfl) (by as_aux_lemma=>kernel_rfl)
  (by as_aux_lemma=>kernel_rfl) (by as_aux_lemma=>kernel_rfl) (by as_aux_lemma=>kernel_rfl) (by as_aux_lemma=>kernel_rfl) (by as_aux_lemma=>kernel_rfl)
  (by as_aux_lemma=>kernel_rfl) (by as_aux_lemma=>kernel_rfl) (by as_aux_lemma=>kernel_rfl) (by as_aux_lemma=>kernel_rfl) (by as_aux_lemma=>kernel_rfl)
  (by as_aux_lemma=>kernel_rfl) (by as_aux_lemma=>kernel_rfl) (by as_aux_lemma=>kernel_rfl) (by as_aux_lemma=>kernel_rfl)
end Go.Proofs.YtldmhjbdahjhdaaGreatDoor.matchSetsDone
