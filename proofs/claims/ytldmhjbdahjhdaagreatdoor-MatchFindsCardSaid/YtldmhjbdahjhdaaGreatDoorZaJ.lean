/-
  Part 22 of the proof.
-/
import Derived.Test.YtldmhjbdahjhdaaGreatDoorCards
import Derived.Test.YtldmhjbdahjhdaaGreatDoorTie
import Derived.Test.YtldmhjbdahjhdaaGreatDoorZa16
open Go.Proofs.Tryz renaming prog->b
open Go.Program renaming unfollowed->q,varsNamed->s,recurses->y,inPlace->z
set_option maxRecDepth 100000
set_option maxHeartbeats 100000000
set_option linter.all false
namespace Go.Proofs.YtldmhjbdahjhdaaGreatDoor.matchFindsDone
open Go
theorem Me:(Rows.matchFindsRow.inPlace==z b 3)=true:=by kernel_rfl
theorem Eo:(Rows.matchFindsRow.unfollowed==q b 3)=true:=by kernel_rfl
theorem JL:(Rows.matchFindsRow.recurses==y b 3)=true:=by kernel_rfl
theorem Sh:(Rows.matchFindsRow.named==s b 3)=true:=by kernel_rfl
theorem Wj:joinedFacts b 3 Tryz.f3 Rows.matchFindsSpec Rows.matchFindsRow=true:=
 OZ (by as_aux_lemma=>kernel_rfl) (by as_aux_lemma=>kernel_rfl) (by as_aux_lemma=>kernel_rfl) (by as_aux_lemma=>kernel_rfl) (by as_aux_lemma=>kernel_rfl)
  (by as_aux_lemma=>kernel_rfl) (by as_aux_lemma=>kernel_rfl) (by as_aux_lemma=>kernel_rfl) (by as_aux_lemma=>kernel_rfl)
  Me Eo JL Sh
  (by as_aux_lemma=>kernel_rfl) (by as_aux_lemma=>kernel_rfl) (by as_aux_lemma=>kernel_rfl) (by as_aux_lemma=>kernel_rfl) (by as_aux_lemma=>kernel_rfl)
  (by as_aux_lemma=>kernel_rfl) (by as_aux_lemma=>kernel_rfl) (by as_aux_lemma=>kernel_rfl) (by as_aux_lemma=>kernel_rfl) (by as_aux_lemma=>kernel_rfl)
  (by as_aux_lemma=>kernel_rfl) (by as_aux_lemma=>kernel_rfl) (by as_aux_lemma=>kernel_rfl) (by as_aux_lemma=>kernel_rfl) (by as_aux_lemma=>kernel_rfl)
  (by as_aux_lemma=>kernel_rfl) (by as_aux_lemma=>kernel_rfl) (by as_aux_lemma=>kernel_rfl) (by as_aux_lemma=>kernel_rfl)
end Go.Proofs.YtldmhjbdahjhdaaGreatDoor.matchFindsDone
