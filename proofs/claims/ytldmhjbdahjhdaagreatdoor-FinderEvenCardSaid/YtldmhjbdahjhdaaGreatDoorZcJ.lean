/-
  Part 30 of the proof.
-/
import Derived.Test.YtldmhjbdahjhdaaGreatDoorCards
import Derived.Test.YtldmhjbdahjhdaaGreatDoorTie
import Derived.Test.YtldmhjbdahjhdaaGreatDoorZc23
set_option maxRecDepth 100000
set_option maxHeartbeats 100000000
set_option linter.all false
namespace Go.Proofs.YtldmhjbdahjhdaaGreatDoor.finderEvenDone
open Go
theorem jf_inPlace:(Rows.finderEvenRow.inPlace==Program.inPlace Tryz.prog 4)=true:=by kernel_rfl
theorem jf_unfollowed:(Rows.finderEvenRow.unfollowed==Program.unfollowed Tryz.prog 4)=true:=by kernel_rfl
theorem jf_recurses:(Rows.finderEvenRow.recurses==Program.recurses Tryz.prog 4)=true:=by kernel_rfl
theorem jf_named:(Rows.finderEvenRow.named==Program.varsNamed Tryz.prog 4)=true:=by kernel_rfl
theorem joined:joinedFacts Tryz.prog 4 Tryz.f4 Rows.finderEvenSpec Rows.finderEvenRow=true:=
 joined_of (by as_aux_lemma=>kernel_rfl) (by as_aux_lemma=>kernel_rfl) (by as_aux_lemma=>kernel_rfl) (by as_aux_lemma=>kernel_rfl) (by as_aux_lemma=>kernel_rfl)
  (by as_aux_lemma=>kernel_rfl) (by as_aux_lemma=>kernel_rfl) (by as_aux_lemma=>kernel_rfl) (by as_aux_lemma=>kernel_rfl)
  jf_inPlace jf_unfollowed jf_recurses jf_named
  (by as_aux_lemma=>kernel_rfl) (by as_aux_lemma=>kernel_rfl) (by as_aux_lemma=>kernel_rfl) (by as_aux_lemma=>kernel_rfl) (by as_aux_lemma=>kernel_rfl)
  (by as_aux_lemma=>kernel_rfl) (by as_aux_lemma=>kernel_rfl) (by as_aux_lemma=>kernel_rfl) (by as_aux_lemma=>kernel_rfl) (by as_aux_lemma=>kernel_rfl)
  (by as_aux_lemma=>kernel_rfl) (by as_aux_lemma=>kernel_rfl) (by as_aux_lemma=>kernel_rfl) (by as_aux_lemma=>kernel_rfl) (by as_aux_lemma=>kernel_rfl)
  (by as_aux_lemma=>kernel_rfl) (by as_aux_lemma=>kernel_rfl) (by as_aux_lemma=>kernel_rfl) (by as_aux_lemma=>kernel_rfl)
end Go.Proofs.YtldmhjbdahjhdaaGreatDoor.finderEvenDone
