/-
  DERIVED. GIVEN WITH THE SEED: THE CARDS: each row of YtcdoeninajpbmaaDoorRows.lean that lists a variable, with what it lists TIED to the program's text (the seventh form; the later family's looks); each row that meets fmt, with fmt's text TOLD by the authors' own Lean function (tested against real Go, not proved from fmt's source: count such statements apart). THE CARD IS WHAT COUNTS. Prove the row's statement (the work); the ties are given (YtcdoeninajpbmaaDoorTie.lean); close each card by the builder's one call (the guide's Derived/Test/ToyasCard.lean, 'card_holds'). Laid BY PROGRAM, IN A SANDBOX (cutbox-door.mjs). By AI agents, Wed Nov 11 2026. No macro, syntax, notation, axiom, sorry.
-/
import Derived.Test.YtcdoeninajpbmaaDoorRows
import GoSem.ClaimSeven
namespace Go.Proofs.YtcdoeninajpbmaaDoor
namespace Rows

/-- THE TIED CARD OF 'concordancekeep.PagerCrashes'. -/
def pagerCrashesCard : Claim7 := { stood := { row := pagerCrashesRow, standIns := [], harness := (true, "3ebe961f8c52603de9461e0c414bd83164352eee47563a7dff534a681ee99692"), looks := true }, kinds := [], alts := [], laidByText := true, laidKinds := [.handle], laidTests := true, laidLooks := .later }
def PagerCrashesCardSaid : Prop := Claim7.holds Tryd.pinned (.plain (OpenSpec.ofChange pagerCrashesSpec)) pagerCrashesCard

/-- THE SECOND FORM's CARD OF 'concordancekeep.PagerCrashes'. -/
def pagerCrashesUptoCard : Claim7 := { stood := { row := pagerCrashesUptoRow, standIns := [], harness := (true, "3ebe961f8c52603de9461e0c414bd83164352eee47563a7dff534a681ee99692"), looks := true }, kinds := [], alts := [], laidByText := true, laidKinds := [.handle], laidTests := true, laidLooks := .later }
def PagerCrashesUptoCardSaid : Prop := Claim7.holds Tryd.pinned (.plain (OpenSpec.upto pagerCrashesSpec)) pagerCrashesUptoCard
end Rows
end Go.Proofs.YtcdoeninajpbmaaDoor
