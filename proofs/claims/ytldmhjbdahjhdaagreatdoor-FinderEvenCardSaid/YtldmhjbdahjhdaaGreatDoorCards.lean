/-
  DERIVED. GIVEN WITH THE SEED: THE CARDS: each row of YtldmhjbdahjhdaaGreatDoorRows.lean that lists a variable, with what it lists TIED to the program's text (the seventh form; the later family's looks); each row that meets fmt, with fmt's text TOLD by the authors' own Lean function (tested against real Go, not proved from fmt's source: count such statements apart). THE CARD IS WHAT COUNTS. Prove the row's statement (the work); the ties are given (YtldmhjbdahjhdaaGreatDoorTie.lean); close each card by the builder's one call (the guide's Derived/Test/ToyasCard.lean, 'card_holds'). Laid BY PROGRAM, IN A SANDBOX (cutbox-door.mjs). By AI agents, Wed Nov 11 2026. No macro, syntax, notation, axiom, sorry.
-/
import Derived.Test.YtldmhjbdahjhdaaGreatDoorRows
import GoSem.ClaimSeven
namespace Go.Proofs.YtldmhjbdahjhdaaGreatDoor
namespace Rows

/-- THE TIED CARD OF 'concordancelaw.MatchFinds'. -/
def matchFindsCard : Claim7 := { stood := { row := matchFindsRow, standIns := [], harness := (true, "ca5e07f5e41c91dfe132b6447c792b3909faa0ffcf5282ead8131e8de483b0fd"), looks := true }, kinds := [], alts := [], laidByText := true, laidKinds := [.data, .handle, .data, .pinned], laidTests := true, laidLooks := .later }
def MatchFindsCardSaid : Prop := Claim7.holds Tryz.pinned (.plain (OpenSpec.ofChange matchFindsSpec)) matchFindsCard

/-- THE TIED CARD OF 'concordancekeep.FinderEven'. -/
def finderEvenCard : Claim7 := { stood := { row := finderEvenRow, standIns := [], harness := (true, "ca5e07f5e41c91dfe132b6447c792b3909faa0ffcf5282ead8131e8de483b0fd"), looks := true }, kinds := [], alts := [], laidByText := true, laidKinds := [.handle, .data], laidTests := true, laidLooks := .later }
def FinderEvenCardSaid : Prop := Claim7.holds Tryz.pinned (.plain (OpenSpec.ofChange finderEvenSpec)) finderEvenCard

/-- THE TIED CARD OF 'concordancekeep.MatchSets'. -/
def matchSetsCard : Claim7 := { stood := { row := matchSetsRow, standIns := [], harness := (true, "ca5e07f5e41c91dfe132b6447c792b3909faa0ffcf5282ead8131e8de483b0fd"), looks := true }, kinds := [], alts := [], laidByText := true, laidKinds := [.data, .handle, .data, .pinned], laidTests := true, laidLooks := .later }
def MatchSetsCardSaid : Prop := Claim7.holds Tryz.pinned (.plain (OpenSpec.ofChange matchSetsSpec)) matchSetsCard

/-- THE SECOND FORM's CARD OF 'concordancelaw.MatchFinds'. -/
def matchFindsUptoCard : Claim7 := { stood := { row := matchFindsUptoRow, standIns := [], harness := (true, "ca5e07f5e41c91dfe132b6447c792b3909faa0ffcf5282ead8131e8de483b0fd"), looks := true }, kinds := [], alts := [], laidByText := true, laidKinds := [.data, .handle, .data, .pinned], laidTests := true, laidLooks := .later }
def MatchFindsUptoCardSaid : Prop := Claim7.holds Tryz.pinned (.plain (OpenSpec.upto matchFindsSpec)) matchFindsUptoCard

/-- THE SECOND FORM's CARD OF 'concordancekeep.FinderEven'. -/
def finderEvenUptoCard : Claim7 := { stood := { row := finderEvenUptoRow, standIns := [], harness := (true, "ca5e07f5e41c91dfe132b6447c792b3909faa0ffcf5282ead8131e8de483b0fd"), looks := true }, kinds := [], alts := [], laidByText := true, laidKinds := [.handle, .data], laidTests := true, laidLooks := .later }
def FinderEvenUptoCardSaid : Prop := Claim7.holds Tryz.pinned (.plain (OpenSpec.upto finderEvenSpec)) finderEvenUptoCard

/-- THE SECOND FORM's CARD OF 'concordancekeep.MatchSets'. -/
def matchSetsUptoCard : Claim7 := { stood := { row := matchSetsUptoRow, standIns := [], harness := (true, "ca5e07f5e41c91dfe132b6447c792b3909faa0ffcf5282ead8131e8de483b0fd"), looks := true }, kinds := [], alts := [], laidByText := true, laidKinds := [.data, .handle, .data, .pinned], laidTests := true, laidLooks := .later }
def MatchSetsUptoCardSaid : Prop := Claim7.holds Tryz.pinned (.plain (OpenSpec.upto matchSetsSpec)) matchSetsUptoCard
end Rows
end Go.Proofs.YtldmhjbdahjhdaaGreatDoor
