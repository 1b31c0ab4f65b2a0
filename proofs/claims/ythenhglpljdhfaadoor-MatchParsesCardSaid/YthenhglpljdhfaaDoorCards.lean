/-
  DERIVED. GIVEN WITH THE SEED: THE CARDS: each row of YthenhglpljdhfaaDoorRows.lean that lists a variable, with what it lists TIED to the program's text (the seventh form; the later family's looks); each row that meets fmt, with fmt's text TOLD by the authors' own Lean function (tested against real Go, not proved from fmt's source: count such statements apart). THE CARD IS WHAT COUNTS. Prove the row's statement (the work); the ties are given (YthenhglpljdhfaaDoorTie.lean); close each card by the builder's one call (the guide's Derived/Test/ToyasCard.lean, 'card_holds'). Laid BY PROGRAM, IN A SANDBOX (cutbox-door.mjs). By AI agents, Wed Nov 11 2026. No macro, syntax, notation, axiom, sorry.
-/
import Derived.Test.YthenhglpljdhfaaDoorRows
import GoSem.ClaimSeven
namespace Go.Proofs.YthenhglpljdhfaaDoor
namespace Rows

/-- THE TIED CARD OF 'concordancelaw.WordSplits'. -/
def wordSplitsCard : Claim7 := { stood := { row := wordSplitsRow, standIns := [], harness := (true, "95bb8b4fde5bbff0cd5e5e912285d6289f49ae1d465d339c8a7a36c27c7657b3"), looks := true }, kinds := [], alts := [], laidByText := true, laidKinds := [.data], laidTests := true, laidLooks := .later }
def WordSplitsCardSaid : Prop := Claim7.holds Tryd.pinned (.plain (OpenSpec.ofChange wordSplitsSpec)) wordSplitsCard

/-- THE TIED CARD OF 'concordancekeep.WordsPart'. -/
def wordsPartCard : Claim7 := { stood := { row := wordsPartRow, standIns := [], harness := (true, "95bb8b4fde5bbff0cd5e5e912285d6289f49ae1d465d339c8a7a36c27c7657b3"), looks := true }, kinds := [], alts := [], laidByText := true, laidKinds := [.data], laidTests := true, laidLooks := .later }
def WordsPartCardSaid : Prop := Claim7.holds Tryd.pinned (.plain (OpenSpec.ofChange wordsPartSpec)) wordsPartCard

/-- THE TIED CARD OF 'concordancelaw.PostingWrites'. -/
def postingWritesCard : Claim7 := { stood := { row := postingWritesRow, standIns := [], harness := (true, "95bb8b4fde5bbff0cd5e5e912285d6289f49ae1d465d339c8a7a36c27c7657b3"), looks := true }, kinds := [], alts := [], laidByText := true, laidKinds := [.handle], laidTests := true, laidLooks := .later }
def PostingWritesCardSaid : Prop := Claim7.holds Tryd.pinned (.plain (OpenSpec.ofChange postingWritesSpec)) postingWritesCard

/-- THE TIED CARD OF 'concordancekeep.DiskTears'. -/
def diskTearsCard : Claim7 := { stood := { row := diskTearsRow, standIns := [], harness := (true, "95bb8b4fde5bbff0cd5e5e912285d6289f49ae1d465d339c8a7a36c27c7657b3"), looks := true }, kinds := [], alts := [], laidByText := true, laidKinds := [.handle], laidTests := true, laidLooks := .later }
def DiskTearsCardSaid : Prop := Claim7.holds Tryd.pinned (.plain (OpenSpec.ofChange diskTearsSpec)) diskTearsCard

/-- THE TIED CARD OF 'concordancelaw.DiskPlays'. -/
def diskPlaysCard : Claim7 := { stood := { row := diskPlaysRow, standIns := [], harness := (true, "95bb8b4fde5bbff0cd5e5e912285d6289f49ae1d465d339c8a7a36c27c7657b3"), looks := true }, kinds := [], alts := [], laidByText := true, laidKinds := [.handle], laidTests := true, laidLooks := .later }
def DiskPlaysCardSaid : Prop := Claim7.holds Tryd.pinned (.plain (OpenSpec.ofChange diskPlaysSpec)) diskPlaysCard

/-- THE TIED CARD OF 'concordancelaw.ValueWrites'. -/
def valueWritesCard : Claim7 := { stood := { row := valueWritesRow, standIns := [], harness := (true, "95bb8b4fde5bbff0cd5e5e912285d6289f49ae1d465d339c8a7a36c27c7657b3"), looks := true }, kinds := [], alts := [], laidByText := true, laidKinds := [.handle, .data], laidTests := true, laidLooks := .later }
def ValueWritesCardSaid : Prop := Claim7.holds Tryd.pinned (.plain (OpenSpec.ofChange valueWritesSpec)) valueWritesCard

/-- THE TIED CARD OF 'concordancelaw.MatchParses'. -/
def matchParsesCard : Claim7 := { stood := { row := matchParsesRow, standIns := [], harness := (true, "95bb8b4fde5bbff0cd5e5e912285d6289f49ae1d465d339c8a7a36c27c7657b3"), looks := true }, kinds := [], alts := [], laidByText := true, laidKinds := [.data, .handle, .data, .pinned], laidTests := true, laidLooks := .later }
def MatchParsesCardSaid : Prop := Claim7.holds Tryd.pinned (.plain (OpenSpec.ofChange matchParsesSpec)) matchParsesCard

/-- THE SECOND FORM's CARD OF 'concordancelaw.WordSplits'. -/
def wordSplitsUptoCard : Claim7 := { stood := { row := wordSplitsUptoRow, standIns := [], harness := (true, "95bb8b4fde5bbff0cd5e5e912285d6289f49ae1d465d339c8a7a36c27c7657b3"), looks := true }, kinds := [], alts := [], laidByText := true, laidKinds := [.data], laidTests := true, laidLooks := .later }
def WordSplitsUptoCardSaid : Prop := Claim7.holds Tryd.pinned (.plain (OpenSpec.upto wordSplitsSpec)) wordSplitsUptoCard

/-- THE SECOND FORM's CARD OF 'concordancekeep.WordsPart'. -/
def wordsPartUptoCard : Claim7 := { stood := { row := wordsPartUptoRow, standIns := [], harness := (true, "95bb8b4fde5bbff0cd5e5e912285d6289f49ae1d465d339c8a7a36c27c7657b3"), looks := true }, kinds := [], alts := [], laidByText := true, laidKinds := [.data], laidTests := true, laidLooks := .later }
def WordsPartUptoCardSaid : Prop := Claim7.holds Tryd.pinned (.plain (OpenSpec.upto wordsPartSpec)) wordsPartUptoCard

/-- THE SECOND FORM's CARD OF 'concordancelaw.PostingWrites'. -/
def postingWritesUptoCard : Claim7 := { stood := { row := postingWritesUptoRow, standIns := [], harness := (true, "95bb8b4fde5bbff0cd5e5e912285d6289f49ae1d465d339c8a7a36c27c7657b3"), looks := true }, kinds := [], alts := [], laidByText := true, laidKinds := [.handle], laidTests := true, laidLooks := .later }
def PostingWritesUptoCardSaid : Prop := Claim7.holds Tryd.pinned (.plain (OpenSpec.upto postingWritesSpec)) postingWritesUptoCard

/-- THE SECOND FORM's CARD OF 'concordancekeep.DiskTears'. -/
def diskTearsUptoCard : Claim7 := { stood := { row := diskTearsUptoRow, standIns := [], harness := (true, "95bb8b4fde5bbff0cd5e5e912285d6289f49ae1d465d339c8a7a36c27c7657b3"), looks := true }, kinds := [], alts := [], laidByText := true, laidKinds := [.handle], laidTests := true, laidLooks := .later }
def DiskTearsUptoCardSaid : Prop := Claim7.holds Tryd.pinned (.plain (OpenSpec.upto diskTearsSpec)) diskTearsUptoCard

/-- THE SECOND FORM's CARD OF 'concordancelaw.DiskPlays'. -/
def diskPlaysUptoCard : Claim7 := { stood := { row := diskPlaysUptoRow, standIns := [], harness := (true, "95bb8b4fde5bbff0cd5e5e912285d6289f49ae1d465d339c8a7a36c27c7657b3"), looks := true }, kinds := [], alts := [], laidByText := true, laidKinds := [.handle], laidTests := true, laidLooks := .later }
def DiskPlaysUptoCardSaid : Prop := Claim7.holds Tryd.pinned (.plain (OpenSpec.upto diskPlaysSpec)) diskPlaysUptoCard

/-- THE SECOND FORM's CARD OF 'concordancelaw.ValueWrites'. -/
def valueWritesUptoCard : Claim7 := { stood := { row := valueWritesUptoRow, standIns := [], harness := (true, "95bb8b4fde5bbff0cd5e5e912285d6289f49ae1d465d339c8a7a36c27c7657b3"), looks := true }, kinds := [], alts := [], laidByText := true, laidKinds := [.handle, .data], laidTests := true, laidLooks := .later }
def ValueWritesUptoCardSaid : Prop := Claim7.holds Tryd.pinned (.plain (OpenSpec.upto valueWritesSpec)) valueWritesUptoCard

/-- THE SECOND FORM's CARD OF 'concordancelaw.MatchParses'. -/
def matchParsesUptoCard : Claim7 := { stood := { row := matchParsesUptoRow, standIns := [], harness := (true, "95bb8b4fde5bbff0cd5e5e912285d6289f49ae1d465d339c8a7a36c27c7657b3"), looks := true }, kinds := [], alts := [], laidByText := true, laidKinds := [.data, .handle, .data, .pinned], laidTests := true, laidLooks := .later }
def MatchParsesUptoCardSaid : Prop := Claim7.holds Tryd.pinned (.plain (OpenSpec.upto matchParsesSpec)) matchParsesUptoCard
end Rows
end Go.Proofs.YthenhglpljdhfaaDoor
