/-
  NARROWER THAN 'FOR EVERY INPUT', by the rows' own cells (each row's printed sentence says how): WordSplits: laid · WordsPart: laid · PostingWrites: laid · DiskTears: laid · DiskPlays: laid · ValueWrites: laid · MatchParses: laid.
  DERIVED. THE GIVEN ROWS OF THIS SEAT. 7 by the template 'for every input the law returns true; each argument reads behind the call as it read before'; 0 by the template 'total and deterministic' (their statements: YthenhglpljdhfaaDoorTotals.lean).
  GIVEN WITH THE SEED: the statements are not yours to turn. If you find one false, say at which input.
  Laid BY PROGRAM, IN A SANDBOX (cutbox-rows.mjs): the forced cells as the released guide's own fill.sh prints them over the translation 6ef24fc6f1607af5… (all of the seat's roots in one cut). By AI agents, Wed Nov 11 2026. No macro, syntax, notation, axiom, sorry.
-/
import Derived.Test.YthenhglpljdhfaaDoorChecked
import GoSem.PinnedTables
import GoSem.Claim
import GoSem.ClaimJoined
import GoSem.ClaimMapViews
import Derived.JoinedTies
import Derived.KernelRfl
namespace Go.Proofs.YthenhglpljdhfaaDoor
/- THE CELL 'sum', in the pinned program and in every row, IS THE sha256 OF THE DUMP (.gsa) THAT YthenhglpljdhfaaDoorProg.lean LOADS. Nothing in Lean hashes anything: it is a label: what it is worth is what the hold of that sum in a sandbox is worth. -/
noncomputable def Tryd.pinned : Pinned := { name := "ythenhglpljdhfaadoor", sum := "6ef24fc6f1607af5458bd406920611524ed33f583a0b26c5c5ad0aeac2e36d87", checked := Tryd.checked }
namespace Rows
def none {H : Type} : Left H := { results := [], args := [] }

/- WHAT THE LISTED PACKAGE-LEVEL VARIABLES READ AS WHEN THE CALL BEGINS. Each datum BY PROGRAM (the guide's laid-datum.mjs) off the statement by which the dump's own 'gosem.cut.vars' lays the variable. In a bare row this is a premise. The card (YthenhglpljdhfaaDoorCards.lean) ties it to the program's text. -/
def laid_concordance_word_ends {H : Type} : DataW H := .agg [.agg [.lit (.string [115, 115, 101, 115]), .lit (.string [115, 115])], .agg [.lit (.string [105, 101, 115]), .lit (.string [121])], .agg [.lit (.string [115, 115]), .lit (.string [115, 115])], .agg [.lit (.string [105, 110, 103]), .lit (.string [])], .agg [.lit (.string [101, 100]), .lit (.string [])], .agg [.lit (.string [101, 115]), .lit (.string [101])], .agg [.lit (.string [115]), .lit (.string [])]]
def laid_errors_errorType {H : Type} : DataW H := .iface "internal/reflectlite.rtype" (.agg [.ptr (.lit (.string [101, 114, 114, 111, 114]))])
def laid_concordance_concordanceref_Fine {H : Type} : DataW H := .agg [.lit (.int .i64 0), .lit (.int .i64 (-1))]
def laid_unicode_utf8_acceptRanges {H : Type} : DataW H := .agg [.agg [.lit (.int .u8 128), .lit (.int .u8 191)], .agg [.lit (.int .u8 160), .lit (.int .u8 191)], .agg [.lit (.int .u8 128), .lit (.int .u8 159)], .agg [.lit (.int .u8 144), .lit (.int .u8 191)], .agg [.lit (.int .u8 128), .lit (.int .u8 143)], .agg [.lit (.int .u8 0), .lit (.int .u8 0)], .agg [.lit (.int .u8 0), .lit (.int .u8 0)], .agg [.lit (.int .u8 0), .lit (.int .u8 0)], .agg [.lit (.int .u8 0), .lit (.int .u8 0)], .agg [.lit (.int .u8 0), .lit (.int .u8 0)], .agg [.lit (.int .u8 0), .lit (.int .u8 0)], .agg [.lit (.int .u8 0), .lit (.int .u8 0)], .agg [.lit (.int .u8 0), .lit (.int .u8 0)], .agg [.lit (.int .u8 0), .lit (.int .u8 0)], .agg [.lit (.int .u8 0), .lit (.int .u8 0)], .agg [.lit (.int .u8 0), .lit (.int .u8 0)]]
/-- One of Go's own tables, pinned by name: the form's constant. -/
def laid_unicode_utf8_first : DataW Unit := Go.Pinned.utf8First

/-- 'concordancelaw.WordSplits': WHATEVER THE INPUT: true; the input reads as it did. -/
def wordSplitsSpec : ChangeSpec := { name := "wordSplits", fn := fun _ => fun
  | [d] => { results := [.lit (.bool true)], args := [d] }
  | _ => none }
def wordSplitsRow : OpenClaim := { program := "ythenhglpljdhfaadoor", sum := "6ef24fc6f1607af5458bd406920611524ed33f583a0b26c5c5ad0aeac2e36d87", func := "concordance/concordancelaw.WordSplits", spec := "wordSplits", named := ["concordance/word.ends"], apart := false, laid := [("concordance/word.ends", laid_concordance_word_ends)] }
def WordSplitsSaid : Prop := wordSplitsRow.holds Tryd.pinned (OpenSpec.ofChange wordSplitsSpec)

/-- ITS FALSE NEIGHBOUR: 'it returns false'. Refute it at one input. -/
def wordSplitsWrong : ChangeSpec := { name := "wordSplits", fn := fun _ => fun
  | [d] => { results := [.lit (.bool false)], args := [d] }
  | _ => none }
def WordSplitsWrongFalsely : Prop := wordSplitsRow.holds Tryd.pinned (OpenSpec.ofChange wordSplitsWrong)

/-- 'concordancekeep.WordsPart': WHATEVER THE INPUT: true; the input reads as it did. -/
def wordsPartSpec : ChangeSpec := { name := "wordsPart", fn := fun _ => fun
  | [d1, d2, d3] => { results := [.lit (.bool true)], args := [d1, d2, d3] }
  | _ => none }
def wordsPartRow : OpenClaim := { program := "ythenhglpljdhfaadoor", sum := "6ef24fc6f1607af5458bd406920611524ed33f583a0b26c5c5ad0aeac2e36d87", func := "concordance/concordancekeep.WordsPart", spec := "wordsPart", named := ["concordance/word.ends"], apart := false, laid := [("concordance/word.ends", laid_concordance_word_ends)] }
def WordsPartSaid : Prop := wordsPartRow.holds Tryd.pinned (OpenSpec.ofChange wordsPartSpec)

/-- ITS FALSE NEIGHBOUR: 'it returns false'. Refute it at one input. -/
def wordsPartWrong : ChangeSpec := { name := "wordsPart", fn := fun _ => fun
  | [d1, d2, d3] => { results := [.lit (.bool false)], args := [d1, d2, d3] }
  | _ => none }
def WordsPartWrongFalsely : Prop := wordsPartRow.holds Tryd.pinned (OpenSpec.ofChange wordsPartWrong)

/-- 'concordancelaw.PostingWrites': WHATEVER THE INPUT: true; the input reads as it did. -/
def postingWritesSpec : ChangeSpec := { name := "postingWrites", fn := fun _ => fun
  | [d1, d2] => { results := [.lit (.bool true)], args := [d1, d2] }
  | _ => none }
def postingWritesRow : OpenClaim := { program := "ythenhglpljdhfaadoor", sum := "6ef24fc6f1607af5458bd406920611524ed33f583a0b26c5c5ad0aeac2e36d87", func := "concordance/concordancelaw.PostingWrites", spec := "postingWrites", inPlace := ["internal/reflectlite.ValueOf", "(internal/reflectlite.Value).Type", "(internal/reflectlite.Value).IsNil", "internal/reflectlite.TypeOf", "(internal/reflectlite.Value).Elem", "(internal/reflectlite.Value).Set"], unfollowed := true, recurses := true, named := ["errors.errorType"], apart := false, laid := [("errors.errorType", laid_errors_errorType)] }
def PostingWritesSaid : Prop := postingWritesRow.holds Tryd.pinned (OpenSpec.ofChange postingWritesSpec)

/-- ITS FALSE NEIGHBOUR: 'it returns false'. Refute it at one input. -/
def postingWritesWrong : ChangeSpec := { name := "postingWrites", fn := fun _ => fun
  | [d1, d2] => { results := [.lit (.bool false)], args := [d1, d2] }
  | _ => none }
def PostingWritesWrongFalsely : Prop := postingWritesRow.holds Tryd.pinned (OpenSpec.ofChange postingWritesWrong)

/-- 'concordancekeep.DiskTears': WHATEVER THE INPUT: true; the input reads as it did. -/
def diskTearsSpec : ChangeSpec := { name := "diskTears", fn := fun _ => fun
  | [d1, d2, d3, d4] => { results := [.lit (.bool true)], args := [d1, d2, d3, d4] }
  | _ => none }
def diskTearsRow : OpenClaim := { program := "ythenhglpljdhfaadoor", sum := "6ef24fc6f1607af5458bd406920611524ed33f583a0b26c5c5ad0aeac2e36d87", func := "concordance/concordancekeep.DiskTears", spec := "diskTears", inPlace := ["internal/abi.NoEscape", "internal/bytealg.MakeNoZero", "internal/reflectlite.ValueOf", "(internal/reflectlite.Value).Type", "(internal/reflectlite.Value).IsNil", "internal/reflectlite.TypeOf", "(internal/reflectlite.Value).Elem", "(internal/reflectlite.Value).Set"], unfollowed := true, recurses := true, named := ["errors.errorType"], apart := false, laid := [("errors.errorType", laid_errors_errorType)] }
def DiskTearsSaid : Prop := diskTearsRow.holds Tryd.pinned (OpenSpec.ofChange diskTearsSpec)

/-- ITS FALSE NEIGHBOUR: 'it returns false'. Refute it at one input. -/
def diskTearsWrong : ChangeSpec := { name := "diskTears", fn := fun _ => fun
  | [d1, d2, d3, d4] => { results := [.lit (.bool false)], args := [d1, d2, d3, d4] }
  | _ => none }
def DiskTearsWrongFalsely : Prop := diskTearsRow.holds Tryd.pinned (OpenSpec.ofChange diskTearsWrong)

/-- 'concordancelaw.DiskPlays': WHATEVER THE INPUT: true; the input reads as it did. -/
def diskPlaysSpec : ChangeSpec := { name := "diskPlays", fn := fun _ => fun
  | [d1, d2] => { results := [.lit (.bool true)], args := [d1, d2] }
  | _ => none }
def diskPlaysRow : OpenClaim := { program := "ythenhglpljdhfaadoor", sum := "6ef24fc6f1607af5458bd406920611524ed33f583a0b26c5c5ad0aeac2e36d87", func := "concordance/concordancelaw.DiskPlays", spec := "diskPlays", inPlace := ["internal/abi.NoEscape", "internal/bytealg.MakeNoZero", "internal/reflectlite.ValueOf", "(internal/reflectlite.Value).Type", "(internal/reflectlite.Value).IsNil", "internal/reflectlite.TypeOf", "(internal/reflectlite.Value).Elem", "(internal/reflectlite.Value).Set"], unfollowed := true, recurses := true, named := ["errors.errorType"], apart := false, laid := [("errors.errorType", laid_errors_errorType)] }
def DiskPlaysSaid : Prop := diskPlaysRow.holds Tryd.pinned (OpenSpec.ofChange diskPlaysSpec)

/-- ITS FALSE NEIGHBOUR: 'it returns false'. Refute it at one input. -/
def diskPlaysWrong : ChangeSpec := { name := "diskPlays", fn := fun _ => fun
  | [d1, d2] => { results := [.lit (.bool false)], args := [d1, d2] }
  | _ => none }
def DiskPlaysWrongFalsely : Prop := diskPlaysRow.holds Tryd.pinned (OpenSpec.ofChange diskPlaysWrong)

/-- 'concordancelaw.ValueWrites': WHATEVER THE INPUT: true; the input reads as it did. -/
def valueWritesSpec : ChangeSpec := { name := "valueWrites", fn := fun _ => fun
  | [d1, d2] => { results := [.lit (.bool true)], args := [d1, d2] }
  | _ => none }
def valueWritesRow : OpenClaim := { program := "ythenhglpljdhfaadoor", sum := "6ef24fc6f1607af5458bd406920611524ed33f583a0b26c5c5ad0aeac2e36d87", func := "concordance/concordancelaw.ValueWrites", spec := "valueWrites", inPlace := ["internal/bytealg.IndexByteString", "internal/bytealg.IndexString", "internal/reflectlite.ValueOf", "(internal/reflectlite.Value).Type", "(internal/reflectlite.Value).IsNil", "internal/reflectlite.TypeOf", "(internal/reflectlite.Value).Elem", "(internal/reflectlite.Value).Set"], unfollowed := true, recurses := true, named := ["concordance/concordanceref.Fine", "internal/bytealg.MaxLen", "errors.errorType"], apart := false, laid := [("errors.errorType", laid_errors_errorType), ("concordance/concordanceref.Fine", laid_concordance_concordanceref_Fine)] }
def ValueWritesSaid : Prop := valueWritesRow.holds Tryd.pinned (OpenSpec.ofChange valueWritesSpec)

/-- ITS FALSE NEIGHBOUR: 'it returns false'. Refute it at one input. -/
def valueWritesWrong : ChangeSpec := { name := "valueWrites", fn := fun _ => fun
  | [d1, d2] => { results := [.lit (.bool false)], args := [d1, d2] }
  | _ => none }
def ValueWritesWrongFalsely : Prop := valueWritesRow.holds Tryd.pinned (OpenSpec.ofChange valueWritesWrong)

/-- 'concordancelaw.MatchParses': WHATEVER THE INPUT: true; the input reads as it did. -/
def matchParsesSpec : ChangeSpec := { name := "matchParses", fn := fun _ => fun
  | [d] => { results := [.lit (.bool true)], args := [d] }
  | _ => none }
def matchParsesRow : OpenClaim := { program := "ythenhglpljdhfaadoor", sum := "6ef24fc6f1607af5458bd406920611524ed33f583a0b26c5c5ad0aeac2e36d87", func := "concordance/concordancelaw.MatchParses", spec := "matchParses", inPlace := ["internal/bytealg.IndexByteString", "internal/bytealg.IndexString", "internal/reflectlite.ValueOf", "(internal/reflectlite.Value).Type", "(internal/reflectlite.Value).IsNil", "internal/reflectlite.TypeOf", "(internal/reflectlite.Value).Elem", "(internal/reflectlite.Value).Set"], unfollowed := true, recurses := true, named := ["concordance/word.ends", "unicode/utf8.first", "unicode/utf8.acceptRanges", "errors.errorType", "internal/bytealg.MaxLen"], apart := false, laid := [("unicode/utf8.acceptRanges", laid_unicode_utf8_acceptRanges), ("errors.errorType", laid_errors_errorType), ("concordance/word.ends", laid_concordance_word_ends), ("unicode/utf8.first", laid_unicode_utf8_first)] }
def MatchParsesSaid : Prop := matchParsesRow.holds Tryd.pinned (OpenSpec.ofChange matchParsesSpec)

/-- ITS FALSE NEIGHBOUR: 'it returns false'. Refute it at one input. -/
def matchParsesWrong : ChangeSpec := { name := "matchParses", fn := fun _ => fun
  | [d] => { results := [.lit (.bool false)], args := [d] }
  | _ => none }
def MatchParsesWrongFalsely : Prop := matchParsesRow.holds Tryd.pinned (OpenSpec.ofChange matchParsesWrong)

/- THE SECOND FORM. 'bulk': how many values and letters a reading holds, each counted each time it is reached (what is shared counts as often as it is met; a slice's spare places count too). A statement '..UptoSaid' is the law's where the arguments, and the package variables that the reading takes, are together of bulk at most 1048576: NARROWER than '..Said'. Prove '..Said' where nothing that the law and all that it calls make is longer than what came in: it says more and counts as full. Else prove '..UptoSaid'. A law counts once. -/
mutual
def uptoBulk {H : Type} : DataW H → Nat
  | .lit (.string bytes) => bytes.length + 1
  | .lit _ => 1
  | .nil => 1
  | .ptr d => uptoBulk d + 1
  | .slice elems spare => uptoBulkAll elems + uptoBulkAll spare + 1
  | .agg parts => uptoBulkAll parts + 1
  | .iface _ d => uptoBulk d + 1
  | .map entries => uptoBulkEntries entries + 1
  | .held _ => 1
def uptoBulkAll {H : Type} : List (DataW H) → Nat
  | [] => 0
  | d :: r => uptoBulk d + uptoBulkAll r
def uptoBulkEntries {H : Type} : List (Lit × DataW H) → Nat
  | [] => 0
  | x :: r => uptoBulkEntry x + uptoBulkEntries r
def uptoBulkEntry {H : Type} : Lit × DataW H → Nat
  | (.string bytes, d) => bytes.length + uptoBulk d + 1
  | (_, d) => uptoBulk d + 1
 end
def uptoSmall : (H : Type) → List (DataW H) → Bool := fun _ ds => decide (uptoBulkAll ds ≤ 1048576)
def OpenSpec.upto (s : _root_.Go.ChangeSpec) : _root_.Go.OpenSpec := { _root_.Go.OpenSpec.ofChange s with cond := some uptoSmall }

/-- 'concordancelaw.WordSplits', WHERE WHAT IT READS IS OF BULK AT MOST 1048576: true; the input reads as it did. -/
def wordSplitsUptoRow : OpenClaim := { program := "ythenhglpljdhfaadoor", sum := "6ef24fc6f1607af5458bd406920611524ed33f583a0b26c5c5ad0aeac2e36d87", func := "concordance/concordancelaw.WordSplits", spec := "wordSplits", named := ["concordance/word.ends"], apart := false, laid := [("concordance/word.ends", laid_concordance_word_ends)], narrowed := true }
def WordSplitsUptoSaid : Prop := wordSplitsUptoRow.holds Tryd.pinned (OpenSpec.upto wordSplitsSpec)

/-- 'concordancekeep.WordsPart', WHERE WHAT IT READS IS OF BULK AT MOST 1048576: true; the input reads as it did. -/
def wordsPartUptoRow : OpenClaim := { program := "ythenhglpljdhfaadoor", sum := "6ef24fc6f1607af5458bd406920611524ed33f583a0b26c5c5ad0aeac2e36d87", func := "concordance/concordancekeep.WordsPart", spec := "wordsPart", named := ["concordance/word.ends"], apart := false, laid := [("concordance/word.ends", laid_concordance_word_ends)], narrowed := true }
def WordsPartUptoSaid : Prop := wordsPartUptoRow.holds Tryd.pinned (OpenSpec.upto wordsPartSpec)

/-- 'concordancelaw.PostingWrites', WHERE WHAT IT READS IS OF BULK AT MOST 1048576: true; the input reads as it did. -/
def postingWritesUptoRow : OpenClaim := { program := "ythenhglpljdhfaadoor", sum := "6ef24fc6f1607af5458bd406920611524ed33f583a0b26c5c5ad0aeac2e36d87", func := "concordance/concordancelaw.PostingWrites", spec := "postingWrites", inPlace := ["internal/reflectlite.ValueOf", "(internal/reflectlite.Value).Type", "(internal/reflectlite.Value).IsNil", "internal/reflectlite.TypeOf", "(internal/reflectlite.Value).Elem", "(internal/reflectlite.Value).Set"], unfollowed := true, recurses := true, named := ["errors.errorType"], apart := false, laid := [("errors.errorType", laid_errors_errorType)], narrowed := true }
def PostingWritesUptoSaid : Prop := postingWritesUptoRow.holds Tryd.pinned (OpenSpec.upto postingWritesSpec)

/-- 'concordancekeep.DiskTears', WHERE WHAT IT READS IS OF BULK AT MOST 1048576: true; the input reads as it did. -/
def diskTearsUptoRow : OpenClaim := { program := "ythenhglpljdhfaadoor", sum := "6ef24fc6f1607af5458bd406920611524ed33f583a0b26c5c5ad0aeac2e36d87", func := "concordance/concordancekeep.DiskTears", spec := "diskTears", inPlace := ["internal/abi.NoEscape", "internal/bytealg.MakeNoZero", "internal/reflectlite.ValueOf", "(internal/reflectlite.Value).Type", "(internal/reflectlite.Value).IsNil", "internal/reflectlite.TypeOf", "(internal/reflectlite.Value).Elem", "(internal/reflectlite.Value).Set"], unfollowed := true, recurses := true, named := ["errors.errorType"], apart := false, laid := [("errors.errorType", laid_errors_errorType)], narrowed := true }
def DiskTearsUptoSaid : Prop := diskTearsUptoRow.holds Tryd.pinned (OpenSpec.upto diskTearsSpec)

/-- 'concordancelaw.DiskPlays', WHERE WHAT IT READS IS OF BULK AT MOST 1048576: true; the input reads as it did. -/
def diskPlaysUptoRow : OpenClaim := { program := "ythenhglpljdhfaadoor", sum := "6ef24fc6f1607af5458bd406920611524ed33f583a0b26c5c5ad0aeac2e36d87", func := "concordance/concordancelaw.DiskPlays", spec := "diskPlays", inPlace := ["internal/abi.NoEscape", "internal/bytealg.MakeNoZero", "internal/reflectlite.ValueOf", "(internal/reflectlite.Value).Type", "(internal/reflectlite.Value).IsNil", "internal/reflectlite.TypeOf", "(internal/reflectlite.Value).Elem", "(internal/reflectlite.Value).Set"], unfollowed := true, recurses := true, named := ["errors.errorType"], apart := false, laid := [("errors.errorType", laid_errors_errorType)], narrowed := true }
def DiskPlaysUptoSaid : Prop := diskPlaysUptoRow.holds Tryd.pinned (OpenSpec.upto diskPlaysSpec)

/-- 'concordancelaw.ValueWrites', WHERE WHAT IT READS IS OF BULK AT MOST 1048576: true; the input reads as it did. -/
def valueWritesUptoRow : OpenClaim := { program := "ythenhglpljdhfaadoor", sum := "6ef24fc6f1607af5458bd406920611524ed33f583a0b26c5c5ad0aeac2e36d87", func := "concordance/concordancelaw.ValueWrites", spec := "valueWrites", inPlace := ["internal/bytealg.IndexByteString", "internal/bytealg.IndexString", "internal/reflectlite.ValueOf", "(internal/reflectlite.Value).Type", "(internal/reflectlite.Value).IsNil", "internal/reflectlite.TypeOf", "(internal/reflectlite.Value).Elem", "(internal/reflectlite.Value).Set"], unfollowed := true, recurses := true, named := ["concordance/concordanceref.Fine", "internal/bytealg.MaxLen", "errors.errorType"], apart := false, laid := [("errors.errorType", laid_errors_errorType), ("concordance/concordanceref.Fine", laid_concordance_concordanceref_Fine)], narrowed := true }
def ValueWritesUptoSaid : Prop := valueWritesUptoRow.holds Tryd.pinned (OpenSpec.upto valueWritesSpec)

/-- 'concordancelaw.MatchParses', WHERE WHAT IT READS IS OF BULK AT MOST 1048576: true; the input reads as it did. -/
def matchParsesUptoRow : OpenClaim := { program := "ythenhglpljdhfaadoor", sum := "6ef24fc6f1607af5458bd406920611524ed33f583a0b26c5c5ad0aeac2e36d87", func := "concordance/concordancelaw.MatchParses", spec := "matchParses", inPlace := ["internal/bytealg.IndexByteString", "internal/bytealg.IndexString", "internal/reflectlite.ValueOf", "(internal/reflectlite.Value).Type", "(internal/reflectlite.Value).IsNil", "internal/reflectlite.TypeOf", "(internal/reflectlite.Value).Elem", "(internal/reflectlite.Value).Set"], unfollowed := true, recurses := true, named := ["concordance/word.ends", "unicode/utf8.first", "unicode/utf8.acceptRanges", "errors.errorType", "internal/bytealg.MaxLen"], apart := false, laid := [("unicode/utf8.acceptRanges", laid_unicode_utf8_acceptRanges), ("errors.errorType", laid_errors_errorType), ("concordance/word.ends", laid_concordance_word_ends), ("unicode/utf8.first", laid_unicode_utf8_first)], narrowed := true }
def MatchParsesUptoSaid : Prop := matchParsesUptoRow.holds Tryd.pinned (OpenSpec.upto matchParsesSpec)

end Rows
end Go.Proofs.YthenhglpljdhfaaDoor
