/-
  NARROWER THAN 'FOR EVERY INPUT', by the rows' own cells (each row's printed sentence says how): TableMakes: laid · TableErrs: laid · TableJoins: laid · TableCuts: laid · TableMerges: laid · TableShows: laid · TableFinds: laid.
  DERIVED. THE GIVEN ROWS OF THIS SEAT. 7 by the template 'for every input the law returns true; each argument reads behind the call as it read before'; 0 by the template 'total and deterministic' (their statements: YtekeaphbmkfogaaGreatDoorTotals.lean).
  GIVEN WITH THE SEED: the statements are not yours to turn. If you find one false, say at which input.
  Laid BY PROGRAM, IN A SANDBOX (cutbox-rows.mjs): the forced cells as the released guide's own fill.sh prints them over the translation 90aaf8ad8a1e93de… (all of the seat's roots in one cut). By AI agents, Wed Nov 11 2026. No macro, syntax, notation, axiom, sorry.
-/
import Derived.Test.YtekeaphbmkfogaaGreatDoorChecked
import GoSem.PinnedTables
import GoSem.Claim
import GoSem.ClaimJoined
import GoSem.ClaimMapViews
import Derived.JoinedTies
import Derived.KernelRfl
namespace Go.Proofs.YtekeaphbmkfogaaGreatDoor
/- THE CELL 'sum', in the pinned program and in every row, IS THE sha256 OF THE DUMP (.gsa) THAT YtekeaphbmkfogaaGreatDoorProg.lean LOADS. Nothing in Lean hashes anything: it is a label: what it is worth is what the hold of that sum in a sandbox is worth. -/
noncomputable def Tryz.pinned : Pinned := { name := "ytekeaphbmkfogaagreatdoor", sum := "90aaf8ad8a1e93de4fd6cd47d6d41c431601da65bb045e7a2372993c32637656", checked := Tryz.checked }
namespace Rows
def none {H : Type} : Left H := { results := [], args := [] }

/- WHAT THE LISTED PACKAGE-LEVEL VARIABLES READ AS WHEN THE CALL BEGINS. Each datum BY PROGRAM (the guide's laid-datum.mjs) off the statement by which the dump's own 'gosem.cut.vars' lays the variable. In a bare row this is a premise. The card (YtekeaphbmkfogaaGreatDoorCards.lean) ties it to the program's text. -/
def laid_unicode_utf8_acceptRanges {H : Type} : DataW H := .agg [.agg [.lit (.int .u8 128), .lit (.int .u8 191)], .agg [.lit (.int .u8 160), .lit (.int .u8 191)], .agg [.lit (.int .u8 128), .lit (.int .u8 159)], .agg [.lit (.int .u8 144), .lit (.int .u8 191)], .agg [.lit (.int .u8 128), .lit (.int .u8 143)], .agg [.lit (.int .u8 0), .lit (.int .u8 0)], .agg [.lit (.int .u8 0), .lit (.int .u8 0)], .agg [.lit (.int .u8 0), .lit (.int .u8 0)], .agg [.lit (.int .u8 0), .lit (.int .u8 0)], .agg [.lit (.int .u8 0), .lit (.int .u8 0)], .agg [.lit (.int .u8 0), .lit (.int .u8 0)], .agg [.lit (.int .u8 0), .lit (.int .u8 0)], .agg [.lit (.int .u8 0), .lit (.int .u8 0)], .agg [.lit (.int .u8 0), .lit (.int .u8 0)], .agg [.lit (.int .u8 0), .lit (.int .u8 0)], .agg [.lit (.int .u8 0), .lit (.int .u8 0)]]
def laid_meridian_civil_ahead {H : Type} : DataW H := .agg [.lit (.int .i64 0), .lit (.int .i64 31), .lit (.int .i64 59), .lit (.int .i64 90), .lit (.int .i64 120), .lit (.int .i64 151), .lit (.int .i64 181), .lit (.int .i64 212), .lit (.int .i64 243), .lit (.int .i64 273), .lit (.int .i64 304), .lit (.int .i64 334), .lit (.int .i64 365)]
/-- One of Go's own tables, pinned by name: the form's constant. -/
def laid_unicode_utf8_first : DataW Unit := Go.Pinned.utf8First

/-- 'meridianlaw14.TableMakes': WHATEVER THE INPUT: true; the input reads as it did. -/
def tableMakesSpec : ChangeSpec := { name := "tableMakes", fn := fun _ => fun
  | [d1, d2] => { results := [.lit (.bool true)], args := [d1, d2] }
  | _ => none }
def tableMakesRow : OpenClaim := { program := "ytekeaphbmkfogaagreatdoor", sum := "90aaf8ad8a1e93de4fd6cd47d6d41c431601da65bb045e7a2372993c32637656", func := "meridian/meridianlaw14.TableMakes", spec := "tableMakes", inPlace := ["internal/bytealg.IndexByteString", "internal/bytealg.IndexString", "internal/bytealg.CountString", "internal/abi.NoEscape", "internal/bytealg.MakeNoZero"], unfollowed := true, recurses := true, named := ["internal/bytealg.MaxLen", "unicode/utf8.first", "unicode/utf8.acceptRanges", "meridian/civil.ahead"], apart := false, laid := [("unicode/utf8.acceptRanges", laid_unicode_utf8_acceptRanges), ("meridian/civil.ahead", laid_meridian_civil_ahead), ("unicode/utf8.first", laid_unicode_utf8_first)] }
def TableMakesSaid : Prop := tableMakesRow.holds Tryz.pinned (OpenSpec.ofChange tableMakesSpec)

/-- ITS FALSE NEIGHBOUR: 'it returns false'. Refute it at one input. -/
def tableMakesWrong : ChangeSpec := { name := "tableMakes", fn := fun _ => fun
  | [d1, d2] => { results := [.lit (.bool false)], args := [d1, d2] }
  | _ => none }
def TableMakesWrongFalsely : Prop := tableMakesRow.holds Tryz.pinned (OpenSpec.ofChange tableMakesWrong)

/-- 'meridianlaw14.TableErrs': WHATEVER THE INPUT: true; the input reads as it did. -/
def tableErrsSpec : ChangeSpec := { name := "tableErrs", fn := fun _ => fun
  | [d1, d2] => { results := [.lit (.bool true)], args := [d1, d2] }
  | _ => none }
def tableErrsRow : OpenClaim := { program := "ytekeaphbmkfogaagreatdoor", sum := "90aaf8ad8a1e93de4fd6cd47d6d41c431601da65bb045e7a2372993c32637656", func := "meridian/meridianlaw14.TableErrs", spec := "tableErrs", inPlace := ["internal/bytealg.IndexByteString", "internal/bytealg.IndexString", "internal/bytealg.CountString", "internal/abi.NoEscape", "internal/bytealg.MakeNoZero"], unfollowed := true, recurses := true, named := ["internal/bytealg.MaxLen", "unicode/utf8.first", "unicode/utf8.acceptRanges", "meridian/civil.ahead"], apart := false, laid := [("unicode/utf8.acceptRanges", laid_unicode_utf8_acceptRanges), ("meridian/civil.ahead", laid_meridian_civil_ahead), ("unicode/utf8.first", laid_unicode_utf8_first)] }
def TableErrsSaid : Prop := tableErrsRow.holds Tryz.pinned (OpenSpec.ofChange tableErrsSpec)

/-- ITS FALSE NEIGHBOUR: 'it returns false'. Refute it at one input. -/
def tableErrsWrong : ChangeSpec := { name := "tableErrs", fn := fun _ => fun
  | [d1, d2] => { results := [.lit (.bool false)], args := [d1, d2] }
  | _ => none }
def TableErrsWrongFalsely : Prop := tableErrsRow.holds Tryz.pinned (OpenSpec.ofChange tableErrsWrong)

/-- 'meridianlaw14.TableJoins': WHATEVER THE INPUT: true; the input reads as it did. -/
def tableJoinsSpec : ChangeSpec := { name := "tableJoins", fn := fun _ => fun
  | [d1, d2] => { results := [.lit (.bool true)], args := [d1, d2] }
  | _ => none }
def tableJoinsRow : OpenClaim := { program := "ytekeaphbmkfogaagreatdoor", sum := "90aaf8ad8a1e93de4fd6cd47d6d41c431601da65bb045e7a2372993c32637656", func := "meridian/meridianlaw14.TableJoins", spec := "tableJoins", inPlace := ["internal/bytealg.IndexByteString", "internal/bytealg.IndexString", "internal/bytealg.CountString", "internal/abi.NoEscape", "internal/bytealg.MakeNoZero"], unfollowed := true, recurses := true, named := ["internal/bytealg.MaxLen", "unicode/utf8.first", "unicode/utf8.acceptRanges", "meridian/civil.ahead"], apart := false, laid := [("unicode/utf8.acceptRanges", laid_unicode_utf8_acceptRanges), ("meridian/civil.ahead", laid_meridian_civil_ahead), ("unicode/utf8.first", laid_unicode_utf8_first)] }
def TableJoinsSaid : Prop := tableJoinsRow.holds Tryz.pinned (OpenSpec.ofChange tableJoinsSpec)

/-- ITS FALSE NEIGHBOUR: 'it returns false'. Refute it at one input. -/
def tableJoinsWrong : ChangeSpec := { name := "tableJoins", fn := fun _ => fun
  | [d1, d2] => { results := [.lit (.bool false)], args := [d1, d2] }
  | _ => none }
def TableJoinsWrongFalsely : Prop := tableJoinsRow.holds Tryz.pinned (OpenSpec.ofChange tableJoinsWrong)

/-- 'meridianlaw14.TableCuts': WHATEVER THE INPUT: true; the input reads as it did. -/
def tableCutsSpec : ChangeSpec := { name := "tableCuts", fn := fun _ => fun
  | [d1, d2, d3] => { results := [.lit (.bool true)], args := [d1, d2, d3] }
  | _ => none }
def tableCutsRow : OpenClaim := { program := "ytekeaphbmkfogaagreatdoor", sum := "90aaf8ad8a1e93de4fd6cd47d6d41c431601da65bb045e7a2372993c32637656", func := "meridian/meridianlaw14.TableCuts", spec := "tableCuts", inPlace := ["internal/bytealg.IndexByteString", "internal/bytealg.IndexString", "internal/bytealg.CountString", "internal/abi.NoEscape", "internal/bytealg.MakeNoZero"], unfollowed := true, recurses := true, named := ["internal/bytealg.MaxLen", "unicode/utf8.first", "unicode/utf8.acceptRanges", "meridian/civil.ahead"], apart := false, laid := [("unicode/utf8.acceptRanges", laid_unicode_utf8_acceptRanges), ("meridian/civil.ahead", laid_meridian_civil_ahead), ("unicode/utf8.first", laid_unicode_utf8_first)] }
def TableCutsSaid : Prop := tableCutsRow.holds Tryz.pinned (OpenSpec.ofChange tableCutsSpec)

/-- ITS FALSE NEIGHBOUR: 'it returns false'. Refute it at one input. -/
def tableCutsWrong : ChangeSpec := { name := "tableCuts", fn := fun _ => fun
  | [d1, d2, d3] => { results := [.lit (.bool false)], args := [d1, d2, d3] }
  | _ => none }
def TableCutsWrongFalsely : Prop := tableCutsRow.holds Tryz.pinned (OpenSpec.ofChange tableCutsWrong)

/-- 'meridianlaw14.TableMerges': WHATEVER THE INPUT: true; the input reads as it did. -/
def tableMergesSpec : ChangeSpec := { name := "tableMerges", fn := fun _ => fun
  | [d1, d2] => { results := [.lit (.bool true)], args := [d1, d2] }
  | _ => none }
def tableMergesRow : OpenClaim := { program := "ytekeaphbmkfogaagreatdoor", sum := "90aaf8ad8a1e93de4fd6cd47d6d41c431601da65bb045e7a2372993c32637656", func := "meridian/meridianlaw14.TableMerges", spec := "tableMerges", inPlace := ["internal/bytealg.IndexByteString", "internal/bytealg.IndexString", "internal/bytealg.CountString", "internal/abi.NoEscape", "internal/bytealg.MakeNoZero"], unfollowed := true, recurses := true, named := ["internal/bytealg.MaxLen", "unicode/utf8.first", "unicode/utf8.acceptRanges", "meridian/civil.ahead"], apart := false, laid := [("unicode/utf8.acceptRanges", laid_unicode_utf8_acceptRanges), ("meridian/civil.ahead", laid_meridian_civil_ahead), ("unicode/utf8.first", laid_unicode_utf8_first)] }
def TableMergesSaid : Prop := tableMergesRow.holds Tryz.pinned (OpenSpec.ofChange tableMergesSpec)

/-- ITS FALSE NEIGHBOUR: 'it returns false'. Refute it at one input. -/
def tableMergesWrong : ChangeSpec := { name := "tableMerges", fn := fun _ => fun
  | [d1, d2] => { results := [.lit (.bool false)], args := [d1, d2] }
  | _ => none }
def TableMergesWrongFalsely : Prop := tableMergesRow.holds Tryz.pinned (OpenSpec.ofChange tableMergesWrong)

/-- 'meridianlaw14.TableShows': WHATEVER THE INPUT: true; the input reads as it did. -/
def tableShowsSpec : ChangeSpec := { name := "tableShows", fn := fun _ => fun
  | [d1, d2, d3] => { results := [.lit (.bool true)], args := [d1, d2, d3] }
  | _ => none }
def tableShowsRow : OpenClaim := { program := "ytekeaphbmkfogaagreatdoor", sum := "90aaf8ad8a1e93de4fd6cd47d6d41c431601da65bb045e7a2372993c32637656", func := "meridian/meridianlaw14.TableShows", spec := "tableShows", inPlace := ["internal/bytealg.IndexByteString", "internal/bytealg.IndexString", "internal/bytealg.CountString", "internal/abi.NoEscape", "internal/bytealg.MakeNoZero"], unfollowed := true, recurses := true, named := ["internal/bytealg.MaxLen", "unicode/utf8.first", "unicode/utf8.acceptRanges", "meridian/civil.ahead"], apart := false, laid := [("unicode/utf8.acceptRanges", laid_unicode_utf8_acceptRanges), ("meridian/civil.ahead", laid_meridian_civil_ahead), ("unicode/utf8.first", laid_unicode_utf8_first)] }
def TableShowsSaid : Prop := tableShowsRow.holds Tryz.pinned (OpenSpec.ofChange tableShowsSpec)

/-- ITS FALSE NEIGHBOUR: 'it returns false'. Refute it at one input. -/
def tableShowsWrong : ChangeSpec := { name := "tableShows", fn := fun _ => fun
  | [d1, d2, d3] => { results := [.lit (.bool false)], args := [d1, d2, d3] }
  | _ => none }
def TableShowsWrongFalsely : Prop := tableShowsRow.holds Tryz.pinned (OpenSpec.ofChange tableShowsWrong)

/-- 'meridianlaw14.TableFinds': WHATEVER THE INPUT: true; the input reads as it did. -/
def tableFindsSpec : ChangeSpec := { name := "tableFinds", fn := fun _ => fun
  | [d1, d2] => { results := [.lit (.bool true)], args := [d1, d2] }
  | _ => none }
def tableFindsRow : OpenClaim := { program := "ytekeaphbmkfogaagreatdoor", sum := "90aaf8ad8a1e93de4fd6cd47d6d41c431601da65bb045e7a2372993c32637656", func := "meridian/meridianlaw14.TableFinds", spec := "tableFinds", inPlace := ["internal/bytealg.IndexByteString", "internal/bytealg.IndexString", "internal/bytealg.CountString", "internal/abi.NoEscape", "internal/bytealg.MakeNoZero"], unfollowed := true, recurses := true, named := ["internal/bytealg.MaxLen", "unicode/utf8.first", "unicode/utf8.acceptRanges", "meridian/civil.ahead"], apart := false, laid := [("unicode/utf8.acceptRanges", laid_unicode_utf8_acceptRanges), ("meridian/civil.ahead", laid_meridian_civil_ahead), ("unicode/utf8.first", laid_unicode_utf8_first)] }
def TableFindsSaid : Prop := tableFindsRow.holds Tryz.pinned (OpenSpec.ofChange tableFindsSpec)

/-- ITS FALSE NEIGHBOUR: 'it returns false'. Refute it at one input. -/
def tableFindsWrong : ChangeSpec := { name := "tableFinds", fn := fun _ => fun
  | [d1, d2] => { results := [.lit (.bool false)], args := [d1, d2] }
  | _ => none }
def TableFindsWrongFalsely : Prop := tableFindsRow.holds Tryz.pinned (OpenSpec.ofChange tableFindsWrong)

/- THE SECOND FORM. 'bulk': how many values and letters a reading holds, each counted each time it is reached (what is shared counts as often as it is met; a slice's spare places count too). A statement '..UptoSaid' is the law's where the arguments, and the package variables that the reading takes, are together of bulk at most 1048576: NARROWER than '..Said'. Prove '..Said' where nothing that the law and all that it calls make is longer than what came in: it says more and counts as full. Else prove '..UptoSaid'. A law counts once. -/
mutual
def uptoBulk {H : Type} : DataW H → Nat
  | .lit (.string bytes) => bytes.length + 1
  | .lit _ => 1
  | .nil => 1
  | .ptr d => uptoBulk d + 1
  | .slice elems spare => uptoBulkAll elems + uptoBulkAll spare + 1
  | .agg parts => uptoBulkAll parts + 1
  | .iface _ d => uptoBulk d + 1
  | .map entries => uptoBulkEntries entries + 1
  | .held _ => 1
def uptoBulkAll {H : Type} : List (DataW H) → Nat
  | [] => 0
  | d :: r => uptoBulk d + uptoBulkAll r
def uptoBulkEntries {H : Type} : List (Lit × DataW H) → Nat
  | [] => 0
  | x :: r => uptoBulkEntry x + uptoBulkEntries r
def uptoBulkEntry {H : Type} : Lit × DataW H → Nat
  | (.string bytes, d) => bytes.length + uptoBulk d + 1
  | (_, d) => uptoBulk d + 1
 end
def uptoSmall : (H : Type) → List (DataW H) → Bool := fun _ ds => decide (uptoBulkAll ds ≤ 1048576)
def OpenSpec.upto (s : _root_.Go.ChangeSpec) : _root_.Go.OpenSpec := { _root_.Go.OpenSpec.ofChange s with cond := some uptoSmall }

/-- 'meridianlaw14.TableMakes', WHERE WHAT IT READS IS OF BULK AT MOST 1048576: true; the input reads as it did. -/
def tableMakesUptoRow : OpenClaim := { program := "ytekeaphbmkfogaagreatdoor", sum := "90aaf8ad8a1e93de4fd6cd47d6d41c431601da65bb045e7a2372993c32637656", func := "meridian/meridianlaw14.TableMakes", spec := "tableMakes", inPlace := ["internal/bytealg.IndexByteString", "internal/bytealg.IndexString", "internal/bytealg.CountString", "internal/abi.NoEscape", "internal/bytealg.MakeNoZero"], unfollowed := true, recurses := true, named := ["internal/bytealg.MaxLen", "unicode/utf8.first", "unicode/utf8.acceptRanges", "meridian/civil.ahead"], apart := false, laid := [("unicode/utf8.acceptRanges", laid_unicode_utf8_acceptRanges), ("meridian/civil.ahead", laid_meridian_civil_ahead), ("unicode/utf8.first", laid_unicode_utf8_first)], narrowed := true }
def TableMakesUptoSaid : Prop := tableMakesUptoRow.holds Tryz.pinned (OpenSpec.upto tableMakesSpec)

/-- 'meridianlaw14.TableErrs', WHERE WHAT IT READS IS OF BULK AT MOST 1048576: true; the input reads as it did. -/
def tableErrsUptoRow : OpenClaim := { program := "ytekeaphbmkfogaagreatdoor", sum := "90aaf8ad8a1e93de4fd6cd47d6d41c431601da65bb045e7a2372993c32637656", func := "meridian/meridianlaw14.TableErrs", spec := "tableErrs", inPlace := ["internal/bytealg.IndexByteString", "internal/bytealg.IndexString", "internal/bytealg.CountString", "internal/abi.NoEscape", "internal/bytealg.MakeNoZero"], unfollowed := true, recurses := true, named := ["internal/bytealg.MaxLen", "unicode/utf8.first", "unicode/utf8.acceptRanges", "meridian/civil.ahead"], apart := false, laid := [("unicode/utf8.acceptRanges", laid_unicode_utf8_acceptRanges), ("meridian/civil.ahead", laid_meridian_civil_ahead), ("unicode/utf8.first", laid_unicode_utf8_first)], narrowed := true }
def TableErrsUptoSaid : Prop := tableErrsUptoRow.holds Tryz.pinned (OpenSpec.upto tableErrsSpec)

/-- 'meridianlaw14.TableJoins', WHERE WHAT IT READS IS OF BULK AT MOST 1048576: true; the input reads as it did. -/
def tableJoinsUptoRow : OpenClaim := { program := "ytekeaphbmkfogaagreatdoor", sum := "90aaf8ad8a1e93de4fd6cd47d6d41c431601da65bb045e7a2372993c32637656", func := "meridian/meridianlaw14.TableJoins", spec := "tableJoins", inPlace := ["internal/bytealg.IndexByteString", "internal/bytealg.IndexString", "internal/bytealg.CountString", "internal/abi.NoEscape", "internal/bytealg.MakeNoZero"], unfollowed := true, recurses := true, named := ["internal/bytealg.MaxLen", "unicode/utf8.first", "unicode/utf8.acceptRanges", "meridian/civil.ahead"], apart := false, laid := [("unicode/utf8.acceptRanges", laid_unicode_utf8_acceptRanges), ("meridian/civil.ahead", laid_meridian_civil_ahead), ("unicode/utf8.first", laid_unicode_utf8_first)], narrowed := true }
def TableJoinsUptoSaid : Prop := tableJoinsUptoRow.holds Tryz.pinned (OpenSpec.upto tableJoinsSpec)

/-- 'meridianlaw14.TableCuts', WHERE WHAT IT READS IS OF BULK AT MOST 1048576: true; the input reads as it did. -/
def tableCutsUptoRow : OpenClaim := { program := "ytekeaphbmkfogaagreatdoor", sum := "90aaf8ad8a1e93de4fd6cd47d6d41c431601da65bb045e7a2372993c32637656", func := "meridian/meridianlaw14.TableCuts", spec := "tableCuts", inPlace := ["internal/bytealg.IndexByteString", "internal/bytealg.IndexString", "internal/bytealg.CountString", "internal/abi.NoEscape", "internal/bytealg.MakeNoZero"], unfollowed := true, recurses := true, named := ["internal/bytealg.MaxLen", "unicode/utf8.first", "unicode/utf8.acceptRanges", "meridian/civil.ahead"], apart := false, laid := [("unicode/utf8.acceptRanges", laid_unicode_utf8_acceptRanges), ("meridian/civil.ahead", laid_meridian_civil_ahead), ("unicode/utf8.first", laid_unicode_utf8_first)], narrowed := true }
def TableCutsUptoSaid : Prop := tableCutsUptoRow.holds Tryz.pinned (OpenSpec.upto tableCutsSpec)

/-- 'meridianlaw14.TableMerges', WHERE WHAT IT READS IS OF BULK AT MOST 1048576: true; the input reads as it did. -/
def tableMergesUptoRow : OpenClaim := { program := "ytekeaphbmkfogaagreatdoor", sum := "90aaf8ad8a1e93de4fd6cd47d6d41c431601da65bb045e7a2372993c32637656", func := "meridian/meridianlaw14.TableMerges", spec := "tableMerges", inPlace := ["internal/bytealg.IndexByteString", "internal/bytealg.IndexString", "internal/bytealg.CountString", "internal/abi.NoEscape", "internal/bytealg.MakeNoZero"], unfollowed := true, recurses := true, named := ["internal/bytealg.MaxLen", "unicode/utf8.first", "unicode/utf8.acceptRanges", "meridian/civil.ahead"], apart := false, laid := [("unicode/utf8.acceptRanges", laid_unicode_utf8_acceptRanges), ("meridian/civil.ahead", laid_meridian_civil_ahead), ("unicode/utf8.first", laid_unicode_utf8_first)], narrowed := true }
def TableMergesUptoSaid : Prop := tableMergesUptoRow.holds Tryz.pinned (OpenSpec.upto tableMergesSpec)

/-- 'meridianlaw14.TableShows', WHERE WHAT IT READS IS OF BULK AT MOST 1048576: true; the input reads as it did. -/
def tableShowsUptoRow : OpenClaim := { program := "ytekeaphbmkfogaagreatdoor", sum := "90aaf8ad8a1e93de4fd6cd47d6d41c431601da65bb045e7a2372993c32637656", func := "meridian/meridianlaw14.TableShows", spec := "tableShows", inPlace := ["internal/bytealg.IndexByteString", "internal/bytealg.IndexString", "internal/bytealg.CountString", "internal/abi.NoEscape", "internal/bytealg.MakeNoZero"], unfollowed := true, recurses := true, named := ["internal/bytealg.MaxLen", "unicode/utf8.first", "unicode/utf8.acceptRanges", "meridian/civil.ahead"], apart := false, laid := [("unicode/utf8.acceptRanges", laid_unicode_utf8_acceptRanges), ("meridian/civil.ahead", laid_meridian_civil_ahead), ("unicode/utf8.first", laid_unicode_utf8_first)], narrowed := true }
def TableShowsUptoSaid : Prop := tableShowsUptoRow.holds Tryz.pinned (OpenSpec.upto tableShowsSpec)

/-- 'meridianlaw14.TableFinds', WHERE WHAT IT READS IS OF BULK AT MOST 1048576: true; the input reads as it did. -/
def tableFindsUptoRow : OpenClaim := { program := "ytekeaphbmkfogaagreatdoor", sum := "90aaf8ad8a1e93de4fd6cd47d6d41c431601da65bb045e7a2372993c32637656", func := "meridian/meridianlaw14.TableFinds", spec := "tableFinds", inPlace := ["internal/bytealg.IndexByteString", "internal/bytealg.IndexString", "internal/bytealg.CountString", "internal/abi.NoEscape", "internal/bytealg.MakeNoZero"], unfollowed := true, recurses := true, named := ["internal/bytealg.MaxLen", "unicode/utf8.first", "unicode/utf8.acceptRanges", "meridian/civil.ahead"], apart := false, laid := [("unicode/utf8.acceptRanges", laid_unicode_utf8_acceptRanges), ("meridian/civil.ahead", laid_meridian_civil_ahead), ("unicode/utf8.first", laid_unicode_utf8_first)], narrowed := true }
def TableFindsUptoSaid : Prop := tableFindsUptoRow.holds Tryz.pinned (OpenSpec.upto tableFindsSpec)

end Rows
end Go.Proofs.YtekeaphbmkfogaaGreatDoor
