/-
  NARROWER THAN 'FOR EVERY INPUT', by the rows' own cells (each row's printed sentence says how): ZoneShows: laid · ZoneWithin: laid · ZoneShifts: laid · ZoneUnivs: laid · ZoneParts: laid · TableMakes: laid · TableErrs: laid · TableJoins: laid · TableShows: laid · TableFinds: laid.
  DERIVED. THE GIVEN ROWS OF THIS SEAT. 10 by the template 'for every input the law returns true; each argument reads behind the call as it read before'; 0 by the template 'total and deterministic' (their statements: YtonmmgcibpjahaaGreatDoorTotals.lean).
  GIVEN WITH THE SEED: the statements are not yours to turn. If you find one false, say at which input.
  Laid BY PROGRAM, IN A SANDBOX (cutbox-rows.mjs): the forced cells as the released guide's own fill.sh prints them over the translation ab41458c424d7531… (all of the seat's roots in one cut). By AI agents, Wed Nov 11 2026. No macro, syntax, notation, axiom, sorry.
-/
import Derived.Test.YtonmmgcibpjahaaGreatDoorChecked
import GoSem.PinnedTables
import GoSem.Claim
import GoSem.ClaimJoined
import GoSem.ClaimMapViews
import Derived.JoinedTies
import Derived.KernelRfl
namespace Go.Proofs.YtonmmgcibpjahaaGreatDoor
/- THE CELL 'sum', in the pinned program and in every row, IS THE sha256 OF THE DUMP (.gsa) THAT YtonmmgcibpjahaaGreatDoorProg.lean LOADS. Nothing in Lean hashes anything: it is a label: what it is worth is what the hold of that sum in a sandbox is worth. -/
noncomputable def Tryz.pinned : Pinned := { name := "ytonmmgcibpjahaagreatdoor", sum := "ab41458c424d7531a567fad599c18818a1913de34f3310ffbc7bd2e6fefcf12b", checked := Tryz.checked }
namespace Rows
def none {H : Type} : Left H := { results := [], args := [] }

/- WHAT THE LISTED PACKAGE-LEVEL VARIABLES READ AS WHEN THE CALL BEGINS. Each datum BY PROGRAM (the guide's laid-datum.mjs) off the statement by which the dump's own 'gosem.cut.vars' lays the variable. In a bare row this is a premise. The card (YtonmmgcibpjahaaGreatDoorCards.lean) ties it to the program's text. -/
def laid_unicode_utf8_acceptRanges {H : Type} : DataW H := .agg [.agg [.lit (.int .u8 128), .lit (.int .u8 191)], .agg [.lit (.int .u8 160), .lit (.int .u8 191)], .agg [.lit (.int .u8 128), .lit (.int .u8 159)], .agg [.lit (.int .u8 144), .lit (.int .u8 191)], .agg [.lit (.int .u8 128), .lit (.int .u8 143)], .agg [.lit (.int .u8 0), .lit (.int .u8 0)], .agg [.lit (.int .u8 0), .lit (.int .u8 0)], .agg [.lit (.int .u8 0), .lit (.int .u8 0)], .agg [.lit (.int .u8 0), .lit (.int .u8 0)], .agg [.lit (.int .u8 0), .lit (.int .u8 0)], .agg [.lit (.int .u8 0), .lit (.int .u8 0)], .agg [.lit (.int .u8 0), .lit (.int .u8 0)], .agg [.lit (.int .u8 0), .lit (.int .u8 0)], .agg [.lit (.int .u8 0), .lit (.int .u8 0)], .agg [.lit (.int .u8 0), .lit (.int .u8 0)], .agg [.lit (.int .u8 0), .lit (.int .u8 0)]]
def laid_meridian_civil_ahead {H : Type} : DataW H := .agg [.lit (.int .i64 0), .lit (.int .i64 31), .lit (.int .i64 59), .lit (.int .i64 90), .lit (.int .i64 120), .lit (.int .i64 151), .lit (.int .i64 181), .lit (.int .i64 212), .lit (.int .i64 243), .lit (.int .i64 273), .lit (.int .i64 304), .lit (.int .i64 334), .lit (.int .i64 365)]
/-- One of Go's own tables, pinned by name: the form's constant. -/
def laid_unicode_utf8_first : DataW Unit := Go.Pinned.utf8First

/-- 'meridianlaw13.ZoneShows': WHATEVER THE INPUT: true; the input reads as it did. -/
def zoneShowsSpec : ChangeSpec := { name := "zoneShows", fn := fun _ => fun
  | [d1, d2] => { results := [.lit (.bool true)], args := [d1, d2] }
  | _ => none }
def zoneShowsRow : OpenClaim := { program := "ytonmmgcibpjahaagreatdoor", sum := "ab41458c424d7531a567fad599c18818a1913de34f3310ffbc7bd2e6fefcf12b", func := "meridian/meridianlaw13.ZoneShows", spec := "zoneShows", inPlace := ["internal/bytealg.IndexByteString", "internal/bytealg.IndexString", "internal/bytealg.CountString", "internal/abi.NoEscape", "internal/bytealg.MakeNoZero"], unfollowed := true, recurses := true, named := ["internal/bytealg.MaxLen", "unicode/utf8.first", "unicode/utf8.acceptRanges", "meridian/civil.ahead"], apart := false, laid := [("unicode/utf8.acceptRanges", laid_unicode_utf8_acceptRanges), ("meridian/civil.ahead", laid_meridian_civil_ahead), ("unicode/utf8.first", laid_unicode_utf8_first)] }
def ZoneShowsSaid : Prop := zoneShowsRow.holds Tryz.pinned (OpenSpec.ofChange zoneShowsSpec)

/-- ITS FALSE NEIGHBOUR: 'it returns false'. Refute it at one input. -/
def zoneShowsWrong : ChangeSpec := { name := "zoneShows", fn := fun _ => fun
  | [d1, d2] => { results := [.lit (.bool false)], args := [d1, d2] }
  | _ => none }
def ZoneShowsWrongFalsely : Prop := zoneShowsRow.holds Tryz.pinned (OpenSpec.ofChange zoneShowsWrong)

/-- 'meridianlaw13.ZoneWithin': WHATEVER THE INPUT: true; the input reads as it did. -/
def zoneWithinSpec : ChangeSpec := { name := "zoneWithin", fn := fun _ => fun
  | [d1, d2, d3] => { results := [.lit (.bool true)], args := [d1, d2, d3] }
  | _ => none }
def zoneWithinRow : OpenClaim := { program := "ytonmmgcibpjahaagreatdoor", sum := "ab41458c424d7531a567fad599c18818a1913de34f3310ffbc7bd2e6fefcf12b", func := "meridian/meridianlaw13.ZoneWithin", spec := "zoneWithin", inPlace := ["internal/bytealg.IndexByteString", "internal/bytealg.IndexString", "internal/bytealg.CountString", "internal/abi.NoEscape", "internal/bytealg.MakeNoZero"], unfollowed := true, recurses := true, named := ["internal/bytealg.MaxLen", "unicode/utf8.first", "unicode/utf8.acceptRanges", "meridian/civil.ahead"], apart := false, laid := [("unicode/utf8.acceptRanges", laid_unicode_utf8_acceptRanges), ("meridian/civil.ahead", laid_meridian_civil_ahead), ("unicode/utf8.first", laid_unicode_utf8_first)] }
def ZoneWithinSaid : Prop := zoneWithinRow.holds Tryz.pinned (OpenSpec.ofChange zoneWithinSpec)

/-- ITS FALSE NEIGHBOUR: 'it returns false'. Refute it at one input. -/
def zoneWithinWrong : ChangeSpec := { name := "zoneWithin", fn := fun _ => fun
  | [d1, d2, d3] => { results := [.lit (.bool false)], args := [d1, d2, d3] }
  | _ => none }
def ZoneWithinWrongFalsely : Prop := zoneWithinRow.holds Tryz.pinned (OpenSpec.ofChange zoneWithinWrong)

/-- 'meridianlaw13.ZoneShifts': WHATEVER THE INPUT: true; the input reads as it did. -/
def zoneShiftsSpec : ChangeSpec := { name := "zoneShifts", fn := fun _ => fun
  | [d1, d2, d3] => { results := [.lit (.bool true)], args := [d1, d2, d3] }
  | _ => none }
def zoneShiftsRow : OpenClaim := { program := "ytonmmgcibpjahaagreatdoor", sum := "ab41458c424d7531a567fad599c18818a1913de34f3310ffbc7bd2e6fefcf12b", func := "meridian/meridianlaw13.ZoneShifts", spec := "zoneShifts", inPlace := ["internal/bytealg.IndexByteString", "internal/bytealg.IndexString", "internal/bytealg.CountString", "internal/abi.NoEscape", "internal/bytealg.MakeNoZero"], unfollowed := true, recurses := true, named := ["internal/bytealg.MaxLen", "unicode/utf8.first", "unicode/utf8.acceptRanges", "meridian/civil.ahead"], apart := false, laid := [("unicode/utf8.acceptRanges", laid_unicode_utf8_acceptRanges), ("meridian/civil.ahead", laid_meridian_civil_ahead), ("unicode/utf8.first", laid_unicode_utf8_first)] }
def ZoneShiftsSaid : Prop := zoneShiftsRow.holds Tryz.pinned (OpenSpec.ofChange zoneShiftsSpec)

/-- ITS FALSE NEIGHBOUR: 'it returns false'. Refute it at one input. -/
def zoneShiftsWrong : ChangeSpec := { name := "zoneShifts", fn := fun _ => fun
  | [d1, d2, d3] => { results := [.lit (.bool false)], args := [d1, d2, d3] }
  | _ => none }
def ZoneShiftsWrongFalsely : Prop := zoneShiftsRow.holds Tryz.pinned (OpenSpec.ofChange zoneShiftsWrong)

/-- 'meridianlaw13.ZoneUnivs': WHATEVER THE INPUT: true; the input reads as it did. -/
def zoneUnivsSpec : ChangeSpec := { name := "zoneUnivs", fn := fun _ => fun
  | [d1, d2] => { results := [.lit (.bool true)], args := [d1, d2] }
  | _ => none }
def zoneUnivsRow : OpenClaim := { program := "ytonmmgcibpjahaagreatdoor", sum := "ab41458c424d7531a567fad599c18818a1913de34f3310ffbc7bd2e6fefcf12b", func := "meridian/meridianlaw13.ZoneUnivs", spec := "zoneUnivs", inPlace := ["internal/bytealg.IndexByteString", "internal/bytealg.IndexString", "internal/bytealg.CountString", "internal/abi.NoEscape", "internal/bytealg.MakeNoZero"], unfollowed := true, recurses := true, named := ["internal/bytealg.MaxLen", "unicode/utf8.first", "unicode/utf8.acceptRanges", "meridian/civil.ahead"], apart := false, laid := [("unicode/utf8.acceptRanges", laid_unicode_utf8_acceptRanges), ("meridian/civil.ahead", laid_meridian_civil_ahead), ("unicode/utf8.first", laid_unicode_utf8_first)] }
def ZoneUnivsSaid : Prop := zoneUnivsRow.holds Tryz.pinned (OpenSpec.ofChange zoneUnivsSpec)

/-- ITS FALSE NEIGHBOUR: 'it returns false'. Refute it at one input. -/
def zoneUnivsWrong : ChangeSpec := { name := "zoneUnivs", fn := fun _ => fun
  | [d1, d2] => { results := [.lit (.bool false)], args := [d1, d2] }
  | _ => none }
def ZoneUnivsWrongFalsely : Prop := zoneUnivsRow.holds Tryz.pinned (OpenSpec.ofChange zoneUnivsWrong)

/-- 'meridianlaw13.ZoneParts': WHATEVER THE INPUT: true; the input reads as it did. -/
def zonePartsSpec : ChangeSpec := { name := "zoneParts", fn := fun _ => fun
  | [d1, d2, d3] => { results := [.lit (.bool true)], args := [d1, d2, d3] }
  | _ => none }
def zonePartsRow : OpenClaim := { program := "ytonmmgcibpjahaagreatdoor", sum := "ab41458c424d7531a567fad599c18818a1913de34f3310ffbc7bd2e6fefcf12b", func := "meridian/meridianlaw13.ZoneParts", spec := "zoneParts", inPlace := ["internal/bytealg.IndexByteString", "internal/bytealg.IndexString", "internal/bytealg.CountString", "internal/abi.NoEscape", "internal/bytealg.MakeNoZero"], unfollowed := true, recurses := true, named := ["internal/bytealg.MaxLen", "unicode/utf8.first", "unicode/utf8.acceptRanges", "meridian/civil.ahead"], apart := false, laid := [("unicode/utf8.acceptRanges", laid_unicode_utf8_acceptRanges), ("meridian/civil.ahead", laid_meridian_civil_ahead), ("unicode/utf8.first", laid_unicode_utf8_first)] }
def ZonePartsSaid : Prop := zonePartsRow.holds Tryz.pinned (OpenSpec.ofChange zonePartsSpec)

/-- ITS FALSE NEIGHBOUR: 'it returns false'. Refute it at one input. -/
def zonePartsWrong : ChangeSpec := { name := "zoneParts", fn := fun _ => fun
  | [d1, d2, d3] => { results := [.lit (.bool false)], args := [d1, d2, d3] }
  | _ => none }
def ZonePartsWrongFalsely : Prop := zonePartsRow.holds Tryz.pinned (OpenSpec.ofChange zonePartsWrong)

/-- 'meridianlaw14.TableMakes': WHATEVER THE INPUT: true; the input reads as it did. -/
def tableMakesSpec : ChangeSpec := { name := "tableMakes", fn := fun _ => fun
  | [d1, d2] => { results := [.lit (.bool true)], args := [d1, d2] }
  | _ => none }
def tableMakesRow : OpenClaim := { program := "ytonmmgcibpjahaagreatdoor", sum := "ab41458c424d7531a567fad599c18818a1913de34f3310ffbc7bd2e6fefcf12b", func := "meridian/meridianlaw14.TableMakes", spec := "tableMakes", inPlace := ["internal/bytealg.IndexByteString", "internal/bytealg.IndexString", "internal/bytealg.CountString", "internal/abi.NoEscape", "internal/bytealg.MakeNoZero"], unfollowed := true, recurses := true, named := ["internal/bytealg.MaxLen", "unicode/utf8.first", "unicode/utf8.acceptRanges", "meridian/civil.ahead"], apart := false, laid := [("unicode/utf8.acceptRanges", laid_unicode_utf8_acceptRanges), ("meridian/civil.ahead", laid_meridian_civil_ahead), ("unicode/utf8.first", laid_unicode_utf8_first)] }
def TableMakesSaid : Prop := tableMakesRow.holds Tryz.pinned (OpenSpec.ofChange tableMakesSpec)

/-- ITS FALSE NEIGHBOUR: 'it returns false'. Refute it at one input. -/
def tableMakesWrong : ChangeSpec := { name := "tableMakes", fn := fun _ => fun
  | [d1, d2] => { results := [.lit (.bool false)], args := [d1, d2] }
  | _ => none }
def TableMakesWrongFalsely : Prop := tableMakesRow.holds Tryz.pinned (OpenSpec.ofChange tableMakesWrong)

/-- 'meridianlaw14.TableErrs': WHATEVER THE INPUT: true; the input reads as it did. -/
def tableErrsSpec : ChangeSpec := { name := "tableErrs", fn := fun _ => fun
  | [d1, d2] => { results := [.lit (.bool true)], args := [d1, d2] }
  | _ => none }
def tableErrsRow : OpenClaim := { program := "ytonmmgcibpjahaagreatdoor", sum := "ab41458c424d7531a567fad599c18818a1913de34f3310ffbc7bd2e6fefcf12b", func := "meridian/meridianlaw14.TableErrs", spec := "tableErrs", inPlace := ["internal/bytealg.IndexByteString", "internal/bytealg.IndexString", "internal/bytealg.CountString", "internal/abi.NoEscape", "internal/bytealg.MakeNoZero"], unfollowed := true, recurses := true, named := ["internal/bytealg.MaxLen", "unicode/utf8.first", "unicode/utf8.acceptRanges", "meridian/civil.ahead"], apart := false, laid := [("unicode/utf8.acceptRanges", laid_unicode_utf8_acceptRanges), ("meridian/civil.ahead", laid_meridian_civil_ahead), ("unicode/utf8.first", laid_unicode_utf8_first)] }
def TableErrsSaid : Prop := tableErrsRow.holds Tryz.pinned (OpenSpec.ofChange tableErrsSpec)

/-- ITS FALSE NEIGHBOUR: 'it returns false'. Refute it at one input. -/
def tableErrsWrong : ChangeSpec := { name := "tableErrs", fn := fun _ => fun
  | [d1, d2] => { results := [.lit (.bool false)], args := [d1, d2] }
  | _ => none }
def TableErrsWrongFalsely : Prop := tableErrsRow.holds Tryz.pinned (OpenSpec.ofChange tableErrsWrong)

/-- 'meridianlaw14.TableJoins': WHATEVER THE INPUT: true; the input reads as it did. -/
def tableJoinsSpec : ChangeSpec := { name := "tableJoins", fn := fun _ => fun
  | [d1, d2] => { results := [.lit (.bool true)], args := [d1, d2] }
  | _ => none }
def tableJoinsRow : OpenClaim := { program := "ytonmmgcibpjahaagreatdoor", sum := "ab41458c424d7531a567fad599c18818a1913de34f3310ffbc7bd2e6fefcf12b", func := "meridian/meridianlaw14.TableJoins", spec := "tableJoins", inPlace := ["internal/bytealg.IndexByteString", "internal/bytealg.IndexString", "internal/bytealg.CountString", "internal/abi.NoEscape", "internal/bytealg.MakeNoZero"], unfollowed := true, recurses := true, named := ["internal/bytealg.MaxLen", "unicode/utf8.first", "unicode/utf8.acceptRanges", "meridian/civil.ahead"], apart := false, laid := [("unicode/utf8.acceptRanges", laid_unicode_utf8_acceptRanges), ("meridian/civil.ahead", laid_meridian_civil_ahead), ("unicode/utf8.first", laid_unicode_utf8_first)] }
def TableJoinsSaid : Prop := tableJoinsRow.holds Tryz.pinned (OpenSpec.ofChange tableJoinsSpec)

/-- ITS FALSE NEIGHBOUR: 'it returns false'. Refute it at one input. -/
def tableJoinsWrong : ChangeSpec := { name := "tableJoins", fn := fun _ => fun
  | [d1, d2] => { results := [.lit (.bool false)], args := [d1, d2] }
  | _ => none }
def TableJoinsWrongFalsely : Prop := tableJoinsRow.holds Tryz.pinned (OpenSpec.ofChange tableJoinsWrong)

/-- 'meridianlaw14.TableShows': WHATEVER THE INPUT: true; the input reads as it did. -/
def tableShowsSpec : ChangeSpec := { name := "tableShows", fn := fun _ => fun
  | [d1, d2, d3] => { results := [.lit (.bool true)], args := [d1, d2, d3] }
  | _ => none }
def tableShowsRow : OpenClaim := { program := "ytonmmgcibpjahaagreatdoor", sum := "ab41458c424d7531a567fad599c18818a1913de34f3310ffbc7bd2e6fefcf12b", func := "meridian/meridianlaw14.TableShows", spec := "tableShows", inPlace := ["internal/bytealg.IndexByteString", "internal/bytealg.IndexString", "internal/bytealg.CountString", "internal/abi.NoEscape", "internal/bytealg.MakeNoZero"], unfollowed := true, recurses := true, named := ["internal/bytealg.MaxLen", "unicode/utf8.first", "unicode/utf8.acceptRanges", "meridian/civil.ahead"], apart := false, laid := [("unicode/utf8.acceptRanges", laid_unicode_utf8_acceptRanges), ("meridian/civil.ahead", laid_meridian_civil_ahead), ("unicode/utf8.first", laid_unicode_utf8_first)] }
def TableShowsSaid : Prop := tableShowsRow.holds Tryz.pinned (OpenSpec.ofChange tableShowsSpec)

/-- ITS FALSE NEIGHBOUR: 'it returns false'. Refute it at one input. -/
def tableShowsWrong : ChangeSpec := { name := "tableShows", fn := fun _ => fun
  | [d1, d2, d3] => { results := [.lit (.bool false)], args := [d1, d2, d3] }
  | _ => none }
def TableShowsWrongFalsely : Prop := tableShowsRow.holds Tryz.pinned (OpenSpec.ofChange tableShowsWrong)

/-- 'meridianlaw14.TableFinds': WHATEVER THE INPUT: true; the input reads as it did. -/
def tableFindsSpec : ChangeSpec := { name := "tableFinds", fn := fun _ => fun
  | [d1, d2] => { results := [.lit (.bool true)], args := [d1, d2] }
  | _ => none }
def tableFindsRow : OpenClaim := { program := "ytonmmgcibpjahaagreatdoor", sum := "ab41458c424d7531a567fad599c18818a1913de34f3310ffbc7bd2e6fefcf12b", func := "meridian/meridianlaw14.TableFinds", spec := "tableFinds", inPlace := ["internal/bytealg.IndexByteString", "internal/bytealg.IndexString", "internal/bytealg.CountString", "internal/abi.NoEscape", "internal/bytealg.MakeNoZero"], unfollowed := true, recurses := true, named := ["internal/bytealg.MaxLen", "unicode/utf8.first", "unicode/utf8.acceptRanges", "meridian/civil.ahead"], apart := false, laid := [("unicode/utf8.acceptRanges", laid_unicode_utf8_acceptRanges), ("meridian/civil.ahead", laid_meridian_civil_ahead), ("unicode/utf8.first", laid_unicode_utf8_first)] }
def TableFindsSaid : Prop := tableFindsRow.holds Tryz.pinned (OpenSpec.ofChange tableFindsSpec)

/-- ITS FALSE NEIGHBOUR: 'it returns false'. Refute it at one input. -/
def tableFindsWrong : ChangeSpec := { name := "tableFinds", fn := fun _ => fun
  | [d1, d2] => { results := [.lit (.bool false)], args := [d1, d2] }
  | _ => none }
def TableFindsWrongFalsely : Prop := tableFindsRow.holds Tryz.pinned (OpenSpec.ofChange tableFindsWrong)

/- THE SECOND FORM. 'bulk': how many values and letters a reading holds, each counted each time it is reached (what is shared counts as often as it is met; a slice's spare places count too). A statement '..UptoSaid' is the law's where the arguments, and the package variables that the reading takes, are together of bulk at most 1048576: NARROWER than '..Said'. Prove '..Said' where nothing that the law and all that it calls make is longer than what came in: it says more and counts as full. Else prove '..UptoSaid'. A law counts once. -/
mutual
def uptoBulk {H : Type} : DataW H → Nat
  | .lit (.string bytes) => bytes.length + 1
  | .lit _ => 1
  | .nil => 1
  | .ptr d => uptoBulk d + 1
  | .slice elems spare => uptoBulkAll elems + uptoBulkAll spare + 1
  | .agg parts => uptoBulkAll parts + 1
  | .iface _ d => uptoBulk d + 1
  | .map entries => uptoBulkEntries entries + 1
  | .held _ => 1
def uptoBulkAll {H : Type} : List (DataW H) → Nat
  | [] => 0
  | d :: r => uptoBulk d + uptoBulkAll r
def uptoBulkEntries {H : Type} : List (Lit × DataW H) → Nat
  | [] => 0
  | x :: r => uptoBulkEntry x + uptoBulkEntries r
def uptoBulkEntry {H : Type} : Lit × DataW H → Nat
  | (.string bytes, d) => bytes.length + uptoBulk d + 1
  | (_, d) => uptoBulk d + 1
 end
def uptoSmall : (H : Type) → List (DataW H) → Bool := fun _ ds => decide (uptoBulkAll ds ≤ 1048576)
def OpenSpec.upto (s : _root_.Go.ChangeSpec) : _root_.Go.OpenSpec := { _root_.Go.OpenSpec.ofChange s with cond := some uptoSmall }

/-- 'meridianlaw13.ZoneShows', WHERE WHAT IT READS IS OF BULK AT MOST 1048576: true; the input reads as it did. -/
def zoneShowsUptoRow : OpenClaim := { program := "ytonmmgcibpjahaagreatdoor", sum := "ab41458c424d7531a567fad599c18818a1913de34f3310ffbc7bd2e6fefcf12b", func := "meridian/meridianlaw13.ZoneShows", spec := "zoneShows", inPlace := ["internal/bytealg.IndexByteString", "internal/bytealg.IndexString", "internal/bytealg.CountString", "internal/abi.NoEscape", "internal/bytealg.MakeNoZero"], unfollowed := true, recurses := true, named := ["internal/bytealg.MaxLen", "unicode/utf8.first", "unicode/utf8.acceptRanges", "meridian/civil.ahead"], apart := false, laid := [("unicode/utf8.acceptRanges", laid_unicode_utf8_acceptRanges), ("meridian/civil.ahead", laid_meridian_civil_ahead), ("unicode/utf8.first", laid_unicode_utf8_first)], narrowed := true }
def ZoneShowsUptoSaid : Prop := zoneShowsUptoRow.holds Tryz.pinned (OpenSpec.upto zoneShowsSpec)

/-- 'meridianlaw13.ZoneWithin', WHERE WHAT IT READS IS OF BULK AT MOST 1048576: true; the input reads as it did. -/
def zoneWithinUptoRow : OpenClaim := { program := "ytonmmgcibpjahaagreatdoor", sum := "ab41458c424d7531a567fad599c18818a1913de34f3310ffbc7bd2e6fefcf12b", func := "meridian/meridianlaw13.ZoneWithin", spec := "zoneWithin", inPlace := ["internal/bytealg.IndexByteString", "internal/bytealg.IndexString", "internal/bytealg.CountString", "internal/abi.NoEscape", "internal/bytealg.MakeNoZero"], unfollowed := true, recurses := true, named := ["internal/bytealg.MaxLen", "unicode/utf8.first", "unicode/utf8.acceptRanges", "meridian/civil.ahead"], apart := false, laid := [("unicode/utf8.acceptRanges", laid_unicode_utf8_acceptRanges), ("meridian/civil.ahead", laid_meridian_civil_ahead), ("unicode/utf8.first", laid_unicode_utf8_first)], narrowed := true }
def ZoneWithinUptoSaid : Prop := zoneWithinUptoRow.holds Tryz.pinned (OpenSpec.upto zoneWithinSpec)

/-- 'meridianlaw13.ZoneShifts', WHERE WHAT IT READS IS OF BULK AT MOST 1048576: true; the input reads as it did. -/
def zoneShiftsUptoRow : OpenClaim := { program := "ytonmmgcibpjahaagreatdoor", sum := "ab41458c424d7531a567fad599c18818a1913de34f3310ffbc7bd2e6fefcf12b", func := "meridian/meridianlaw13.ZoneShifts", spec := "zoneShifts", inPlace := ["internal/bytealg.IndexByteString", "internal/bytealg.IndexString", "internal/bytealg.CountString", "internal/abi.NoEscape", "internal/bytealg.MakeNoZero"], unfollowed := true, recurses := true, named := ["internal/bytealg.MaxLen", "unicode/utf8.first", "unicode/utf8.acceptRanges", "meridian/civil.ahead"], apart := false, laid := [("unicode/utf8.acceptRanges", laid_unicode_utf8_acceptRanges), ("meridian/civil.ahead", laid_meridian_civil_ahead), ("unicode/utf8.first", laid_unicode_utf8_first)], narrowed := true }
def ZoneShiftsUptoSaid : Prop := zoneShiftsUptoRow.holds Tryz.pinned (OpenSpec.upto zoneShiftsSpec)

/-- 'meridianlaw13.ZoneUnivs', WHERE WHAT IT READS IS OF BULK AT MOST 1048576: true; the input reads as it did. -/
def zoneUnivsUptoRow : OpenClaim := { program := "ytonmmgcibpjahaagreatdoor", sum := "ab41458c424d7531a567fad599c18818a1913de34f3310ffbc7bd2e6fefcf12b", func := "meridian/meridianlaw13.ZoneUnivs", spec := "zoneUnivs", inPlace := ["internal/bytealg.IndexByteString", "internal/bytealg.IndexString", "internal/bytealg.CountString", "internal/abi.NoEscape", "internal/bytealg.MakeNoZero"], unfollowed := true, recurses := true, named := ["internal/bytealg.MaxLen", "unicode/utf8.first", "unicode/utf8.acceptRanges", "meridian/civil.ahead"], apart := false, laid := [("unicode/utf8.acceptRanges", laid_unicode_utf8_acceptRanges), ("meridian/civil.ahead", laid_meridian_civil_ahead), ("unicode/utf8.first", laid_unicode_utf8_first)], narrowed := true }
def ZoneUnivsUptoSaid : Prop := zoneUnivsUptoRow.holds Tryz.pinned (OpenSpec.upto zoneUnivsSpec)

/-- 'meridianlaw13.ZoneParts', WHERE WHAT IT READS IS OF BULK AT MOST 1048576: true; the input reads as it did. -/
def zonePartsUptoRow : OpenClaim := { program := "ytonmmgcibpjahaagreatdoor", sum := "ab41458c424d7531a567fad599c18818a1913de34f3310ffbc7bd2e6fefcf12b", func := "meridian/meridianlaw13.ZoneParts", spec := "zoneParts", inPlace := ["internal/bytealg.IndexByteString", "internal/bytealg.IndexString", "internal/bytealg.CountString", "internal/abi.NoEscape", "internal/bytealg.MakeNoZero"], unfollowed := true, recurses := true, named := ["internal/bytealg.MaxLen", "unicode/utf8.first", "unicode/utf8.acceptRanges", "meridian/civil.ahead"], apart := false, laid := [("unicode/utf8.acceptRanges", laid_unicode_utf8_acceptRanges), ("meridian/civil.ahead", laid_meridian_civil_ahead), ("unicode/utf8.first", laid_unicode_utf8_first)], narrowed := true }
def ZonePartsUptoSaid : Prop := zonePartsUptoRow.holds Tryz.pinned (OpenSpec.upto zonePartsSpec)

/-- 'meridianlaw14.TableMakes', WHERE WHAT IT READS IS OF BULK AT MOST 1048576: true; the input reads as it did. -/
def tableMakesUptoRow : OpenClaim := { program := "ytonmmgcibpjahaagreatdoor", sum := "ab41458c424d7531a567fad599c18818a1913de34f3310ffbc7bd2e6fefcf12b", func := "meridian/meridianlaw14.TableMakes", spec := "tableMakes", inPlace := ["internal/bytealg.IndexByteString", "internal/bytealg.IndexString", "internal/bytealg.CountString", "internal/abi.NoEscape", "internal/bytealg.MakeNoZero"], unfollowed := true, recurses := true, named := ["internal/bytealg.MaxLen", "unicode/utf8.first", "unicode/utf8.acceptRanges", "meridian/civil.ahead"], apart := false, laid := [("unicode/utf8.acceptRanges", laid_unicode_utf8_acceptRanges), ("meridian/civil.ahead", laid_meridian_civil_ahead), ("unicode/utf8.first", laid_unicode_utf8_first)], narrowed := true }
def TableMakesUptoSaid : Prop := tableMakesUptoRow.holds Tryz.pinned (OpenSpec.upto tableMakesSpec)

/-- 'meridianlaw14.TableErrs', WHERE WHAT IT READS IS OF BULK AT MOST 1048576: true; the input reads as it did. -/
def tableErrsUptoRow : OpenClaim := { program := "ytonmmgcibpjahaagreatdoor", sum := "ab41458c424d7531a567fad599c18818a1913de34f3310ffbc7bd2e6fefcf12b", func := "meridian/meridianlaw14.TableErrs", spec := "tableErrs", inPlace := ["internal/bytealg.IndexByteString", "internal/bytealg.IndexString", "internal/bytealg.CountString", "internal/abi.NoEscape", "internal/bytealg.MakeNoZero"], unfollowed := true, recurses := true, named := ["internal/bytealg.MaxLen", "unicode/utf8.first", "unicode/utf8.acceptRanges", "meridian/civil.ahead"], apart := false, laid := [("unicode/utf8.acceptRanges", laid_unicode_utf8_acceptRanges), ("meridian/civil.ahead", laid_meridian_civil_ahead), ("unicode/utf8.first", laid_unicode_utf8_first)], narrowed := true }
def TableErrsUptoSaid : Prop := tableErrsUptoRow.holds Tryz.pinned (OpenSpec.upto tableErrsSpec)

/-- 'meridianlaw14.TableJoins', WHERE WHAT IT READS IS OF BULK AT MOST 1048576: true; the input reads as it did. -/
def tableJoinsUptoRow : OpenClaim := { program := "ytonmmgcibpjahaagreatdoor", sum := "ab41458c424d7531a567fad599c18818a1913de34f3310ffbc7bd2e6fefcf12b", func := "meridian/meridianlaw14.TableJoins", spec := "tableJoins", inPlace := ["internal/bytealg.IndexByteString", "internal/bytealg.IndexString", "internal/bytealg.CountString", "internal/abi.NoEscape", "internal/bytealg.MakeNoZero"], unfollowed := true, recurses := true, named := ["internal/bytealg.MaxLen", "unicode/utf8.first", "unicode/utf8.acceptRanges", "meridian/civil.ahead"], apart := false, laid := [("unicode/utf8.acceptRanges", laid_unicode_utf8_acceptRanges), ("meridian/civil.ahead", laid_meridian_civil_ahead), ("unicode/utf8.first", laid_unicode_utf8_first)], narrowed := true }
def TableJoinsUptoSaid : Prop := tableJoinsUptoRow.holds Tryz.pinned (OpenSpec.upto tableJoinsSpec)

/-- 'meridianlaw14.TableShows', WHERE WHAT IT READS IS OF BULK AT MOST 1048576: true; the input reads as it did. -/
def tableShowsUptoRow : OpenClaim := { program := "ytonmmgcibpjahaagreatdoor", sum := "ab41458c424d7531a567fad599c18818a1913de34f3310ffbc7bd2e6fefcf12b", func := "meridian/meridianlaw14.TableShows", spec := "tableShows", inPlace := ["internal/bytealg.IndexByteString", "internal/bytealg.IndexString", "internal/bytealg.CountString", "internal/abi.NoEscape", "internal/bytealg.MakeNoZero"], unfollowed := true, recurses := true, named := ["internal/bytealg.MaxLen", "unicode/utf8.first", "unicode/utf8.acceptRanges", "meridian/civil.ahead"], apart := false, laid := [("unicode/utf8.acceptRanges", laid_unicode_utf8_acceptRanges), ("meridian/civil.ahead", laid_meridian_civil_ahead), ("unicode/utf8.first", laid_unicode_utf8_first)], narrowed := true }
def TableShowsUptoSaid : Prop := tableShowsUptoRow.holds Tryz.pinned (OpenSpec.upto tableShowsSpec)

/-- 'meridianlaw14.TableFinds', WHERE WHAT IT READS IS OF BULK AT MOST 1048576: true; the input reads as it did. -/
def tableFindsUptoRow : OpenClaim := { program := "ytonmmgcibpjahaagreatdoor", sum := "ab41458c424d7531a567fad599c18818a1913de34f3310ffbc7bd2e6fefcf12b", func := "meridian/meridianlaw14.TableFinds", spec := "tableFinds", inPlace := ["internal/bytealg.IndexByteString", "internal/bytealg.IndexString", "internal/bytealg.CountString", "internal/abi.NoEscape", "internal/bytealg.MakeNoZero"], unfollowed := true, recurses := true, named := ["internal/bytealg.MaxLen", "unicode/utf8.first", "unicode/utf8.acceptRanges", "meridian/civil.ahead"], apart := false, laid := [("unicode/utf8.acceptRanges", laid_unicode_utf8_acceptRanges), ("meridian/civil.ahead", laid_meridian_civil_ahead), ("unicode/utf8.first", laid_unicode_utf8_first)], narrowed := true }
def TableFindsUptoSaid : Prop := tableFindsUptoRow.holds Tryz.pinned (OpenSpec.upto tableFindsSpec)

end Rows
end Go.Proofs.YtonmmgcibpjahaaGreatDoor
