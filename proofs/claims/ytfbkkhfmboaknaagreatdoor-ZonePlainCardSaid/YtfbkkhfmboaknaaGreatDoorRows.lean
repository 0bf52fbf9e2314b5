/-
  NARROWER THAN 'FOR EVERY INPUT', by the rows' own cells (each row's printed sentence says how): ZoneShows: laid · ZoneWithin: laid · ZonePlain: laid · ZoneShifts: laid · ZoneUnivs: laid · ZoneParts: laid.
  DERIVED. THE GIVEN ROWS OF THIS SEAT. 6 by the template 'for every input the law returns true; each argument reads behind the call as it read before'; 0 by the template 'total and deterministic' (their statements: YtfbkkhfmboaknaaGreatDoorTotals.lean).
  GIVEN WITH THE SEED: the statements are not yours to turn. If you find one false, say at which input.
  Laid BY PROGRAM, IN A SANDBOX (cutbox-rows.mjs): the forced cells as the released guide's own fill.sh prints them over the translation dbda4d134143c85b… (all of the seat's roots in one cut). By AI agents, Wed Nov 11 2026. No macro, syntax, notation, axiom, sorry.
-/
import Derived.Test.YtfbkkhfmboaknaaGreatDoorChecked
import GoSem.PinnedTables
import GoSem.Claim
import GoSem.ClaimJoined
import GoSem.ClaimMapViews
import Derived.JoinedTies
import Derived.KernelRfl
namespace Go.Proofs.YtfbkkhfmboaknaaGreatDoor
/- THE CELL 'sum', in the pinned program and in every row, IS THE sha256 OF THE DUMP (.gsa) THAT YtfbkkhfmboaknaaGreatDoorProg.lean LOADS. Nothing in Lean hashes anything: it is a label: what it is worth is what the hold of that sum in a sandbox is worth. -/
noncomputable def Tryz.pinned : Pinned := { name := "ytfbkkhfmboaknaagreatdoor", sum := "dbda4d134143c85b62ce1ee9dbdc05f195b964d04cf9072407903f05e142dd6e", checked := Tryz.checked }
namespace Rows
def none {H : Type} : Left H := { results := [], args := [] }

/- WHAT THE LISTED PACKAGE-LEVEL VARIABLES READ AS WHEN THE CALL BEGINS. Each datum BY PROGRAM (the guide's laid-datum.mjs) off the statement by which the dump's own 'gosem.cut.vars' lays the variable. In a bare row this is a premise. The card (YtfbkkhfmboaknaaGreatDoorCards.lean) ties it to the program's text. -/
def laid_unicode_utf8_acceptRanges {H : Type} : DataW H := .agg [.agg [.lit (.int .u8 128), .lit (.int .u8 191)], .agg [.lit (.int .u8 160), .lit (.int .u8 191)], .agg [.lit (.int .u8 128), .lit (.int .u8 159)], .agg [.lit (.int .u8 144), .lit (.int .u8 191)], .agg [.lit (.int .u8 128), .lit (.int .u8 143)], .agg [.lit (.int .u8 0), .lit (.int .u8 0)], .agg [.lit (.int .u8 0), .lit (.int .u8 0)], .agg [.lit (.int .u8 0), .lit (.int .u8 0)], .agg [.lit (.int .u8 0), .lit (.int .u8 0)], .agg [.lit (.int .u8 0), .lit (.int .u8 0)], .agg [.lit (.int .u8 0), .lit (.int .u8 0)], .agg [.lit (.int .u8 0), .lit (.int .u8 0)], .agg [.lit (.int .u8 0), .lit (.int .u8 0)], .agg [.lit (.int .u8 0), .lit (.int .u8 0)], .agg [.lit (.int .u8 0), .lit (.int .u8 0)], .agg [.lit (.int .u8 0), .lit (.int .u8 0)]]
def laid_meridian_civil_ahead {H : Type} : DataW H := .agg [.lit (.int .i64 0), .lit (.int .i64 31), .lit (.int .i64 59), .lit (.int .i64 90), .lit (.int .i64 120), .lit (.int .i64 151), .lit (.int .i64 181), .lit (.int .i64 212), .lit (.int .i64 243), .lit (.int .i64 273), .lit (.int .i64 304), .lit (.int .i64 334), .lit (.int .i64 365)]
/-- One of Go's own tables, pinned by name: the form's constant. -/
def laid_unicode_utf8_first : DataW Unit := Go.Pinned.utf8First

/-- 'meridianlaw13.ZoneShows': WHATEVER THE INPUT: true; the input reads as it did. -/
def zoneShowsSpec : ChangeSpec := { name := "zoneShows", fn := fun _ => fun
  | [d1, d2] => { results := [.lit (.bool true)], args := [d1, d2] }
  | _ => none }
def zoneShowsRow : OpenClaim := { program := "ytfbkkhfmboaknaagreatdoor", sum := "dbda4d134143c85b62ce1ee9dbdc05f195b964d04cf9072407903f05e142dd6e", func := "meridian/meridianlaw13.ZoneShows", spec := "zoneShows", inPlace := ["internal/bytealg.IndexByteString", "internal/bytealg.IndexString", "internal/bytealg.CountString", "internal/abi.NoEscape", "internal/bytealg.MakeNoZero"], unfollowed := true, recurses := true, named := ["internal/bytealg.MaxLen", "unicode/utf8.first", "unicode/utf8.acceptRanges", "meridian/civil.ahead"], apart := false, laid := [("unicode/utf8.acceptRanges", laid_unicode_utf8_acceptRanges), ("meridian/civil.ahead", laid_meridian_civil_ahead), ("unicode/utf8.first", laid_unicode_utf8_first)] }
def ZoneShowsSaid : Prop := zoneShowsRow.holds Tryz.pinned (OpenSpec.ofChange zoneShowsSpec)

/-- ITS FALSE NEIGHBOUR: 'it returns false'. Refute it at one input. -/
def zoneShowsWrong : ChangeSpec := { name := "zoneShows", fn := fun _ => fun
  | [d1, d2] => { results := [.lit (.bool false)], args := [d1, d2] }
  | _ => none }
def ZoneShowsWrongFalsely : Prop := zoneShowsRow.holds Tryz.pinned (OpenSpec.ofChange zoneShowsWrong)

/-- 'meridianlaw13.ZoneWithin': WHATEVER THE INPUT: true; the input reads as it did. -/
def zoneWithinSpec : ChangeSpec := { name := "zoneWithin", fn := fun _ => fun
  | [d1, d2, d3] => { results := [.lit (.bool true)], args := [d1, d2, d3] }
  | _ => none }
def zoneWithinRow : OpenClaim := { program := "ytfbkkhfmboaknaagreatdoor", sum := "dbda4d134143c85b62ce1ee9dbdc05f195b964d04cf9072407903f05e142dd6e", func := "meridian/meridianlaw13.ZoneWithin", spec := "zoneWithin", inPlace := ["internal/bytealg.IndexByteString", "internal/bytealg.IndexString", "internal/bytealg.CountString", "internal/abi.NoEscape", "internal/bytealg.MakeNoZero"], unfollowed := true, recurses := true, named := ["internal/bytealg.MaxLen", "unicode/utf8.first", "unicode/utf8.acceptRanges", "meridian/civil.ahead"], apart := false, laid := [("unicode/utf8.acceptRanges", laid_unicode_utf8_acceptRanges), ("meridian/civil.ahead", laid_meridian_civil_ahead), ("unicode/utf8.first", laid_unicode_utf8_first)] }
def ZoneWithinSaid : Prop := zoneWithinRow.holds Tryz.pinned (OpenSpec.ofChange zoneWithinSpec)

/-- ITS FALSE NEIGHBOUR: 'it returns false'. Refute it at one input. -/
def zoneWithinWrong : ChangeSpec := { name := "zoneWithin", fn := fun _ => fun
  | [d1, d2, d3] => { results := [.lit (.bool false)], args := [d1, d2, d3] }
  | _ => none }
def ZoneWithinWrongFalsely : Prop := zoneWithinRow.holds Tryz.pinned (OpenSpec.ofChange zoneWithinWrong)

/-- 'meridianlaw13.ZonePlain': WHATEVER THE INPUT: true; the input reads as it did. -/
def zonePlainSpec : ChangeSpec := { name := "zonePlain", fn := fun _ => fun
  | [d1, d2] => { results := [.lit (.bool true)], args := [d1, d2] }
  | _ => none }
def zonePlainRow : OpenClaim := { program := "ytfbkkhfmboaknaagreatdoor", sum := "dbda4d134143c85b62ce1ee9dbdc05f195b964d04cf9072407903f05e142dd6e", func := "meridian/meridianlaw13.ZonePlain", spec := "zonePlain", inPlace := ["internal/bytealg.IndexByteString", "internal/bytealg.IndexString", "internal/bytealg.CountString", "internal/abi.NoEscape", "internal/bytealg.MakeNoZero"], unfollowed := true, recurses := true, named := ["internal/bytealg.MaxLen", "unicode/utf8.first", "unicode/utf8.acceptRanges", "meridian/civil.ahead"], apart := false, laid := [("unicode/utf8.acceptRanges", laid_unicode_utf8_acceptRanges), ("meridian/civil.ahead", laid_meridian_civil_ahead), ("unicode/utf8.first", laid_unicode_utf8_first)] }
def ZonePlainSaid : Prop := zonePlainRow.holds Tryz.pinned (OpenSpec.ofChange zonePlainSpec)

/-- ITS FALSE NEIGHBOUR: 'it returns false'. Refute it at one input. -/
def zonePlainWrong : ChangeSpec := { name := "zonePlain", fn := fun _ => fun
  | [d1, d2] => { results := [.lit (.bool false)], args := [d1, d2] }
  | _ => none }
def ZonePlainWrongFalsely : Prop := zonePlainRow.holds Tryz.pinned (OpenSpec.ofChange zonePlainWrong)

/-- 'meridianlaw13.ZoneShifts': WHATEVER THE INPUT: true; the input reads as it did. -/
def zoneShiftsSpec : ChangeSpec := { name := "zoneShifts", fn := fun _ => fun
  | [d1, d2, d3] => { results := [.lit (.bool true)], args := [d1, d2, d3] }
  | _ => none }
def zoneShiftsRow : OpenClaim := { program := "ytfbkkhfmboaknaagreatdoor", sum := "dbda4d134143c85b62ce1ee9dbdc05f195b964d04cf9072407903f05e142dd6e", func := "meridian/meridianlaw13.ZoneShifts", spec := "zoneShifts", inPlace := ["internal/bytealg.IndexByteString", "internal/bytealg.IndexString", "internal/bytealg.CountString", "internal/abi.NoEscape", "internal/bytealg.MakeNoZero"], unfollowed := true, recurses := true, named := ["internal/bytealg.MaxLen", "unicode/utf8.first", "unicode/utf8.acceptRanges", "meridian/civil.ahead"], apart := false, laid := [("unicode/utf8.acceptRanges", laid_unicode_utf8_acceptRanges), ("meridian/civil.ahead", laid_meridian_civil_ahead), ("unicode/utf8.first", laid_unicode_utf8_first)] }
def ZoneShiftsSaid : Prop := zoneShiftsRow.holds Tryz.pinned (OpenSpec.ofChange zoneShiftsSpec)

/-- ITS FALSE NEIGHBOUR: 'it returns false'. Refute it at one input. -/
def zoneShiftsWrong : ChangeSpec := { name := "zoneShifts", fn := fun _ => fun
  | [d1, d2, d3] => { results := [.lit (.bool false)], args := [d1, d2, d3] }
  | _ => none }
def ZoneShiftsWrongFalsely : Prop := zoneShiftsRow.holds Tryz.pinned (OpenSpec.ofChange zoneShiftsWrong)

/-- 'meridianlaw13.ZoneUnivs': WHATEVER THE INPUT: true; the input reads as it did. -/
def zoneUnivsSpec : ChangeSpec := { name := "zoneUnivs", fn := fun _ => fun
  | [d1, d2] => { results := [.lit (.bool true)], args := [d1, d2] }
  | _ => none }
def zoneUnivsRow : OpenClaim := { program := "ytfbkkhfmboaknaagreatdoor", sum := "dbda4d134143c85b62ce1ee9dbdc05f195b964d04cf9072407903f05e142dd6e", func := "meridian/meridianlaw13.ZoneUnivs", spec := "zoneUnivs", inPlace := ["internal/bytealg.IndexByteString", "internal/bytealg.IndexString", "internal/bytealg.CountString", "internal/abi.NoEscape", "internal/bytealg.MakeNoZero"], unfollowed := true, recurses := true, named := ["internal/bytealg.MaxLen", "unicode/utf8.first", "unicode/utf8.acceptRanges", "meridian/civil.ahead"], apart := false, laid := [("unicode/utf8.acceptRanges", laid_unicode_utf8_acceptRanges), ("meridian/civil.ahead", laid_meridian_civil_ahead), ("unicode/utf8.first", laid_unicode_utf8_first)] }
def ZoneUnivsSaid : Prop := zoneUnivsRow.holds Tryz.pinned (OpenSpec.ofChange zoneUnivsSpec)

/-- ITS FALSE NEIGHBOUR: 'it returns false'. Refute it at one input. -/
def zoneUnivsWrong : ChangeSpec := { name := "zoneUnivs", fn := fun _ => fun
  | [d1, d2] => { results := [.lit (.bool false)], args := [d1, d2] }
  | _ => none }
def ZoneUnivsWrongFalsely : Prop := zoneUnivsRow.holds Tryz.pinned (OpenSpec.ofChange zoneUnivsWrong)

/-- 'meridianlaw13.ZoneParts': WHATEVER THE INPUT: true; the input reads as it did. -/
def zonePartsSpec : ChangeSpec := { name := "zoneParts", fn := fun _ => fun
  | [d1, d2, d3] => { results := [.lit (.bool true)], args := [d1, d2, d3] }
  | _ => none }
def zonePartsRow : OpenClaim := { program := "ytfbkkhfmboaknaagreatdoor", sum := "dbda4d134143c85b62ce1ee9dbdc05f195b964d04cf9072407903f05e142dd6e", func := "meridian/meridianlaw13.ZoneParts", spec := "zoneParts", inPlace := ["internal/bytealg.IndexByteString", "internal/bytealg.IndexString", "internal/bytealg.CountString", "internal/abi.NoEscape", "internal/bytealg.MakeNoZero"], unfollowed := true, recurses := true, named := ["internal/bytealg.MaxLen", "unicode/utf8.first", "unicode/utf8.acceptRanges", "meridian/civil.ahead"], apart := false, laid := [("unicode/utf8.acceptRanges", laid_unicode_utf8_acceptRanges), ("meridian/civil.ahead", laid_meridian_civil_ahead), ("unicode/utf8.first", laid_unicode_utf8_first)] }
def ZonePartsSaid : Prop := zonePartsRow.holds Tryz.pinned (OpenSpec.ofChange zonePartsSpec)

/-- ITS FALSE NEIGHBOUR: 'it returns false'. Refute it at one input. -/
def zonePartsWrong : ChangeSpec := { name := "zoneParts", fn := fun _ => fun
  | [d1, d2, d3] => { results := [.lit (.bool false)], args := [d1, d2, d3] }
  | _ => none }
def ZonePartsWrongFalsely : Prop := zonePartsRow.holds Tryz.pinned (OpenSpec.ofChange zonePartsWrong)

/- THE SECOND FORM. 'bulk': how many values and letters a reading holds, each counted each time it is reached (what is shared counts as often as it is met; a slice's spare places count too). A statement '..UptoSaid' is the law's where the arguments, and the package variables that the reading takes, are together of bulk at most 1048576: NARROWER than '..Said'. Prove '..Said' where nothing that the law and all that it calls make is longer than what came in: it says more and counts as full. Else prove '..UptoSaid'. A law counts once. -/
mutual
def uptoBulk {H : Type} : DataW H → Nat
  | .lit (.string bytes) => bytes.length + 1
  | .lit _ => 1
  | .nil => 1
  | .ptr d => uptoBulk d + 1
  | .slice elems spare => uptoBulkAll elems + uptoBulkAll spare + 1
  | .agg parts => uptoBulkAll parts + 1
  | .iface _ d => uptoBulk d + 1
  | .map entries => uptoBulkEntries entries + 1
  | .held _ => 1
def uptoBulkAll {H : Type} : List (DataW H) → Nat
  | [] => 0
  | d :: r => uptoBulk d + uptoBulkAll r
def uptoBulkEntries {H : Type} : List (Lit × DataW H) → Nat
  | [] => 0
  | x :: r => uptoBulkEntry x + uptoBulkEntries r
def uptoBulkEntry {H : Type} : Lit × DataW H → Nat
  | (.string bytes, d) => bytes.length + uptoBulk d + 1
  | (_, d) => uptoBulk d + 1
 end
def uptoSmall : (H : Type) → List (DataW H) → Bool := fun _ ds => decide (uptoBulkAll ds ≤ 1048576)
def OpenSpec.upto (s : _root_.Go.ChangeSpec) : _root_.Go.OpenSpec := { _root_.Go.OpenSpec.ofChange s with cond := some uptoSmall }

/-- 'meridianlaw13.ZoneShows', WHERE WHAT IT READS IS OF BULK AT MOST 1048576: true; the input reads as it did. -/
def zoneShowsUptoRow : OpenClaim := { program := "ytfbkkhfmboaknaagreatdoor", sum := "dbda4d134143c85b62ce1ee9dbdc05f195b964d04cf9072407903f05e142dd6e", func := "meridian/meridianlaw13.ZoneShows", spec := "zoneShows", inPlace := ["internal/bytealg.IndexByteString", "internal/bytealg.IndexString", "internal/bytealg.CountString", "internal/abi.NoEscape", "internal/bytealg.MakeNoZero"], unfollowed := true, recurses := true, named := ["internal/bytealg.MaxLen", "unicode/utf8.first", "unicode/utf8.acceptRanges", "meridian/civil.ahead"], apart := false, laid := [("unicode/utf8.acceptRanges", laid_unicode_utf8_acceptRanges), ("meridian/civil.ahead", laid_meridian_civil_ahead), ("unicode/utf8.first", laid_unicode_utf8_first)], narrowed := true }
def ZoneShowsUptoSaid : Prop := zoneShowsUptoRow.holds Tryz.pinned (OpenSpec.upto zoneShowsSpec)

/-- 'meridianlaw13.ZoneWithin', WHERE WHAT IT READS IS OF BULK AT MOST 1048576: true; the input reads as it did. -/
def zoneWithinUptoRow : OpenClaim := { program := "ytfbkkhfmboaknaagreatdoor", sum := "dbda4d134143c85b62ce1ee9dbdc05f195b964d04cf9072407903f05e142dd6e", func := "meridian/meridianlaw13.ZoneWithin", spec := "zoneWithin", inPlace := ["internal/bytealg.IndexByteString", "internal/bytealg.IndexString", "internal/bytealg.CountString", "internal/abi.NoEscape", "internal/bytealg.MakeNoZero"], unfollowed := true, recurses := true, named := ["internal/bytealg.MaxLen", "unicode/utf8.first", "unicode/utf8.acceptRanges", "meridian/civil.ahead"], apart := false, laid := [("unicode/utf8.acceptRanges", laid_unicode_utf8_acceptRanges), ("meridian/civil.ahead", laid_meridian_civil_ahead), ("unicode/utf8.first", laid_unicode_utf8_first)], narrowed := true }
def ZoneWithinUptoSaid : Prop := zoneWithinUptoRow.holds Tryz.pinned (OpenSpec.upto zoneWithinSpec)

/-- 'meridianlaw13.ZonePlain', WHERE WHAT IT READS IS OF BULK AT MOST 1048576: true; the input reads as it did. -/
def zonePlainUptoRow : OpenClaim := { program := "ytfbkkhfmboaknaagreatdoor", sum := "dbda4d134143c85b62ce1ee9dbdc05f195b964d04cf9072407903f05e142dd6e", func := "meridian/meridianlaw13.ZonePlain", spec := "zonePlain", inPlace := ["internal/bytealg.IndexByteString", "internal/bytealg.IndexString", "internal/bytealg.CountString", "internal/abi.NoEscape", "internal/bytealg.MakeNoZero"], unfollowed := true, recurses := true, named := ["internal/bytealg.MaxLen", "unicode/utf8.first", "unicode/utf8.acceptRanges", "meridian/civil.ahead"], apart := false, laid := [("unicode/utf8.acceptRanges", laid_unicode_utf8_acceptRanges), ("meridian/civil.ahead", laid_meridian_civil_ahead), ("unicode/utf8.first", laid_unicode_utf8_first)], narrowed := true }
def ZonePlainUptoSaid : Prop := zonePlainUptoRow.holds Tryz.pinned (OpenSpec.upto zonePlainSpec)

/-- 'meridianlaw13.ZoneShifts', WHERE WHAT IT READS IS OF BULK AT MOST 1048576: true; the input reads as it did. -/
def zoneShiftsUptoRow : OpenClaim := { program := "ytfbkkhfmboaknaagreatdoor", sum := "dbda4d134143c85b62ce1ee9dbdc05f195b964d04cf9072407903f05e142dd6e", func := "meridian/meridianlaw13.ZoneShifts", spec := "zoneShifts", inPlace := ["internal/bytealg.IndexByteString", "internal/bytealg.IndexString", "internal/bytealg.CountString", "internal/abi.NoEscape", "internal/bytealg.MakeNoZero"], unfollowed := true, recurses := true, named := ["internal/bytealg.MaxLen", "unicode/utf8.first", "unicode/utf8.acceptRanges", "meridian/civil.ahead"], apart := false, laid := [("unicode/utf8.acceptRanges", laid_unicode_utf8_acceptRanges), ("meridian/civil.ahead", laid_meridian_civil_ahead), ("unicode/utf8.first", laid_unicode_utf8_first)], narrowed := true }
def ZoneShiftsUptoSaid : Prop := zoneShiftsUptoRow.holds Tryz.pinned (OpenSpec.upto zoneShiftsSpec)

/-- 'meridianlaw13.ZoneUnivs', WHERE WHAT IT READS IS OF BULK AT MOST 1048576: true; the input reads as it did. -/
def zoneUnivsUptoRow : OpenClaim := { program := "ytfbkkhfmboaknaagreatdoor", sum := "dbda4d134143c85b62ce1ee9dbdc05f195b964d04cf9072407903f05e142dd6e", func := "meridian/meridianlaw13.ZoneUnivs", spec := "zoneUnivs", inPlace := ["internal/bytealg.IndexByteString", "internal/bytealg.IndexString", "internal/bytealg.CountString", "internal/abi.NoEscape", "internal/bytealg.MakeNoZero"], unfollowed := true, recurses := true, named := ["internal/bytealg.MaxLen", "unicode/utf8.first", "unicode/utf8.acceptRanges", "meridian/civil.ahead"], apart := false, laid := [("unicode/utf8.acceptRanges", laid_unicode_utf8_acceptRanges), ("meridian/civil.ahead", laid_meridian_civil_ahead), ("unicode/utf8.first", laid_unicode_utf8_first)], narrowed := true }
def ZoneUnivsUptoSaid : Prop := zoneUnivsUptoRow.holds Tryz.pinned (OpenSpec.upto zoneUnivsSpec)

/-- 'meridianlaw13.ZoneParts', WHERE WHAT IT READS IS OF BULK AT MOST 1048576: true; the input reads as it did. -/
def zonePartsUptoRow : OpenClaim := { program := "ytfbkkhfmboaknaagreatdoor", sum := "dbda4d134143c85b62ce1ee9dbdc05f195b964d04cf9072407903f05e142dd6e", func := "meridian/meridianlaw13.ZoneParts", spec := "zoneParts", inPlace := ["internal/bytealg.IndexByteString", "internal/bytealg.IndexString", "internal/bytealg.CountString", "internal/abi.NoEscape", "internal/bytealg.MakeNoZero"], unfollowed := true, recurses := true, named := ["internal/bytealg.MaxLen", "unicode/utf8.first", "unicode/utf8.acceptRanges", "meridian/civil.ahead"], apart := false, laid := [("unicode/utf8.acceptRanges", laid_unicode_utf8_acceptRanges), ("meridian/civil.ahead", laid_meridian_civil_ahead), ("unicode/utf8.first", laid_unicode_utf8_first)], narrowed := true }
def ZonePartsUptoSaid : Prop := zonePartsUptoRow.holds Tryz.pinned (OpenSpec.upto zonePartsSpec)

end Rows
end Go.Proofs.YtfbkkhfmboaknaaGreatDoor
