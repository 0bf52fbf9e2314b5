/-
  NARROWER THAN 'FOR EVERY INPUT', by the rows' own cells (each row's printed sentence says how): ZoneUnivs: laid · FooterTells: laid · FooterEnds: laid · FooterOwn: laid · FooterHolds: laid · FooterTurns: laid · FooterNear: laid · TableMakes: laid · TableErrs: laid · TableJoins: laid · TableShows: laid.
  DERIVED. THE GIVEN ROWS OF THIS SEAT. 11 by the template 'for every input the law returns true; each argument reads behind the call as it read before'; 0 by the template 'total and deterministic' (their statements: YteekjfgjmccdnaaGreatDoorTotals.lean).
  GIVEN WITH THE SEED: the statements are not yours to turn. If you find one false, say at which input.
  Laid BY PROGRAM, IN A SANDBOX (cutbox-rows.mjs): the forced cells as the released guide's own fill.sh prints them over the translation 9356c627d810dd54… (all of the seat's roots in one cut). By AI agents, Wed Nov 11 2026. No macro, syntax, notation, axiom, sorry.
-/
import Derived.Test.YteekjfgjmccdnaaGreatDoorChecked
import GoSem.PinnedTables
import GoSem.Claim
import GoSem.ClaimJoined
import GoSem.ClaimMapViews
import Derived.JoinedTies
import Derived.KernelRfl
namespace Go.Proofs.YteekjfgjmccdnaaGreatDoor
/- THE CELL 'sum', in the pinned program and in every row, IS THE sha256 OF THE DUMP (.gsa) THAT YteekjfgjmccdnaaGreatDoorProg.lean LOADS. Nothing in Lean hashes anything: it is a label: what it is worth is what the hold of that sum in a sandbox is worth. -/
noncomputable def Tryz.pinned : Pinned := { name := "yteekjfgjmccdnaagreatdoor", sum := "9356c627d810dd546cd83911fc7e80eade6193c866e370cb2295b34794331804", checked := Tryz.checked }
namespace Rows
def none {H : Type} : Left H := { results := [], args := [] }

/- WHAT THE LISTED PACKAGE-LEVEL VARIABLES READ AS WHEN THE CALL BEGINS. Each datum BY PROGRAM (the guide's laid-datum.mjs) off the statement by which the dump's own 'gosem.cut.vars' lays the variable. In a bare row this is a premise. The card (YteekjfgjmccdnaaGreatDoorCards.lean) ties it to the program's text. -/
def laid_unicode_utf8_acceptRanges {H : Type} : DataW H := .agg [.agg [.lit (.int .u8 128), .lit (.int .u8 191)], .agg [.lit (.int .u8 160), .lit (.int .u8 191)], .agg [.lit (.int .u8 128), .lit (.int .u8 159)], .agg [.lit (.int .u8 144), .lit (.int .u8 191)], .agg [.lit (.int .u8 128), .lit (.int .u8 143)], .agg [.lit (.int .u8 0), .lit (.int .u8 0)], .agg [.lit (.int .u8 0), .lit (.int .u8 0)], .agg [.lit (.int .u8 0), .lit (.int .u8 0)], .agg [.lit (.int .u8 0), .lit (.int .u8 0)], .agg [.lit (.int .u8 0), .lit (.int .u8 0)], .agg [.lit (.int .u8 0), .lit (.int .u8 0)], .agg [.lit (.int .u8 0), .lit (.int .u8 0)], .agg [.lit (.int .u8 0), .lit (.int .u8 0)], .agg [.lit (.int .u8 0), .lit (.int .u8 0)], .agg [.lit (.int .u8 0), .lit (.int .u8 0)], .agg [.lit (.int .u8 0), .lit (.int .u8 0)]]
def laid_meridian_civil_ahead {H : Type} : DataW H := .agg [.lit (.int .i64 0), .lit (.int .i64 31), .lit (.int .i64 59), .lit (.int .i64 90), .lit (.int .i64 120), .lit (.int .i64 151), .lit (.int .i64 181), .lit (.int .i64 212), .lit (.int .i64 243), .lit (.int .i64 273), .lit (.int .i64 304), .lit (.int .i64 334), .lit (.int .i64 365)]
/-- One of Go's own tables, pinned by name: the form's constant. -/
def laid_unicode_utf8_first : DataW Unit := Go.Pinned.utf8First

/-- 'meridianlaw13.ZoneUnivs': WHATEVER THE INPUT: true; the input reads as it did. -/
def zoneUnivsSpec : ChangeSpec := { name := "zoneUnivs", fn := fun _ => fun
  | [d1, d2] => { results := [.lit (.bool true)], args := [d1, d2] }
  | _ => none }
def zoneUnivsRow : OpenClaim := { program := "yteekjfgjmccdnaagreatdoor", sum := "9356c627d810dd546cd83911fc7e80eade6193c866e370cb2295b34794331804", func := "meridian/meridianlaw13.ZoneUnivs", spec := "zoneUnivs", inPlace := ["internal/bytealg.IndexByteString", "internal/bytealg.IndexString", "internal/bytealg.CountString", "internal/abi.NoEscape", "internal/bytealg.MakeNoZero"], unfollowed := true, recurses := true, named := ["internal/bytealg.MaxLen", "unicode/utf8.first", "unicode/utf8.acceptRanges", "meridian/civil.ahead"], apart := false, laid := [("unicode/utf8.acceptRanges", laid_unicode_utf8_acceptRanges), ("meridian/civil.ahead", laid_meridian_civil_ahead), ("unicode/utf8.first", laid_unicode_utf8_first)] }
def ZoneUnivsSaid : Prop := zoneUnivsRow.holds Tryz.pinned (OpenSpec.ofChange zoneUnivsSpec)

/-- ITS FALSE NEIGHBOUR: 'it returns false'. Refute it at one input. -/
def zoneUnivsWrong : ChangeSpec := { name := "zoneUnivs", fn := fun _ => fun
  | [d1, d2] => { results := [.lit (.bool false)], args := [d1, d2] }
  | _ => none }
def ZoneUnivsWrongFalsely : Prop := zoneUnivsRow.holds Tryz.pinned (OpenSpec.ofChange zoneUnivsWrong)

/-- 'meridianlaw15.FooterTells': WHATEVER THE INPUT: true; the input reads as it did. -/
def footerTellsSpec : ChangeSpec := { name := "footerTells", fn := fun _ => fun
  | [d] => { results := [.lit (.bool true)], args := [d] }
  | _ => none }
def footerTellsRow : OpenClaim := { program := "yteekjfgjmccdnaagreatdoor", sum := "9356c627d810dd546cd83911fc7e80eade6193c866e370cb2295b34794331804", func := "meridian/meridianlaw15.FooterTells", spec := "footerTells", inPlace := ["internal/bytealg.IndexByteString", "internal/bytealg.IndexString", "internal/bytealg.CountString", "internal/abi.NoEscape", "internal/bytealg.MakeNoZero"], unfollowed := true, recurses := true, named := ["internal/bytealg.MaxLen", "unicode/utf8.first", "unicode/utf8.acceptRanges", "meridian/civil.ahead"], apart := false, laid := [("unicode/utf8.acceptRanges", laid_unicode_utf8_acceptRanges), ("meridian/civil.ahead", laid_meridian_civil_ahead), ("unicode/utf8.first", laid_unicode_utf8_first)] }
def FooterTellsSaid : Prop := footerTellsRow.holds Tryz.pinned (OpenSpec.ofChange footerTellsSpec)

/-- ITS FALSE NEIGHBOUR: 'it returns false'. Refute it at one input. -/
def footerTellsWrong : ChangeSpec := { name := "footerTells", fn := fun _ => fun
  | [d] => { results := [.lit (.bool false)], args := [d] }
  | _ => none }
def FooterTellsWrongFalsely : Prop := footerTellsRow.holds Tryz.pinned (OpenSpec.ofChange footerTellsWrong)

/-- 'meridianlaw15.FooterEnds': WHATEVER THE INPUT: true; the input reads as it did. -/
def footerEndsSpec : ChangeSpec := { name := "footerEnds", fn := fun _ => fun
  | [d1, d2] => { results := [.lit (.bool true)], args := [d1, d2] }
  | _ => none }
def footerEndsRow : OpenClaim := { program := "yteekjfgjmccdnaagreatdoor", sum := "9356c627d810dd546cd83911fc7e80eade6193c866e370cb2295b34794331804", func := "meridian/meridianlaw15.FooterEnds", spec := "footerEnds", inPlace := ["internal/bytealg.IndexByteString", "internal/bytealg.IndexString", "internal/bytealg.CountString", "internal/abi.NoEscape", "internal/bytealg.MakeNoZero"], unfollowed := true, recurses := true, named := ["internal/bytealg.MaxLen", "unicode/utf8.first", "unicode/utf8.acceptRanges", "meridian/civil.ahead"], apart := false, laid := [("unicode/utf8.acceptRanges", laid_unicode_utf8_acceptRanges), ("meridian/civil.ahead", laid_meridian_civil_ahead), ("unicode/utf8.first", laid_unicode_utf8_first)] }
def FooterEndsSaid : Prop := footerEndsRow.holds Tryz.pinned (OpenSpec.ofChange footerEndsSpec)

/-- ITS FALSE NEIGHBOUR: 'it returns false'. Refute it at one input. -/
def footerEndsWrong : ChangeSpec := { name := "footerEnds", fn := fun _ => fun
  | [d1, d2] => { results := [.lit (.bool false)], args := [d1, d2] }
  | _ => none }
def FooterEndsWrongFalsely : Prop := footerEndsRow.holds Tryz.pinned (OpenSpec.ofChange footerEndsWrong)

/-- 'meridianlaw15.FooterOwn': WHATEVER THE INPUT: true; the input reads as it did. -/
def footerOwnSpec : ChangeSpec := { name := "footerOwn", fn := fun _ => fun
  | [d] => { results := [.lit (.bool true)], args := [d] }
  | _ => none }
def footerOwnRow : OpenClaim := { program := "yteekjfgjmccdnaagreatdoor", sum := "9356c627d810dd546cd83911fc7e80eade6193c866e370cb2295b34794331804", func := "meridian/meridianlaw15.FooterOwn", spec := "footerOwn", inPlace := ["internal/bytealg.IndexByteString", "internal/bytealg.IndexString", "internal/bytealg.CountString", "internal/abi.NoEscape", "internal/bytealg.MakeNoZero"], unfollowed := true, recurses := true, named := ["internal/bytealg.MaxLen", "unicode/utf8.first", "unicode/utf8.acceptRanges", "meridian/civil.ahead"], apart := false, laid := [("unicode/utf8.acceptRanges", laid_unicode_utf8_acceptRanges), ("meridian/civil.ahead", laid_meridian_civil_ahead), ("unicode/utf8.first", laid_unicode_utf8_first)] }
def FooterOwnSaid : Prop := footerOwnRow.holds Tryz.pinned (OpenSpec.ofChange footerOwnSpec)

/-- ITS FALSE NEIGHBOUR: 'it returns false'. Refute it at one input. -/
def footerOwnWrong : ChangeSpec := { name := "footerOwn", fn := fun _ => fun
  | [d] => { results := [.lit (.bool false)], args := [d] }
  | _ => none }
def FooterOwnWrongFalsely : Prop := footerOwnRow.holds Tryz.pinned (OpenSpec.ofChange footerOwnWrong)

/-- 'meridianlaw15.FooterHolds': WHATEVER THE INPUT: true; the input reads as it did. -/
def footerHoldsSpec : ChangeSpec := { name := "footerHolds", fn := fun _ => fun
  | [d1, d2] => { results := [.lit (.bool true)], args := [d1, d2] }
  | _ => none }
def footerHoldsRow : OpenClaim := { program := "yteekjfgjmccdnaagreatdoor", sum := "9356c627d810dd546cd83911fc7e80eade6193c866e370cb2295b34794331804", func := "meridian/meridianlaw15.FooterHolds", spec := "footerHolds", inPlace := ["internal/bytealg.IndexByteString", "internal/bytealg.IndexString", "internal/bytealg.CountString", "internal/abi.NoEscape", "internal/bytealg.MakeNoZero"], unfollowed := true, recurses := true, named := ["internal/bytealg.MaxLen", "unicode/utf8.first", "unicode/utf8.acceptRanges", "meridian/civil.ahead"], apart := false, laid := [("unicode/utf8.acceptRanges", laid_unicode_utf8_acceptRanges), ("meridian/civil.ahead", laid_meridian_civil_ahead), ("unicode/utf8.first", laid_unicode_utf8_first)] }
def FooterHoldsSaid : Prop := footerHoldsRow.holds Tryz.pinned (OpenSpec.ofChange footerHoldsSpec)

/-- ITS FALSE NEIGHBOUR: 'it returns false'. Refute it at one input. -/
def footerHoldsWrong : ChangeSpec := { name := "footerHolds", fn := fun _ => fun
  | [d1, d2] => { results := [.lit (.bool false)], args := [d1, d2] }
  | _ => none }
def FooterHoldsWrongFalsely : Prop := footerHoldsRow.holds Tryz.pinned (OpenSpec.ofChange footerHoldsWrong)

/-- 'meridianlaw15.FooterTurns': WHATEVER THE INPUT: true; the input reads as it did. -/
def footerTurnsSpec : ChangeSpec := { name := "footerTurns", fn := fun _ => fun
  | [d1, d2, d3] => { results := [.lit (.bool true)], args := [d1, d2, d3] }
  | _ => none }
def footerTurnsRow : OpenClaim := { program := "yteekjfgjmccdnaagreatdoor", sum := "9356c627d810dd546cd83911fc7e80eade6193c866e370cb2295b34794331804", func := "meridian/meridianlaw15.FooterTurns", spec := "footerTurns", inPlace := ["internal/bytealg.IndexByteString", "internal/bytealg.IndexString", "internal/bytealg.CountString", "internal/abi.NoEscape", "internal/bytealg.MakeNoZero"], unfollowed := true, recurses := true, named := ["internal/bytealg.MaxLen", "unicode/utf8.first", "unicode/utf8.acceptRanges", "meridian/civil.ahead"], apart := false, laid := [("unicode/utf8.acceptRanges", laid_unicode_utf8_acceptRanges), ("meridian/civil.ahead", laid_meridian_civil_ahead), ("unicode/utf8.first", laid_unicode_utf8_first)] }
def FooterTurnsSaid : Prop := footerTurnsRow.holds Tryz.pinned (OpenSpec.ofChange footerTurnsSpec)

/-- ITS FALSE NEIGHBOUR: 'it returns false'. Refute it at one input. -/
def footerTurnsWrong : ChangeSpec := { name := "footerTurns", fn := fun _ => fun
  | [d1, d2, d3] => { results := [.lit (.bool false)], args := [d1, d2, d3] }
  | _ => none }
def FooterTurnsWrongFalsely : Prop := footerTurnsRow.holds Tryz.pinned (OpenSpec.ofChange footerTurnsWrong)

/-- 'meridianlaw15.FooterNear': WHATEVER THE INPUT: true; the input reads as it did. -/
def footerNearSpec : ChangeSpec := { name := "footerNear", fn := fun _ => fun
  | [d1, d2, d3] => { results := [.lit (.bool true)], args := [d1, d2, d3] }
  | _ => none }
def footerNearRow : OpenClaim := { program := "yteekjfgjmccdnaagreatdoor", sum := "9356c627d810dd546cd83911fc7e80eade6193c866e370cb2295b34794331804", func := "meridian/meridianlaw15.FooterNear", spec := "footerNear", inPlace := ["internal/bytealg.IndexByteString", "internal/bytealg.IndexString", "internal/bytealg.CountString", "internal/abi.NoEscape", "internal/bytealg.MakeNoZero"], unfollowed := true, recurses := true, named := ["internal/bytealg.MaxLen", "unicode/utf8.first", "unicode/utf8.acceptRanges", "meridian/civil.ahead"], apart := false, laid := [("unicode/utf8.acceptRanges", laid_unicode_utf8_acceptRanges), ("meridian/civil.ahead", laid_meridian_civil_ahead), ("unicode/utf8.first", laid_unicode_utf8_first)] }
def FooterNearSaid : Prop := footerNearRow.holds Tryz.pinned (OpenSpec.ofChange footerNearSpec)

/-- ITS FALSE NEIGHBOUR: 'it returns false'. Refute it at one input. -/
def footerNearWrong : ChangeSpec := { name := "footerNear", fn := fun _ => fun
  | [d1, d2, d3] => { results := [.lit (.bool false)], args := [d1, d2, d3] }
  | _ => none }
def FooterNearWrongFalsely : Prop := footerNearRow.holds Tryz.pinned (OpenSpec.ofChange footerNearWrong)

/-- 'meridianlaw14.TableMakes': WHATEVER THE INPUT: true; the input reads as it did. -/
def tableMakesSpec : ChangeSpec := { name := "tableMakes", fn := fun _ => fun
  | [d1, d2] => { results := [.lit (.bool true)], args := [d1, d2] }
  | _ => none }
def tableMakesRow : OpenClaim := { program := "yteekjfgjmccdnaagreatdoor", sum := "9356c627d810dd546cd83911fc7e80eade6193c866e370cb2295b34794331804", func := "meridian/meridianlaw14.TableMakes", spec := "tableMakes", inPlace := ["internal/bytealg.IndexByteString", "internal/bytealg.IndexString", "internal/bytealg.CountString", "internal/abi.NoEscape", "internal/bytealg.MakeNoZero"], unfollowed := true, recurses := true, named := ["internal/bytealg.MaxLen", "unicode/utf8.first", "unicode/utf8.acceptRanges", "meridian/civil.ahead"], apart := false, laid := [("unicode/utf8.acceptRanges", laid_unicode_utf8_acceptRanges), ("meridian/civil.ahead", laid_meridian_civil_ahead), ("unicode/utf8.first", laid_unicode_utf8_first)] }
def TableMakesSaid : Prop := tableMakesRow.holds Tryz.pinned (OpenSpec.ofChange tableMakesSpec)

/-- ITS FALSE NEIGHBOUR: 'it returns false'. Refute it at one input. -/
def tableMakesWrong : ChangeSpec := { name := "tableMakes", fn := fun _ => fun
  | [d1, d2] => { results := [.lit (.bool false)], args := [d1, d2] }
  | _ => none }
def TableMakesWrongFalsely : Prop := tableMakesRow.holds Tryz.pinned (OpenSpec.ofChange tableMakesWrong)

/-- 'meridianlaw14.TableErrs': WHATEVER THE INPUT: true; the input reads as it did. -/
def tableErrsSpec : ChangeSpec := { name := "tableErrs", fn := fun _ => fun
  | [d1, d2] => { results := [.lit (.bool true)], args := [d1, d2] }
  | _ => none }
def tableErrsRow : OpenClaim := { program := "yteekjfgjmccdnaagreatdoor", sum := "9356c627d810dd546cd83911fc7e80eade6193c866e370cb2295b34794331804", func := "meridian/meridianlaw14.TableErrs", spec := "tableErrs", inPlace := ["internal/bytealg.IndexByteString", "internal/bytealg.IndexString", "internal/bytealg.CountString", "internal/abi.NoEscape", "internal/bytealg.MakeNoZero"], unfollowed := true, recurses := true, named := ["internal/bytealg.MaxLen", "unicode/utf8.first", "unicode/utf8.acceptRanges", "meridian/civil.ahead"], apart := false, laid := [("unicode/utf8.acceptRanges", laid_unicode_utf8_acceptRanges), ("meridian/civil.ahead", laid_meridian_civil_ahead), ("unicode/utf8.first", laid_unicode_utf8_first)] }
def TableErrsSaid : Prop := tableErrsRow.holds Tryz.pinned (OpenSpec.ofChange tableErrsSpec)

/-- ITS FALSE NEIGHBOUR: 'it returns false'. Refute it at one input. -/
def tableErrsWrong : ChangeSpec := { name := "tableErrs", fn := fun _ => fun
  | [d1, d2] => { results := [.lit (.bool false)], args := [d1, d2] }
  | _ => none }
def TableErrsWrongFalsely : Prop := tableErrsRow.holds Tryz.pinned (OpenSpec.ofChange tableErrsWrong)

/-- 'meridianlaw14.TableJoins': WHATEVER THE INPUT: true; the input reads as it did. -/
def tableJoinsSpec : ChangeSpec := { name := "tableJoins", fn := fun _ => fun
  | [d1, d2] => { results := [.lit (.bool true)], args := [d1, d2] }
  | _ => none }
def tableJoinsRow : OpenClaim := { program := "yteekjfgjmccdnaagreatdoor", sum := "9356c627d810dd546cd83911fc7e80eade6193c866e370cb2295b34794331804", func := "meridian/meridianlaw14.TableJoins", spec := "tableJoins", inPlace := ["internal/bytealg.IndexByteString", "internal/bytealg.IndexString", "internal/bytealg.CountString", "internal/abi.NoEscape", "internal/bytealg.MakeNoZero"], unfollowed := true, recurses := true, named := ["internal/bytealg.MaxLen", "unicode/utf8.first", "unicode/utf8.acceptRanges", "meridian/civil.ahead"], apart := false, laid := [("unicode/utf8.acceptRanges", laid_unicode_utf8_acceptRanges), ("meridian/civil.ahead", laid_meridian_civil_ahead), ("unicode/utf8.first", laid_unicode_utf8_first)] }
def TableJoinsSaid : Prop := tableJoinsRow.holds Tryz.pinned (OpenSpec.ofChange tableJoinsSpec)

/-- ITS FALSE NEIGHBOUR: 'it returns false'. Refute it at one input. -/
def tableJoinsWrong : ChangeSpec := { name := "tableJoins", fn := fun _ => fun
  | [d1, d2] => { results := [.lit (.bool false)], args := [d1, d2] }
  | _ => none }
def TableJoinsWrongFalsely : Prop := tableJoinsRow.holds Tryz.pinned (OpenSpec.ofChange tableJoinsWrong)

/-- 'meridianlaw14.TableShows': WHATEVER THE INPUT: true; the input reads as it did. -/
def tableShowsSpec : ChangeSpec := { name := "tableShows", fn := fun _ => fun
  | [d1, d2, d3] => { results := [.lit (.bool true)], args := [d1, d2, d3] }
  | _ => none }
def tableShowsRow : OpenClaim := { program := "yteekjfgjmccdnaagreatdoor", sum := "9356c627d810dd546cd83911fc7e80eade6193c866e370cb2295b34794331804", func := "meridian/meridianlaw14.TableShows", spec := "tableShows", inPlace := ["internal/bytealg.IndexByteString", "internal/bytealg.IndexString", "internal/bytealg.CountString", "internal/abi.NoEscape", "internal/bytealg.MakeNoZero"], unfollowed := true, recurses := true, named := ["internal/bytealg.MaxLen", "unicode/utf8.first", "unicode/utf8.acceptRanges", "meridian/civil.ahead"], apart := false, laid := [("unicode/utf8.acceptRanges", laid_unicode_utf8_acceptRanges), ("meridian/civil.ahead", laid_meridian_civil_ahead), ("unicode/utf8.first", laid_unicode_utf8_first)] }
def TableShowsSaid : Prop := tableShowsRow.holds Tryz.pinned (OpenSpec.ofChange tableShowsSpec)

/-- ITS FALSE NEIGHBOUR: 'it returns false'. Refute it at one input. -/
def tableShowsWrong : ChangeSpec := { name := "tableShows", fn := fun _ => fun
  | [d1, d2, d3] => { results := [.lit (.bool false)], args := [d1, d2, d3] }
  | _ => none }
def TableShowsWrongFalsely : Prop := tableShowsRow.holds Tryz.pinned (OpenSpec.ofChange tableShowsWrong)

/- THE SECOND FORM. 'bulk': how many values and letters a reading holds, each counted each time it is reached (what is shared counts as often as it is met; a slice's spare places count too). A statement '..UptoSaid' is the law's where the arguments, and the package variables that the reading takes, are together of bulk at most 1048576: NARROWER than '..Said'. Prove '..Said' where nothing that the law and all that it calls make is longer than what came in: it says more and counts as full. Else prove '..UptoSaid'. A law counts once. -/
mutual
def uptoBulk {H : Type} : DataW H → Nat
  | .lit (.string bytes) => bytes.length + 1
  | .lit _ => 1
  | .nil => 1
  | .ptr d => uptoBulk d + 1
  | .slice elems spare => uptoBulkAll elems + uptoBulkAll spare + 1
  | .agg parts => uptoBulkAll parts + 1
  | .iface _ d => uptoBulk d + 1
  | .map entries => uptoBulkEntries entries + 1
  | .held _ => 1
def uptoBulkAll {H : Type} : List (DataW H) → Nat
  | [] => 0
  | d :: r => uptoBulk d + uptoBulkAll r
def uptoBulkEntries {H : Type} : List (Lit × DataW H) → Nat
  | [] => 0
  | x :: r => uptoBulkEntry x + uptoBulkEntries r
def uptoBulkEntry {H : Type} : Lit × DataW H → Nat
  | (.string bytes, d) => bytes.length + uptoBulk d + 1
  | (_, d) => uptoBulk d + 1
 end
def uptoSmall : (H : Type) → List (DataW H) → Bool := fun _ ds => decide (uptoBulkAll ds ≤ 1048576)
def OpenSpec.upto (s : _root_.Go.ChangeSpec) : _root_.Go.OpenSpec := { _root_.Go.OpenSpec.ofChange s with cond := some uptoSmall }

/-- 'meridianlaw13.ZoneUnivs', WHERE WHAT IT READS IS OF BULK AT MOST 1048576: true; the input reads as it did. -/
def zoneUnivsUptoRow : OpenClaim := { program := "yteekjfgjmccdnaagreatdoor", sum := "9356c627d810dd546cd83911fc7e80eade6193c866e370cb2295b34794331804", func := "meridian/meridianlaw13.ZoneUnivs", spec := "zoneUnivs", inPlace := ["internal/bytealg.IndexByteString", "internal/bytealg.IndexString", "internal/bytealg.CountString", "internal/abi.NoEscape", "internal/bytealg.MakeNoZero"], unfollowed := true, recurses := true, named := ["internal/bytealg.MaxLen", "unicode/utf8.first", "unicode/utf8.acceptRanges", "meridian/civil.ahead"], apart := false, laid := [("unicode/utf8.acceptRanges", laid_unicode_utf8_acceptRanges), ("meridian/civil.ahead", laid_meridian_civil_ahead), ("unicode/utf8.first", laid_unicode_utf8_first)], narrowed := true }
def ZoneUnivsUptoSaid : Prop := zoneUnivsUptoRow.holds Tryz.pinned (OpenSpec.upto zoneUnivsSpec)

/-- 'meridianlaw15.FooterTells', WHERE WHAT IT READS IS OF BULK AT MOST 1048576: true; the input reads as it did. -/
def footerTellsUptoRow : OpenClaim := { program := "yteekjfgjmccdnaagreatdoor", sum := "9356c627d810dd546cd83911fc7e80eade6193c866e370cb2295b34794331804", func := "meridian/meridianlaw15.FooterTells", spec := "footerTells", inPlace := ["internal/bytealg.IndexByteString", "internal/bytealg.IndexString", "internal/bytealg.CountString", "internal/abi.NoEscape", "internal/bytealg.MakeNoZero"], unfollowed := true, recurses := true, named := ["internal/bytealg.MaxLen", "unicode/utf8.first", "unicode/utf8.acceptRanges", "meridian/civil.ahead"], apart := false, laid := [("unicode/utf8.acceptRanges", laid_unicode_utf8_acceptRanges), ("meridian/civil.ahead", laid_meridian_civil_ahead), ("unicode/utf8.first", laid_unicode_utf8_first)], narrowed := true }
def FooterTellsUptoSaid : Prop := footerTellsUptoRow.holds Tryz.pinned (OpenSpec.upto footerTellsSpec)

/-- 'meridianlaw15.FooterEnds', WHERE WHAT IT READS IS OF BULK AT MOST 1048576: true; the input reads as it did. -/
def footerEndsUptoRow : OpenClaim := { program := "yteekjfgjmccdnaagreatdoor", sum := "9356c627d810dd546cd83911fc7e80eade6193c866e370cb2295b34794331804", func := "meridian/meridianlaw15.FooterEnds", spec := "footerEnds", inPlace := ["internal/bytealg.IndexByteString", "internal/bytealg.IndexString", "internal/bytealg.CountString", "internal/abi.NoEscape", "internal/bytealg.MakeNoZero"], unfollowed := true, recurses := true, named := ["internal/bytealg.MaxLen", "unicode/utf8.first", "unicode/utf8.acceptRanges", "meridian/civil.ahead"], apart := false, laid := [("unicode/utf8.acceptRanges", laid_unicode_utf8_acceptRanges), ("meridian/civil.ahead", laid_meridian_civil_ahead), ("unicode/utf8.first", laid_unicode_utf8_first)], narrowed := true }
def FooterEndsUptoSaid : Prop := footerEndsUptoRow.holds Tryz.pinned (OpenSpec.upto footerEndsSpec)

/-- 'meridianlaw15.FooterOwn', WHERE WHAT IT READS IS OF BULK AT MOST 1048576: true; the input reads as it did. -/
def footerOwnUptoRow : OpenClaim := { program := "yteekjfgjmccdnaagreatdoor", sum := "9356c627d810dd546cd83911fc7e80eade6193c866e370cb2295b34794331804", func := "meridian/meridianlaw15.FooterOwn", spec := "footerOwn", inPlace := ["internal/bytealg.IndexByteString", "internal/bytealg.IndexString", "internal/bytealg.CountString", "internal/abi.NoEscape", "internal/bytealg.MakeNoZero"], unfollowed := true, recurses := true, named := ["internal/bytealg.MaxLen", "unicode/utf8.first", "unicode/utf8.acceptRanges", "meridian/civil.ahead"], apart := false, laid := [("unicode/utf8.acceptRanges", laid_unicode_utf8_acceptRanges), ("meridian/civil.ahead", laid_meridian_civil_ahead), ("unicode/utf8.first", laid_unicode_utf8_first)], narrowed := true }
def FooterOwnUptoSaid : Prop := footerOwnUptoRow.holds Tryz.pinned (OpenSpec.upto footerOwnSpec)

/-- 'meridianlaw15.FooterHolds', WHERE WHAT IT READS IS OF BULK AT MOST 1048576: true; the input reads as it did. -/
def footerHoldsUptoRow : OpenClaim := { program := "yteekjfgjmccdnaagreatdoor", sum := "9356c627d810dd546cd83911fc7e80eade6193c866e370cb2295b34794331804", func := "meridian/meridianlaw15.FooterHolds", spec := "footerHolds", inPlace := ["internal/bytealg.IndexByteString", "internal/bytealg.IndexString", "internal/bytealg.CountString", "internal/abi.NoEscape", "internal/bytealg.MakeNoZero"], unfollowed := true, recurses := true, named := ["internal/bytealg.MaxLen", "unicode/utf8.first", "unicode/utf8.acceptRanges", "meridian/civil.ahead"], apart := false, laid := [("unicode/utf8.acceptRanges", laid_unicode_utf8_acceptRanges), ("meridian/civil.ahead", laid_meridian_civil_ahead), ("unicode/utf8.first", laid_unicode_utf8_first)], narrowed := true }
def FooterHoldsUptoSaid : Prop := footerHoldsUptoRow.holds Tryz.pinned (OpenSpec.upto footerHoldsSpec)

/-- 'meridianlaw15.FooterTurns', WHERE WHAT IT READS IS OF BULK AT MOST 1048576: true; the input reads as it did. -/
def footerTurnsUptoRow : OpenClaim := { program := "yteekjfgjmccdnaagreatdoor", sum := "9356c627d810dd546cd83911fc7e80eade6193c866e370cb2295b34794331804", func := "meridian/meridianlaw15.FooterTurns", spec := "footerTurns", inPlace := ["internal/bytealg.IndexByteString", "internal/bytealg.IndexString", "internal/bytealg.CountString", "internal/abi.NoEscape", "internal/bytealg.MakeNoZero"], unfollowed := true, recurses := true, named := ["internal/bytealg.MaxLen", "unicode/utf8.first", "unicode/utf8.acceptRanges", "meridian/civil.ahead"], apart := false, laid := [("unicode/utf8.acceptRanges", laid_unicode_utf8_acceptRanges), ("meridian/civil.ahead", laid_meridian_civil_ahead), ("unicode/utf8.first", laid_unicode_utf8_first)], narrowed := true }
def FooterTurnsUptoSaid : Prop := footerTurnsUptoRow.holds Tryz.pinned (OpenSpec.upto footerTurnsSpec)

/-- 'meridianlaw15.FooterNear', WHERE WHAT IT READS IS OF BULK AT MOST 1048576: true; the input reads as it did. -/
def footerNearUptoRow : OpenClaim := { program := "yteekjfgjmccdnaagreatdoor", sum := "9356c627d810dd546cd83911fc7e80eade6193c866e370cb2295b34794331804", func := "meridian/meridianlaw15.FooterNear", spec := "footerNear", inPlace := ["internal/bytealg.IndexByteString", "internal/bytealg.IndexString", "internal/bytealg.CountString", "internal/abi.NoEscape", "internal/bytealg.MakeNoZero"], unfollowed := true, recurses := true, named := ["internal/bytealg.MaxLen", "unicode/utf8.first", "unicode/utf8.acceptRanges", "meridian/civil.ahead"], apart := false, laid := [("unicode/utf8.acceptRanges", laid_unicode_utf8_acceptRanges), ("meridian/civil.ahead", laid_meridian_civil_ahead), ("unicode/utf8.first", laid_unicode_utf8_first)], narrowed := true }
def FooterNearUptoSaid : Prop := footerNearUptoRow.holds Tryz.pinned (OpenSpec.upto footerNearSpec)

/-- 'meridianlaw14.TableMakes', WHERE WHAT IT READS IS OF BULK AT MOST 1048576: true; the input reads as it did. -/
def tableMakesUptoRow : OpenClaim := { program := "yteekjfgjmccdnaagreatdoor", sum := "9356c627d810dd546cd83911fc7e80eade6193c866e370cb2295b34794331804", func := "meridian/meridianlaw14.TableMakes", spec := "tableMakes", inPlace := ["internal/bytealg.IndexByteString", "internal/bytealg.IndexString", "internal/bytealg.CountString", "internal/abi.NoEscape", "internal/bytealg.MakeNoZero"], unfollowed := true, recurses := true, named := ["internal/bytealg.MaxLen", "unicode/utf8.first", "unicode/utf8.acceptRanges", "meridian/civil.ahead"], apart := false, laid := [("unicode/utf8.acceptRanges", laid_unicode_utf8_acceptRanges), ("meridian/civil.ahead", laid_meridian_civil_ahead), ("unicode/utf8.first", laid_unicode_utf8_first)], narrowed := true }
def TableMakesUptoSaid : Prop := tableMakesUptoRow.holds Tryz.pinned (OpenSpec.upto tableMakesSpec)

/-- 'meridianlaw14.TableErrs', WHERE WHAT IT READS IS OF BULK AT MOST 1048576: true; the input reads as it did. -/
def tableErrsUptoRow : OpenClaim := { program := "yteekjfgjmccdnaagreatdoor", sum := "9356c627d810dd546cd83911fc7e80eade6193c866e370cb2295b34794331804", func := "meridian/meridianlaw14.TableErrs", spec := "tableErrs", inPlace := ["internal/bytealg.IndexByteString", "internal/bytealg.IndexString", "internal/bytealg.CountString", "internal/abi.NoEscape", "internal/bytealg.MakeNoZero"], unfollowed := true, recurses := true, named := ["internal/bytealg.MaxLen", "unicode/utf8.first", "unicode/utf8.acceptRanges", "meridian/civil.ahead"], apart := false, laid := [("unicode/utf8.acceptRanges", laid_unicode_utf8_acceptRanges), ("meridian/civil.ahead", laid_meridian_civil_ahead), ("unicode/utf8.first", laid_unicode_utf8_first)], narrowed := true }
def TableErrsUptoSaid : Prop := tableErrsUptoRow.holds Tryz.pinned (OpenSpec.upto tableErrsSpec)

/-- 'meridianlaw14.TableJoins', WHERE WHAT IT READS IS OF BULK AT MOST 1048576: true; the input reads as it did. -/
def tableJoinsUptoRow : OpenClaim := { program := "yteekjfgjmccdnaagreatdoor", sum := "9356c627d810dd546cd83911fc7e80eade6193c866e370cb2295b34794331804", func := "meridian/meridianlaw14.TableJoins", spec := "tableJoins", inPlace := ["internal/bytealg.IndexByteString", "internal/bytealg.IndexString", "internal/bytealg.CountString", "internal/abi.NoEscape", "internal/bytealg.MakeNoZero"], unfollowed := true, recurses := true, named := ["internal/bytealg.MaxLen", "unicode/utf8.first", "unicode/utf8.acceptRanges", "meridian/civil.ahead"], apart := false, laid := [("unicode/utf8.acceptRanges", laid_unicode_utf8_acceptRanges), ("meridian/civil.ahead", laid_meridian_civil_ahead), ("unicode/utf8.first", laid_unicode_utf8_first)], narrowed := true }
def TableJoinsUptoSaid : Prop := tableJoinsUptoRow.holds Tryz.pinned (OpenSpec.upto tableJoinsSpec)

/-- 'meridianlaw14.TableShows', WHERE WHAT IT READS IS OF BULK AT MOST 1048576: true; the input reads as it did. -/
def tableShowsUptoRow : OpenClaim := { program := "yteekjfgjmccdnaagreatdoor", sum := "9356c627d810dd546cd83911fc7e80eade6193c866e370cb2295b34794331804", func := "meridian/meridianlaw14.TableShows", spec := "tableShows", inPlace := ["internal/bytealg.IndexByteString", "internal/bytealg.IndexString", "internal/bytealg.CountString", "internal/abi.NoEscape", "internal/bytealg.MakeNoZero"], unfollowed := true, recurses := true, named := ["internal/bytealg.MaxLen", "unicode/utf8.first", "unicode/utf8.acceptRanges", "meridian/civil.ahead"], apart := false, laid := [("unicode/utf8.acceptRanges", laid_unicode_utf8_acceptRanges), ("meridian/civil.ahead", laid_meridian_civil_ahead), ("unicode/utf8.first", laid_unicode_utf8_first)], narrowed := true }
def TableShowsUptoSaid : Prop := tableShowsUptoRow.holds Tryz.pinned (OpenSpec.upto tableShowsSpec)

end Rows
end Go.Proofs.YteekjfgjmccdnaaGreatDoor
