/-
  NARROWER THAN 'FOR EVERY INPUT', by the rows' own cells (each row's printed sentence says how): ZipWrites: laid · ZipReads: laid · ZipBack: laid · ZipTurns: laid · ZipGrows: laid.
  DERIVED. THE GIVEN ROWS OF THIS SEAT. 5 by the template 'for every input the law returns true; each argument reads behind the call as it read before'; 0 by the template 'total and deterministic' (their statements: YtmhadkdbonfmdaaDoorTotals.lean).
  GIVEN WITH THE SEED: the statements are not yours to turn. If you find one false, say at which input.
  Laid BY PROGRAM, IN A SANDBOX (cutbox-rows.mjs): the forced cells as the released guide's own fill.sh prints them over the translation 8ec76203b76b06a1… (all of the seat's roots in one cut). By AI agents, Wed Nov 11 2026. No macro, syntax, notation, axiom, sorry.
-/
import Derived.Test.YtmhadkdbonfmdaaDoorChecked
import GoSem.PinnedTables
import GoSem.Claim
import GoSem.ClaimJoined
import GoSem.ClaimMapViews
import Derived.JoinedTies
import Derived.KernelRfl
namespace Go.Proofs.YtmhadkdbonfmdaaDoor
/- THE CELL 'sum', in the pinned program and in every row, IS THE sha256 OF THE DUMP (.gsa) THAT YtmhadkdbonfmdaaDoorProg.lean LOADS. Nothing in Lean hashes anything: it is a label: what it is worth is what the hold of that sum in a sandbox is worth. -/
noncomputable def Tryd.pinned : Pinned := { name := "ytmhadkdbonfmdaadoor", sum := "8ec76203b76b06a12c8d3278a552c9d14e93c7631cd2bbbfbfb4ce10f12000ea", checked := Tryd.checked }
namespace Rows
def none {H : Type} : Left H := { results := [], args := [] }

/- WHAT THE LISTED PACKAGE-LEVEL VARIABLES READ AS WHEN THE CALL BEGINS. Each datum BY PROGRAM (the guide's laid-datum.mjs) off the statement by which the dump's own 'gosem.cut.vars' lays the variable. In a bare row this is a premise. The card (YtmhadkdbonfmdaaDoorCards.lean) ties it to the program's text. -/
def laid_unicode_utf8_acceptRanges {H : Type} : DataW H := .agg [.agg [.lit (.int .u8 128), .lit (.int .u8 191)], .agg [.lit (.int .u8 160), .lit (.int .u8 191)], .agg [.lit (.int .u8 128), .lit (.int .u8 159)], .agg [.lit (.int .u8 144), .lit (.int .u8 191)], .agg [.lit (.int .u8 128), .lit (.int .u8 143)], .agg [.lit (.int .u8 0), .lit (.int .u8 0)], .agg [.lit (.int .u8 0), .lit (.int .u8 0)], .agg [.lit (.int .u8 0), .lit (.int .u8 0)], .agg [.lit (.int .u8 0), .lit (.int .u8 0)], .agg [.lit (.int .u8 0), .lit (.int .u8 0)], .agg [.lit (.int .u8 0), .lit (.int .u8 0)], .agg [.lit (.int .u8 0), .lit (.int .u8 0)], .agg [.lit (.int .u8 0), .lit (.int .u8 0)], .agg [.lit (.int .u8 0), .lit (.int .u8 0)], .agg [.lit (.int .u8 0), .lit (.int .u8 0)], .agg [.lit (.int .u8 0), .lit (.int .u8 0)]]
def laid_meridian_crc_fours {H : Type} : DataW H := .agg [.lit (.int .i64 0), .lit (.int .i64 498536548), .lit (.int .i64 997073096), .lit (.int .i64 651767980), .lit (.int .i64 1994146192), .lit (.int .i64 1802195444), .lit (.int .i64 1303535960), .lit (.int .i64 1342533948), .lit (.int .i64 3988292384), .lit (.int .i64 4027552580), .lit (.int .i64 3604390888), .lit (.int .i64 3412177804), .lit (.int .i64 2607071920), .lit (.int .i64 2262029012), .lit (.int .i64 2685067896), .lit (.int .i64 3183342108)]
/-- One of Go's own tables, pinned by name: the form's constant. -/
def laid_unicode_utf8_first : DataW Unit := Go.Pinned.utf8First

/-- 'meridianlaw16.ZipWrites': WHATEVER THE INPUT: true; the input reads as it did. -/
def zipWritesSpec : ChangeSpec := { name := "zipWrites", fn := fun _ => fun
  | [d] => { results := [.lit (.bool true)], args := [d] }
  | _ => none }
def zipWritesRow : OpenClaim := { program := "ytmhadkdbonfmdaadoor", sum := "8ec76203b76b06a12c8d3278a552c9d14e93c7631cd2bbbfbfb4ce10f12000ea", func := "meridian/meridianlaw16.ZipWrites", spec := "zipWrites", inPlace := ["internal/bytealg.IndexByteString", "internal/bytealg.IndexString"], unfollowed := true, recurses := true, named := ["unicode/utf8.first", "unicode/utf8.acceptRanges", "meridian/crc.fours", "internal/bytealg.MaxLen"], apart := false, laid := [("unicode/utf8.acceptRanges", laid_unicode_utf8_acceptRanges), ("meridian/crc.fours", laid_meridian_crc_fours), ("unicode/utf8.first", laid_unicode_utf8_first)] }
def ZipWritesSaid : Prop := zipWritesRow.holds Tryd.pinned (OpenSpec.ofChange zipWritesSpec)

/-- ITS FALSE NEIGHBOUR: 'it returns false'. Refute it at one input. -/
def zipWritesWrong : ChangeSpec := { name := "zipWrites", fn := fun _ => fun
  | [d] => { results := [.lit (.bool false)], args := [d] }
  | _ => none }
def ZipWritesWrongFalsely : Prop := zipWritesRow.holds Tryd.pinned (OpenSpec.ofChange zipWritesWrong)

/-- 'meridianlaw16.ZipReads': WHATEVER THE INPUT: true; the input reads as it did. -/
def zipReadsSpec : ChangeSpec := { name := "zipReads", fn := fun _ => fun
  | [d] => { results := [.lit (.bool true)], args := [d] }
  | _ => none }
def zipReadsRow : OpenClaim := { program := "ytmhadkdbonfmdaadoor", sum := "8ec76203b76b06a12c8d3278a552c9d14e93c7631cd2bbbfbfb4ce10f12000ea", func := "meridian/meridianlaw16.ZipReads", spec := "zipReads", inPlace := ["internal/bytealg.IndexByteString", "internal/bytealg.IndexString"], unfollowed := true, recurses := true, named := ["unicode/utf8.first", "unicode/utf8.acceptRanges", "meridian/crc.fours", "internal/bytealg.MaxLen"], apart := false, laid := [("unicode/utf8.acceptRanges", laid_unicode_utf8_acceptRanges), ("meridian/crc.fours", laid_meridian_crc_fours), ("unicode/utf8.first", laid_unicode_utf8_first)] }
def ZipReadsSaid : Prop := zipReadsRow.holds Tryd.pinned (OpenSpec.ofChange zipReadsSpec)

/-- ITS FALSE NEIGHBOUR: 'it returns false'. Refute it at one input. -/
def zipReadsWrong : ChangeSpec := { name := "zipReads", fn := fun _ => fun
  | [d] => { results := [.lit (.bool false)], args := [d] }
  | _ => none }
def ZipReadsWrongFalsely : Prop := zipReadsRow.holds Tryd.pinned (OpenSpec.ofChange zipReadsWrong)

/-- 'meridianlaw16.ZipBack': WHATEVER THE INPUT: true; the input reads as it did. -/
def zipBackSpec : ChangeSpec := { name := "zipBack", fn := fun _ => fun
  | [d1, d2] => { results := [.lit (.bool true)], args := [d1, d2] }
  | _ => none }
def zipBackRow : OpenClaim := { program := "ytmhadkdbonfmdaadoor", sum := "8ec76203b76b06a12c8d3278a552c9d14e93c7631cd2bbbfbfb4ce10f12000ea", func := "meridian/meridianlaw16.ZipBack", spec := "zipBack", inPlace := ["internal/bytealg.IndexByteString", "internal/bytealg.IndexString"], unfollowed := true, recurses := true, named := ["unicode/utf8.first", "unicode/utf8.acceptRanges", "meridian/crc.fours", "internal/bytealg.MaxLen"], apart := false, laid := [("unicode/utf8.acceptRanges", laid_unicode_utf8_acceptRanges), ("meridian/crc.fours", laid_meridian_crc_fours), ("unicode/utf8.first", laid_unicode_utf8_first)] }
def ZipBackSaid : Prop := zipBackRow.holds Tryd.pinned (OpenSpec.ofChange zipBackSpec)

/-- ITS FALSE NEIGHBOUR: 'it returns false'. Refute it at one input. -/
def zipBackWrong : ChangeSpec := { name := "zipBack", fn := fun _ => fun
  | [d1, d2] => { results := [.lit (.bool false)], args := [d1, d2] }
  | _ => none }
def ZipBackWrongFalsely : Prop := zipBackRow.holds Tryd.pinned (OpenSpec.ofChange zipBackWrong)

/-- 'meridianlaw16.ZipTurns': WHATEVER THE INPUT: true; the input reads as it did. -/
def zipTurnsSpec : ChangeSpec := { name := "zipTurns", fn := fun _ => fun
  | [d1, d2, d3] => { results := [.lit (.bool true)], args := [d1, d2, d3] }
  | _ => none }
def zipTurnsRow : OpenClaim := { program := "ytmhadkdbonfmdaadoor", sum := "8ec76203b76b06a12c8d3278a552c9d14e93c7631cd2bbbfbfb4ce10f12000ea", func := "meridian/meridianlaw16.ZipTurns", spec := "zipTurns", inPlace := ["internal/bytealg.IndexByteString", "internal/bytealg.IndexString"], unfollowed := true, recurses := true, named := ["unicode/utf8.first", "unicode/utf8.acceptRanges", "meridian/crc.fours", "internal/bytealg.MaxLen"], apart := false, laid := [("unicode/utf8.acceptRanges", laid_unicode_utf8_acceptRanges), ("meridian/crc.fours", laid_meridian_crc_fours), ("unicode/utf8.first", laid_unicode_utf8_first)] }
def ZipTurnsSaid : Prop := zipTurnsRow.holds Tryd.pinned (OpenSpec.ofChange zipTurnsSpec)

/-- ITS FALSE NEIGHBOUR: 'it returns false'. Refute it at one input. -/
def zipTurnsWrong : ChangeSpec := { name := "zipTurns", fn := fun _ => fun
  | [d1, d2, d3] => { results := [.lit (.bool false)], args := [d1, d2, d3] }
  | _ => none }
def ZipTurnsWrongFalsely : Prop := zipTurnsRow.holds Tryd.pinned (OpenSpec.ofChange zipTurnsWrong)

/-- 'meridianlaw16.ZipGrows': WHATEVER THE INPUT: true; the input reads as it did. -/
def zipGrowsSpec : ChangeSpec := { name := "zipGrows", fn := fun _ => fun
  | [d1, d2] => { results := [.lit (.bool true)], args := [d1, d2] }
  | _ => none }
def zipGrowsRow : OpenClaim := { program := "ytmhadkdbonfmdaadoor", sum := "8ec76203b76b06a12c8d3278a552c9d14e93c7631cd2bbbfbfb4ce10f12000ea", func := "meridian/meridianlaw16.ZipGrows", spec := "zipGrows", inPlace := ["internal/bytealg.IndexByteString", "internal/bytealg.IndexString"], unfollowed := true, recurses := true, named := ["unicode/utf8.first", "unicode/utf8.acceptRanges", "meridian/crc.fours", "internal/bytealg.MaxLen"], apart := false, laid := [("unicode/utf8.acceptRanges", laid_unicode_utf8_acceptRanges), ("meridian/crc.fours", laid_meridian_crc_fours), ("unicode/utf8.first", laid_unicode_utf8_first)] }
def ZipGrowsSaid : Prop := zipGrowsRow.holds Tryd.pinned (OpenSpec.ofChange zipGrowsSpec)

/-- ITS FALSE NEIGHBOUR: 'it returns false'. Refute it at one input. -/
def zipGrowsWrong : ChangeSpec := { name := "zipGrows", fn := fun _ => fun
  | [d1, d2] => { results := [.lit (.bool false)], args := [d1, d2] }
  | _ => none }
def ZipGrowsWrongFalsely : Prop := zipGrowsRow.holds Tryd.pinned (OpenSpec.ofChange zipGrowsWrong)

/- THE SECOND FORM. 'bulk': how many values and letters a reading holds, each counted each time it is reached (what is shared counts as often as it is met; a slice's spare places count too). A statement '..UptoSaid' is the law's where the arguments, and the package variables that the reading takes, are together of bulk at most 1048576: NARROWER than '..Said'. Prove '..Said' where nothing that the law and all that it calls make is longer than what came in: it says more and counts as full. Else prove '..UptoSaid'. A law counts once. -/
mutual
def uptoBulk {H : Type} : DataW H → Nat
  | .lit (.string bytes) => bytes.length + 1
  | .lit _ => 1
  | .nil => 1
  | .ptr d => uptoBulk d + 1
  | .slice elems spare => uptoBulkAll elems + uptoBulkAll spare + 1
  | .agg parts => uptoBulkAll parts + 1
  | .iface _ d => uptoBulk d + 1
  | .map entries => uptoBulkEntries entries + 1
  | .held _ => 1
def uptoBulkAll {H : Type} : List (DataW H) → Nat
  | [] => 0
  | d :: r => uptoBulk d + uptoBulkAll r
def uptoBulkEntries {H : Type} : List (Lit × DataW H) → Nat
  | [] => 0
  | x :: r => uptoBulkEntry x + uptoBulkEntries r
def uptoBulkEntry {H : Type} : Lit × DataW H → Nat
  | (.string bytes, d) => bytes.length + uptoBulk d + 1
  | (_, d) => uptoBulk d + 1
 end
def uptoSmall : (H : Type) → List (DataW H) → Bool := fun _ ds => decide (uptoBulkAll ds ≤ 1048576)
def OpenSpec.upto (s : _root_.Go.ChangeSpec) : _root_.Go.OpenSpec := { _root_.Go.OpenSpec.ofChange s with cond := some uptoSmall }

/-- 'meridianlaw16.ZipWrites', WHERE WHAT IT READS IS OF BULK AT MOST 1048576: true; the input reads as it did. -/
def zipWritesUptoRow : OpenClaim := { program := "ytmhadkdbonfmdaadoor", sum := "8ec76203b76b06a12c8d3278a552c9d14e93c7631cd2bbbfbfb4ce10f12000ea", func := "meridian/meridianlaw16.ZipWrites", spec := "zipWrites", inPlace := ["internal/bytealg.IndexByteString", "internal/bytealg.IndexString"], unfollowed := true, recurses := true, named := ["unicode/utf8.first", "unicode/utf8.acceptRanges", "meridian/crc.fours", "internal/bytealg.MaxLen"], apart := false, laid := [("unicode/utf8.acceptRanges", laid_unicode_utf8_acceptRanges), ("meridian/crc.fours", laid_meridian_crc_fours), ("unicode/utf8.first", laid_unicode_utf8_first)], narrowed := true }
def ZipWritesUptoSaid : Prop := zipWritesUptoRow.holds Tryd.pinned (OpenSpec.upto zipWritesSpec)

/-- 'meridianlaw16.ZipReads', WHERE WHAT IT READS IS OF BULK AT MOST 1048576: true; the input reads as it did. -/
def zipReadsUptoRow : OpenClaim := { program := "ytmhadkdbonfmdaadoor", sum := "8ec76203b76b06a12c8d3278a552c9d14e93c7631cd2bbbfbfb4ce10f12000ea", func := "meridian/meridianlaw16.ZipReads", spec := "zipReads", inPlace := ["internal/bytealg.IndexByteString", "internal/bytealg.IndexString"], unfollowed := true, recurses := true, named := ["unicode/utf8.first", "unicode/utf8.acceptRanges", "meridian/crc.fours", "internal/bytealg.MaxLen"], apart := false, laid := [("unicode/utf8.acceptRanges", laid_unicode_utf8_acceptRanges), ("meridian/crc.fours", laid_meridian_crc_fours), ("unicode/utf8.first", laid_unicode_utf8_first)], narrowed := true }
def ZipReadsUptoSaid : Prop := zipReadsUptoRow.holds Tryd.pinned (OpenSpec.upto zipReadsSpec)

/-- 'meridianlaw16.ZipBack', WHERE WHAT IT READS IS OF BULK AT MOST 1048576: true; the input reads as it did. -/
def zipBackUptoRow : OpenClaim := { program := "ytmhadkdbonfmdaadoor", sum := "8ec76203b76b06a12c8d3278a552c9d14e93c7631cd2bbbfbfb4ce10f12000ea", func := "meridian/meridianlaw16.ZipBack", spec := "zipBack", inPlace := ["internal/bytealg.IndexByteString", "internal/bytealg.IndexString"], unfollowed := true, recurses := true, named := ["unicode/utf8.first", "unicode/utf8.acceptRanges", "meridian/crc.fours", "internal/bytealg.MaxLen"], apart := false, laid := [("unicode/utf8.acceptRanges", laid_unicode_utf8_acceptRanges), ("meridian/crc.fours", laid_meridian_crc_fours), ("unicode/utf8.first", laid_unicode_utf8_first)], narrowed := true }
def ZipBackUptoSaid : Prop := zipBackUptoRow.holds Tryd.pinned (OpenSpec.upto zipBackSpec)

/-- 'meridianlaw16.ZipTurns', WHERE WHAT IT READS IS OF BULK AT MOST 1048576: true; the input reads as it did. -/
def zipTurnsUptoRow : OpenClaim := { program := "ytmhadkdbonfmdaadoor", sum := "8ec76203b76b06a12c8d3278a552c9d14e93c7631cd2bbbfbfb4ce10f12000ea", func := "meridian/meridianlaw16.ZipTurns", spec := "zipTurns", inPlace := ["internal/bytealg.IndexByteString", "internal/bytealg.IndexString"], unfollowed := true, recurses := true, named := ["unicode/utf8.first", "unicode/utf8.acceptRanges", "meridian/crc.fours", "internal/bytealg.MaxLen"], apart := false, laid := [("unicode/utf8.acceptRanges", laid_unicode_utf8_acceptRanges), ("meridian/crc.fours", laid_meridian_crc_fours), ("unicode/utf8.first", laid_unicode_utf8_first)], narrowed := true }
def ZipTurnsUptoSaid : Prop := zipTurnsUptoRow.holds Tryd.pinned (OpenSpec.upto zipTurnsSpec)

/-- 'meridianlaw16.ZipGrows', WHERE WHAT IT READS IS OF BULK AT MOST 1048576: true; the input reads as it did. -/
def zipGrowsUptoRow : OpenClaim := { program := "ytmhadkdbonfmdaadoor", sum := "8ec76203b76b06a12c8d3278a552c9d14e93c7631cd2bbbfbfb4ce10f12000ea", func := "meridian/meridianlaw16.ZipGrows", spec := "zipGrows", inPlace := ["internal/bytealg.IndexByteString", "internal/bytealg.IndexString"], unfollowed := true, recurses := true, named := ["unicode/utf8.first", "unicode/utf8.acceptRanges", "meridian/crc.fours", "internal/bytealg.MaxLen"], apart := false, laid := [("unicode/utf8.acceptRanges", laid_unicode_utf8_acceptRanges), ("meridian/crc.fours", laid_meridian_crc_fours), ("unicode/utf8.first", laid_unicode_utf8_first)], narrowed := true }
def ZipGrowsUptoSaid : Prop := zipGrowsUptoRow.holds Tryd.pinned (OpenSpec.upto zipGrowsSpec)

end Rows
end Go.Proofs.YtmhadkdbonfmdaaDoor
