/-
  NARROWER THAN 'FOR EVERY INPUT', by the rows' own cells (each row's printed sentence says how): CrcSums: laid · CrcShifts: laid · CrcJoins: laid · CrcTurns: laid · CrcFinds: laid · CrcLinear: laid.
  DERIVED. THE GIVEN ROWS OF THIS SEAT. 6 by the template 'for every input the law returns true; each argument reads behind the call as it read before'; 0 by the template 'total and deterministic' (their statements: YthlgeffjoaiojaaDoorTotals.lean).
  GIVEN WITH THE SEED: the statements are not yours to turn. If you find one false, say at which input.
  Laid BY PROGRAM, IN A SANDBOX (cutbox-rows.mjs): the forced cells as the released guide's own fill.sh prints them over the translation 0c52196e180cdc8a… (all of the seat's roots in one cut). By AI agents, Wed Nov 11 2026. No macro, syntax, notation, axiom, sorry.
-/
import Derived.Test.YthlgeffjoaiojaaDoorChecked
import GoSem.Claim
import GoSem.ClaimJoined
import GoSem.ClaimMapViews
import Derived.JoinedTies
import Derived.KernelRfl
namespace Go.Proofs.YthlgeffjoaiojaaDoor
/- THE CELL 'sum', in the pinned program and in every row, IS THE sha256 OF THE DUMP (.gsa) THAT YthlgeffjoaiojaaDoorProg.lean LOADS. Nothing in Lean hashes anything: it is a label: what it is worth is what the hold of that sum in a sandbox is worth. -/
noncomputable def Tryd.pinned : Pinned := { name := "ythlgeffjoaiojaadoor", sum := "0c52196e180cdc8a5b361301dd22693aa909d4774bc05996b31ef3a3ef336614", checked := Tryd.checked }
namespace Rows
def none {H : Type} : Left H := { results := [], args := [] }

/- WHAT THE LISTED PACKAGE-LEVEL VARIABLES READ AS WHEN THE CALL BEGINS. Each datum BY PROGRAM (the guide's laid-datum.mjs) off the statement by which the dump's own 'gosem.cut.vars' lays the variable. In a bare row this is a premise. The card (YthlgeffjoaiojaaDoorCards.lean) ties it to the program's text. -/
def laid_meridian_crc_fours {H : Type} : DataW H := .agg [.lit (.int .i64 0), .lit (.int .i64 498536548), .lit (.int .i64 997073096), .lit (.int .i64 651767980), .lit (.int .i64 1994146192), .lit (.int .i64 1802195444), .lit (.int .i64 1303535960), .lit (.int .i64 1342533948), .lit (.int .i64 3988292384), .lit (.int .i64 4027552580), .lit (.int .i64 3604390888), .lit (.int .i64 3412177804), .lit (.int .i64 2607071920), .lit (.int .i64 2262029012), .lit (.int .i64 2685067896), .lit (.int .i64 3183342108)]

/-- 'meridianlaw06.CrcSums': WHATEVER THE INPUT: true; the input reads as it did. -/
def crcSumsSpec : ChangeSpec := { name := "crcSums", fn := fun _ => fun
  | [d1, d2] => { results := [.lit (.bool true)], args := [d1, d2] }
  | _ => none }
def crcSumsRow : OpenClaim := { program := "ythlgeffjoaiojaadoor", sum := "0c52196e180cdc8a5b361301dd22693aa909d4774bc05996b31ef3a3ef336614", func := "meridian/meridianlaw06.CrcSums", spec := "crcSums", unfollowed := true, recurses := true, named := ["meridian/crc.fours"], apart := false, laid := [("meridian/crc.fours", laid_meridian_crc_fours)] }
def CrcSumsSaid : Prop := crcSumsRow.holds Tryd.pinned (OpenSpec.ofChange crcSumsSpec)

/-- ITS FALSE NEIGHBOUR: 'it returns false'. Refute it at one input. -/
def crcSumsWrong : ChangeSpec := { name := "crcSums", fn := fun _ => fun
  | [d1, d2] => { results := [.lit (.bool false)], args := [d1, d2] }
  | _ => none }
def CrcSumsWrongFalsely : Prop := crcSumsRow.holds Tryd.pinned (OpenSpec.ofChange crcSumsWrong)

/-- 'meridianlaw06.CrcShifts': WHATEVER THE INPUT: true; the input reads as it did. -/
def crcShiftsSpec : ChangeSpec := { name := "crcShifts", fn := fun _ => fun
  | [d1, d2] => { results := [.lit (.bool true)], args := [d1, d2] }
  | _ => none }
def crcShiftsRow : OpenClaim := { program := "ythlgeffjoaiojaadoor", sum := "0c52196e180cdc8a5b361301dd22693aa909d4774bc05996b31ef3a3ef336614", func := "meridian/meridianlaw06.CrcShifts", spec := "crcShifts", unfollowed := true, recurses := true, named := ["meridian/crc.fours"], apart := false, laid := [("meridian/crc.fours", laid_meridian_crc_fours)] }
def CrcShiftsSaid : Prop := crcShiftsRow.holds Tryd.pinned (OpenSpec.ofChange crcShiftsSpec)

/-- ITS FALSE NEIGHBOUR: 'it returns false'. Refute it at one input. -/
def crcShiftsWrong : ChangeSpec := { name := "crcShifts", fn := fun _ => fun
  | [d1, d2] => { results := [.lit (.bool false)], args := [d1, d2] }
  | _ => none }
def CrcShiftsWrongFalsely : Prop := crcShiftsRow.holds Tryd.pinned (OpenSpec.ofChange crcShiftsWrong)

/-- 'meridianlaw06.CrcJoins': WHATEVER THE INPUT: true; the input reads as it did. -/
def crcJoinsSpec : ChangeSpec := { name := "crcJoins", fn := fun _ => fun
  | [d1, d2] => { results := [.lit (.bool true)], args := [d1, d2] }
  | _ => none }
def crcJoinsRow : OpenClaim := { program := "ythlgeffjoaiojaadoor", sum := "0c52196e180cdc8a5b361301dd22693aa909d4774bc05996b31ef3a3ef336614", func := "meridian/meridianlaw06.CrcJoins", spec := "crcJoins", unfollowed := true, recurses := true, named := ["meridian/crc.fours"], apart := false, laid := [("meridian/crc.fours", laid_meridian_crc_fours)] }
def CrcJoinsSaid : Prop := crcJoinsRow.holds Tryd.pinned (OpenSpec.ofChange crcJoinsSpec)

/-- ITS FALSE NEIGHBOUR: 'it returns false'. Refute it at one input. -/
def crcJoinsWrong : ChangeSpec := { name := "crcJoins", fn := fun _ => fun
  | [d1, d2] => { results := [.lit (.bool false)], args := [d1, d2] }
  | _ => none }
def CrcJoinsWrongFalsely : Prop := crcJoinsRow.holds Tryd.pinned (OpenSpec.ofChange crcJoinsWrong)

/-- 'meridianlaw06.CrcTurns': WHATEVER THE INPUT: true; the input reads as it did. -/
def crcTurnsSpec : ChangeSpec := { name := "crcTurns", fn := fun _ => fun
  | [d1, d2, d3] => { results := [.lit (.bool true)], args := [d1, d2, d3] }
  | _ => none }
def crcTurnsRow : OpenClaim := { program := "ythlgeffjoaiojaadoor", sum := "0c52196e180cdc8a5b361301dd22693aa909d4774bc05996b31ef3a3ef336614", func := "meridian/meridianlaw06.CrcTurns", spec := "crcTurns", unfollowed := true, recurses := true, named := ["meridian/crc.fours"], apart := false, laid := [("meridian/crc.fours", laid_meridian_crc_fours)] }
def CrcTurnsSaid : Prop := crcTurnsRow.holds Tryd.pinned (OpenSpec.ofChange crcTurnsSpec)

/-- ITS FALSE NEIGHBOUR: 'it returns false'. Refute it at one input. -/
def crcTurnsWrong : ChangeSpec := { name := "crcTurns", fn := fun _ => fun
  | [d1, d2, d3] => { results := [.lit (.bool false)], args := [d1, d2, d3] }
  | _ => none }
def CrcTurnsWrongFalsely : Prop := crcTurnsRow.holds Tryd.pinned (OpenSpec.ofChange crcTurnsWrong)

/-- 'meridianlaw06.CrcFinds': WHATEVER THE INPUT: true; the input reads as it did. -/
def crcFindsSpec : ChangeSpec := { name := "crcFinds", fn := fun _ => fun
  | [d1, d2, d3] => { results := [.lit (.bool true)], args := [d1, d2, d3] }
  | _ => none }
def crcFindsRow : OpenClaim := { program := "ythlgeffjoaiojaadoor", sum := "0c52196e180cdc8a5b361301dd22693aa909d4774bc05996b31ef3a3ef336614", func := "meridian/meridianlaw06.CrcFinds", spec := "crcFinds", unfollowed := true, recurses := true, named := ["meridian/crc.fours"], apart := false, laid := [("meridian/crc.fours", laid_meridian_crc_fours)] }
def CrcFindsSaid : Prop := crcFindsRow.holds Tryd.pinned (OpenSpec.ofChange crcFindsSpec)

/-- ITS FALSE NEIGHBOUR: 'it returns false'. Refute it at one input. -/
def crcFindsWrong : ChangeSpec := { name := "crcFinds", fn := fun _ => fun
  | [d1, d2, d3] => { results := [.lit (.bool false)], args := [d1, d2, d3] }
  | _ => none }
def CrcFindsWrongFalsely : Prop := crcFindsRow.holds Tryd.pinned (OpenSpec.ofChange crcFindsWrong)

/-- 'meridianlaw06.CrcLinear': WHATEVER THE INPUT: true; the input reads as it did. -/
def crcLinearSpec : ChangeSpec := { name := "crcLinear", fn := fun _ => fun
  | [d1, d2, d3] => { results := [.lit (.bool true)], args := [d1, d2, d3] }
  | _ => none }
def crcLinearRow : OpenClaim := { program := "ythlgeffjoaiojaadoor", sum := "0c52196e180cdc8a5b361301dd22693aa909d4774bc05996b31ef3a3ef336614", func := "meridian/meridianlaw06.CrcLinear", spec := "crcLinear", unfollowed := true, recurses := true, named := ["meridian/crc.fours"], apart := false, laid := [("meridian/crc.fours", laid_meridian_crc_fours)] }
def CrcLinearSaid : Prop := crcLinearRow.holds Tryd.pinned (OpenSpec.ofChange crcLinearSpec)

/-- ITS FALSE NEIGHBOUR: 'it returns false'. Refute it at one input. -/
def crcLinearWrong : ChangeSpec := { name := "crcLinear", fn := fun _ => fun
  | [d1, d2, d3] => { results := [.lit (.bool false)], args := [d1, d2, d3] }
  | _ => none }
def CrcLinearWrongFalsely : Prop := crcLinearRow.holds Tryd.pinned (OpenSpec.ofChange crcLinearWrong)

/- THE SECOND FORM. 'bulk': how many values and letters a reading holds, each counted each time it is reached (what is shared counts as often as it is met; a slice's spare places count too). A statement '..UptoSaid' is the law's where the arguments, and the package variables that the reading takes, are together of bulk at most 1048576: NARROWER than '..Said'. Prove '..Said' where nothing that the law and all that it calls make is longer than what came in: it says more and counts as full. Else prove '..UptoSaid'. A law counts once. -/
mutual
def uptoBulk {H : Type} : DataW H → Nat
  | .lit (.string bytes) => bytes.length + 1
  | .lit _ => 1
  | .nil => 1
  | .ptr d => uptoBulk d + 1
  | .slice elems spare => uptoBulkAll elems + uptoBulkAll spare + 1
  | .agg parts => uptoBulkAll parts + 1
  | .iface _ d => uptoBulk d + 1
  | .map entries => uptoBulkEntries entries + 1
  | .held _ => 1
def uptoBulkAll {H : Type} : List (DataW H) → Nat
  | [] => 0
  | d :: r => uptoBulk d + uptoBulkAll r
def uptoBulkEntries {H : Type} : List (Lit × DataW H) → Nat
  | [] => 0
  | x :: r => uptoBulkEntry x + uptoBulkEntries r
def uptoBulkEntry {H : Type} : Lit × DataW H → Nat
  | (.string bytes, d) => bytes.length + uptoBulk d + 1
  | (_, d) => uptoBulk d + 1
 end
def uptoSmall : (H : Type) → List (DataW H) → Bool := fun _ ds => decide (uptoBulkAll ds ≤ 1048576)
def OpenSpec.upto (s : _root_.Go.ChangeSpec) : _root_.Go.OpenSpec := { _root_.Go.OpenSpec.ofChange s with cond := some uptoSmall }

/-- 'meridianlaw06.CrcSums', WHERE WHAT IT READS IS OF BULK AT MOST 1048576: true; the input reads as it did. -/
def crcSumsUptoRow : OpenClaim := { program := "ythlgeffjoaiojaadoor", sum := "0c52196e180cdc8a5b361301dd22693aa909d4774bc05996b31ef3a3ef336614", func := "meridian/meridianlaw06.CrcSums", spec := "crcSums", unfollowed := true, recurses := true, named := ["meridian/crc.fours"], apart := false, laid := [("meridian/crc.fours", laid_meridian_crc_fours)], narrowed := true }
def CrcSumsUptoSaid : Prop := crcSumsUptoRow.holds Tryd.pinned (OpenSpec.upto crcSumsSpec)

/-- 'meridianlaw06.CrcShifts', WHERE WHAT IT READS IS OF BULK AT MOST 1048576: true; the input reads as it did. -/
def crcShiftsUptoRow : OpenClaim := { program := "ythlgeffjoaiojaadoor", sum := "0c52196e180cdc8a5b361301dd22693aa909d4774bc05996b31ef3a3ef336614", func := "meridian/meridianlaw06.CrcShifts", spec := "crcShifts", unfollowed := true, recurses := true, named := ["meridian/crc.fours"], apart := false, laid := [("meridian/crc.fours", laid_meridian_crc_fours)], narrowed := true }
def CrcShiftsUptoSaid : Prop := crcShiftsUptoRow.holds Tryd.pinned (OpenSpec.upto crcShiftsSpec)

/-- 'meridianlaw06.CrcJoins', WHERE WHAT IT READS IS OF BULK AT MOST 1048576: true; the input reads as it did. -/
def crcJoinsUptoRow : OpenClaim := { program := "ythlgeffjoaiojaadoor", sum := "0c52196e180cdc8a5b361301dd22693aa909d4774bc05996b31ef3a3ef336614", func := "meridian/meridianlaw06.CrcJoins", spec := "crcJoins", unfollowed := true, recurses := true, named := ["meridian/crc.fours"], apart := false, laid := [("meridian/crc.fours", laid_meridian_crc_fours)], narrowed := true }
def CrcJoinsUptoSaid : Prop := crcJoinsUptoRow.holds Tryd.pinned (OpenSpec.upto crcJoinsSpec)

/-- 'meridianlaw06.CrcTurns', WHERE WHAT IT READS IS OF BULK AT MOST 1048576: true; the input reads as it did. -/
def crcTurnsUptoRow : OpenClaim := { program := "ythlgeffjoaiojaadoor", sum := "0c52196e180cdc8a5b361301dd22693aa909d4774bc05996b31ef3a3ef336614", func := "meridian/meridianlaw06.CrcTurns", spec := "crcTurns", unfollowed := true, recurses := true, named := ["meridian/crc.fours"], apart := false, laid := [("meridian/crc.fours", laid_meridian_crc_fours)], narrowed := true }
def CrcTurnsUptoSaid : Prop := crcTurnsUptoRow.holds Tryd.pinned (OpenSpec.upto crcTurnsSpec)

/-- 'meridianlaw06.CrcFinds', WHERE WHAT IT READS IS OF BULK AT MOST 1048576: true; the input reads as it did. -/
def crcFindsUptoRow : OpenClaim := { program := "ythlgeffjoaiojaadoor", sum := "0c52196e180cdc8a5b361301dd22693aa909d4774bc05996b31ef3a3ef336614", func := "meridian/meridianlaw06.CrcFinds", spec := "crcFinds", unfollowed := true, recurses := true, named := ["meridian/crc.fours"], apart := false, laid := [("meridian/crc.fours", laid_meridian_crc_fours)], narrowed := true }
def CrcFindsUptoSaid : Prop := crcFindsUptoRow.holds Tryd.pinned (OpenSpec.upto crcFindsSpec)

/-- 'meridianlaw06.CrcLinear', WHERE WHAT IT READS IS OF BULK AT MOST 1048576: true; the input reads as it did. -/
def crcLinearUptoRow : OpenClaim := { program := "ythlgeffjoaiojaadoor", sum := "0c52196e180cdc8a5b361301dd22693aa909d4774bc05996b31ef3a3ef336614", func := "meridian/meridianlaw06.CrcLinear", spec := "crcLinear", unfollowed := true, recurses := true, named := ["meridian/crc.fours"], apart := false, laid := [("meridian/crc.fours", laid_meridian_crc_fours)], narrowed := true }
def CrcLinearUptoSaid : Prop := crcLinearUptoRow.holds Tryd.pinned (OpenSpec.upto crcLinearSpec)

end Rows
end Go.Proofs.YthlgeffjoaiojaaDoor
