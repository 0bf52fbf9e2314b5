/-
  No cell of these rows narrows 'for every input' (looked for: loops, veiled, ifaces, maps, wideKeys, modest, calm, conditions, laid).
  DERIVED. THE GIVEN ROWS OF THIS SEAT. 6 by the template 'for every input the law returns true; each argument reads behind the call as it read before'; 0 by the template 'total and deterministic' (their statements: YtlkpkmdomecopaaTotals.lean).
  GIVEN WITH THE SEED: the statements are not yours to turn. If you find one false, say at which input.
  Laid BY PROGRAM, IN A SANDBOX (cutbox-rows.mjs): the forced cells as the released guide's own fill.sh prints them over the translation d95ef11672962ced… (all of the seat's roots in one cut). By AI agents, Wed Nov 11 2026. No macro, syntax, notation, axiom, sorry.
-/
import Derived.Test.YtlkpkmdomecopaaChecked
import GoSem.Claim
import GoSem.ClaimJoined
import GoSem.ClaimMapViews
import Derived.JoinedTies
import Derived.KernelRfl
namespace Go.Proofs.Ytlkpkmdomecopaa
/- THE CELL 'sum', in the pinned program and in every row, IS THE sha256 OF THE DUMP (.gsa) THAT YtlkpkmdomecopaaProg.lean LOADS. Nothing in Lean hashes anything: it is a label: what it is worth is what the hold of that sum in a sandbox is worth. -/
noncomputable def Try.pinned : Pinned := { name := "ytlkpkmdomecopaa", sum := "d95ef11672962ced5ea83ca6fd844765e75bf2347cf95c08d717da37d69f9b15", checked := Try.checked }
namespace Rows
def none {H : Type} : Left H := { results := [], args := [] }

/-- 'meridianlaw20.LocalFinds': WHATEVER THE INPUT: true; the input reads as it did. -/
def localFindsSpec : ChangeSpec := { name := "localFinds", fn := fun _ => fun
  | [d1, d2] => { results := [.lit (.bool true)], args := [d1, d2] }
  | _ => none }
def localFindsRow : OpenClaim := { program := "ytlkpkmdomecopaa", sum := "d95ef11672962ced5ea83ca6fd844765e75bf2347cf95c08d717da37d69f9b15", func := "meridian/meridianlaw20.LocalFinds", spec := "localFinds", unfollowed := true, recurses := true, apart := false }
def LocalFindsSaid : Prop := localFindsRow.holds Try.pinned (OpenSpec.ofChange localFindsSpec)

/-- ITS FALSE NEIGHBOUR: 'it returns false'. Refute it at one input. -/
def localFindsWrong : ChangeSpec := { name := "localFinds", fn := fun _ => fun
  | [d1, d2] => { results := [.lit (.bool false)], args := [d1, d2] }
  | _ => none }
def LocalFindsWrongFalsely : Prop := localFindsRow.holds Try.pinned (OpenSpec.ofChange localFindsWrong)

/-- 'meridianlaw20.LocalSpans': WHATEVER THE INPUT: true; the input reads as it did. -/
def localSpansSpec : ChangeSpec := { name := "localSpans", fn := fun _ => fun
  | [d1, d2] => { results := [.lit (.bool true)], args := [d1, d2] }
  | _ => none }
def localSpansRow : OpenClaim := { program := "ytlkpkmdomecopaa", sum := "d95ef11672962ced5ea83ca6fd844765e75bf2347cf95c08d717da37d69f9b15", func := "meridian/meridianlaw20.LocalSpans", spec := "localSpans", unfollowed := true, recurses := true, apart := false }
def LocalSpansSaid : Prop := localSpansRow.holds Try.pinned (OpenSpec.ofChange localSpansSpec)

/-- ITS FALSE NEIGHBOUR: 'it returns false'. Refute it at one input. -/
def localSpansWrong : ChangeSpec := { name := "localSpans", fn := fun _ => fun
  | [d1, d2] => { results := [.lit (.bool false)], args := [d1, d2] }
  | _ => none }
def LocalSpansWrongFalsely : Prop := localSpansRow.holds Try.pinned (OpenSpec.ofChange localSpansWrong)

/-- 'meridianlaw20.LocalShifts': WHATEVER THE INPUT: true; the input reads as it did. -/
def localShiftsSpec : ChangeSpec := { name := "localShifts", fn := fun _ => fun
  | [d1, d2, d3] => { results := [.lit (.bool true)], args := [d1, d2, d3] }
  | _ => none }
def localShiftsRow : OpenClaim := { program := "ytlkpkmdomecopaa", sum := "d95ef11672962ced5ea83ca6fd844765e75bf2347cf95c08d717da37d69f9b15", func := "meridian/meridianlaw20.LocalShifts", spec := "localShifts", unfollowed := true, recurses := true, apart := false }
def LocalShiftsSaid : Prop := localShiftsRow.holds Try.pinned (OpenSpec.ofChange localShiftsSpec)

/-- ITS FALSE NEIGHBOUR: 'it returns false'. Refute it at one input. -/
def localShiftsWrong : ChangeSpec := { name := "localShifts", fn := fun _ => fun
  | [d1, d2, d3] => { results := [.lit (.bool false)], args := [d1, d2, d3] }
  | _ => none }
def LocalShiftsWrongFalsely : Prop := localShiftsRow.holds Try.pinned (OpenSpec.ofChange localShiftsWrong)

/-- 'meridianlaw20.LocalBack': WHATEVER THE INPUT: true; the input reads as it did. -/
def localBackSpec : ChangeSpec := { name := "localBack", fn := fun _ => fun
  | [d1, d2, d3] => { results := [.lit (.bool true)], args := [d1, d2, d3] }
  | _ => none }
def localBackRow : OpenClaim := { program := "ytlkpkmdomecopaa", sum := "d95ef11672962ced5ea83ca6fd844765e75bf2347cf95c08d717da37d69f9b15", func := "meridian/meridianlaw20.LocalBack", spec := "localBack", unfollowed := true, recurses := true, apart := false }
def LocalBackSaid : Prop := localBackRow.holds Try.pinned (OpenSpec.ofChange localBackSpec)

/-- ITS FALSE NEIGHBOUR: 'it returns false'. Refute it at one input. -/
def localBackWrong : ChangeSpec := { name := "localBack", fn := fun _ => fun
  | [d1, d2, d3] => { results := [.lit (.bool false)], args := [d1, d2, d3] }
  | _ => none }
def LocalBackWrongFalsely : Prop := localBackRow.holds Try.pinned (OpenSpec.ofChange localBackWrong)

/-- 'meridianlaw20.LocalErrs': WHATEVER THE INPUT: true; the input reads as it did. -/
def localErrsSpec : ChangeSpec := { name := "localErrs", fn := fun _ => fun
  | [d1, d2] => { results := [.lit (.bool true)], args := [d1, d2] }
  | _ => none }
def localErrsRow : OpenClaim := { program := "ytlkpkmdomecopaa", sum := "d95ef11672962ced5ea83ca6fd844765e75bf2347cf95c08d717da37d69f9b15", func := "meridian/meridianlaw20.LocalErrs", spec := "localErrs", unfollowed := true, recurses := true, apart := false }
def LocalErrsSaid : Prop := localErrsRow.holds Try.pinned (OpenSpec.ofChange localErrsSpec)

/-- ITS FALSE NEIGHBOUR: 'it returns false'. Refute it at one input. -/
def localErrsWrong : ChangeSpec := { name := "localErrs", fn := fun _ => fun
  | [d1, d2] => { results := [.lit (.bool false)], args := [d1, d2] }
  | _ => none }
def LocalErrsWrongFalsely : Prop := localErrsRow.holds Try.pinned (OpenSpec.ofChange localErrsWrong)

/-- 'meridianlaw20.LocalPairs': WHATEVER THE INPUT: true; the input reads as it did. -/
def localPairsSpec : ChangeSpec := { name := "localPairs", fn := fun _ => fun
  | [d1, d2] => { results := [.lit (.bool true)], args := [d1, d2] }
  | _ => none }
def localPairsRow : OpenClaim := { program := "ytlkpkmdomecopaa", sum := "d95ef11672962ced5ea83ca6fd844765e75bf2347cf95c08d717da37d69f9b15", func := "meridian/meridianlaw20.LocalPairs", spec := "localPairs", unfollowed := true, recurses := true, apart := false }
def LocalPairsSaid : Prop := localPairsRow.holds Try.pinned (OpenSpec.ofChange localPairsSpec)

/-- ITS FALSE NEIGHBOUR: 'it returns false'. Refute it at one input. -/
def localPairsWrong : ChangeSpec := { name := "localPairs", fn := fun _ => fun
  | [d1, d2] => { results := [.lit (.bool false)], args := [d1, d2] }
  | _ => none }
def LocalPairsWrongFalsely : Prop := localPairsRow.holds Try.pinned (OpenSpec.ofChange localPairsWrong)

/- THE SECOND FORM. 'bulk': how many values and letters a reading holds, each counted each time it is reached (what is shared counts as often as it is met; a slice's spare places count too). A statement '..UptoSaid' is the law's where the arguments, and the package variables that the reading takes, are together of bulk at most 1048576: NARROWER than '..Said'. Prove '..Said' where nothing that the law and all that it calls make is longer than what came in: it says more and counts as full. Else prove '..UptoSaid'. A law counts once. -/
mutual
def uptoBulk {H : Type} : DataW H → Nat
  | .lit (.string bytes) => bytes.length + 1
  | .lit _ => 1
  | .nil => 1
  | .ptr d => uptoBulk d + 1
  | .slice elems spare => uptoBulkAll elems + uptoBulkAll spare + 1
  | .agg parts => uptoBulkAll parts + 1
  | .iface _ d => uptoBulk d + 1
  | .map entries => uptoBulkEntries entries + 1
  | .held _ => 1
def uptoBulkAll {H : Type} : List (DataW H) → Nat
  | [] => 0
  | d :: r => uptoBulk d + uptoBulkAll r
def uptoBulkEntries {H : Type} : List (Lit × DataW H) → Nat
  | [] => 0
  | x :: r => uptoBulkEntry x + uptoBulkEntries r
def uptoBulkEntry {H : Type} : Lit × DataW H → Nat
  | (.string bytes, d) => bytes.length + uptoBulk d + 1
  | (_, d) => uptoBulk d + 1
 end
def uptoSmall : (H : Type) → List (DataW H) → Bool := fun _ ds => decide (uptoBulkAll ds ≤ 1048576)
def OpenSpec.upto (s : _root_.Go.ChangeSpec) : _root_.Go.OpenSpec := { _root_.Go.OpenSpec.ofChange s with cond := some uptoSmall }

/-- 'meridianlaw20.LocalFinds', WHERE WHAT IT READS IS OF BULK AT MOST 1048576: true; the input reads as it did. -/
def localFindsUptoRow : OpenClaim := { program := "ytlkpkmdomecopaa", sum := "d95ef11672962ced5ea83ca6fd844765e75bf2347cf95c08d717da37d69f9b15", func := "meridian/meridianlaw20.LocalFinds", spec := "localFinds", unfollowed := true, recurses := true, apart := false, narrowed := true }
def LocalFindsUptoSaid : Prop := localFindsUptoRow.holds Try.pinned (OpenSpec.upto localFindsSpec)

/-- 'meridianlaw20.LocalSpans', WHERE WHAT IT READS IS OF BULK AT MOST 1048576: true; the input reads as it did. -/
def localSpansUptoRow : OpenClaim := { program := "ytlkpkmdomecopaa", sum := "d95ef11672962ced5ea83ca6fd844765e75bf2347cf95c08d717da37d69f9b15", func := "meridian/meridianlaw20.LocalSpans", spec := "localSpans", unfollowed := true, recurses := true, apart := false, narrowed := true }
def LocalSpansUptoSaid : Prop := localSpansUptoRow.holds Try.pinned (OpenSpec.upto localSpansSpec)

/-- 'meridianlaw20.LocalShifts', WHERE WHAT IT READS IS OF BULK AT MOST 1048576: true; the input reads as it did. -/
def localShiftsUptoRow : OpenClaim := { program := "ytlkpkmdomecopaa", sum := "d95ef11672962ced5ea83ca6fd844765e75bf2347cf95c08d717da37d69f9b15", func := "meridian/meridianlaw20.LocalShifts", spec := "localShifts", unfollowed := true, recurses := true, apart := false, narrowed := true }
def LocalShiftsUptoSaid : Prop := localShiftsUptoRow.holds Try.pinned (OpenSpec.upto localShiftsSpec)

/-- 'meridianlaw20.LocalBack', WHERE WHAT IT READS IS OF BULK AT MOST 1048576: true; the input reads as it did. -/
def localBackUptoRow : OpenClaim := { program := "ytlkpkmdomecopaa", sum := "d95ef11672962ced5ea83ca6fd844765e75bf2347cf95c08d717da37d69f9b15", func := "meridian/meridianlaw20.LocalBack", spec := "localBack", unfollowed := true, recurses := true, apart := false, narrowed := true }
def LocalBackUptoSaid : Prop := localBackUptoRow.holds Try.pinned (OpenSpec.upto localBackSpec)

/-- 'meridianlaw20.LocalErrs', WHERE WHAT IT READS IS OF BULK AT MOST 1048576: true; the input reads as it did. -/
def localErrsUptoRow : OpenClaim := { program := "ytlkpkmdomecopaa", sum := "d95ef11672962ced5ea83ca6fd844765e75bf2347cf95c08d717da37d69f9b15", func := "meridian/meridianlaw20.LocalErrs", spec := "localErrs", unfollowed := true, recurses := true, apart := false, narrowed := true }
def LocalErrsUptoSaid : Prop := localErrsUptoRow.holds Try.pinned (OpenSpec.upto localErrsSpec)

/-- 'meridianlaw20.LocalPairs', WHERE WHAT IT READS IS OF BULK AT MOST 1048576: true; the input reads as it did. -/
def localPairsUptoRow : OpenClaim := { program := "ytlkpkmdomecopaa", sum := "d95ef11672962ced5ea83ca6fd844765e75bf2347cf95c08d717da37d69f9b15", func := "meridian/meridianlaw20.LocalPairs", spec := "localPairs", unfollowed := true, recurses := true, apart := false, narrowed := true }
def LocalPairsUptoSaid : Prop := localPairsUptoRow.holds Try.pinned (OpenSpec.upto localPairsSpec)

end Rows
end Go.Proofs.Ytlkpkmdomecopaa
