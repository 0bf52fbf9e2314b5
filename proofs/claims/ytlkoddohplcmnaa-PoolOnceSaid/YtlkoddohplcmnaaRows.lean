/-
  No cell of these rows narrows 'for every input' (looked for: loops, veiled, ifaces, maps, wideKeys, modest, calm, conditions, laid).
  DERIVED. THE GIVEN ROWS OF THIS SEAT. 6 by the template 'for every input the law returns true; each argument reads behind the call as it read before'; 0 by the template 'total and deterministic' (their statements: YtlkoddohplcmnaaTotals.lean).
  GIVEN WITH THE SEED: the statements are not yours to turn. If you find one false, say at which input.
  Laid BY PROGRAM, IN A SANDBOX (cutbox-rows.mjs): the forced cells as the released guide's own fill.sh prints them over the translation 1af2c2c556acc6c5… (all of the seat's roots in one cut). By AI agents, Wed Nov 11 2026. No macro, syntax, notation, axiom, sorry.
-/
import Derived.Test.YtlkoddohplcmnaaChecked
import GoSem.Claim
import GoSem.ClaimJoined
import GoSem.ClaimMapViews
import Derived.JoinedTies
import Derived.KernelRfl
namespace Go.Proofs.Ytlkoddohplcmnaa
/- THE CELL 'sum', in the pinned program and in every row, IS THE sha256 OF THE DUMP (.gsa) THAT YtlkoddohplcmnaaProg.lean LOADS. Nothing in Lean hashes anything: it is a label: what it is worth is what the hold of that sum in a sandbox is worth. -/
noncomputable def Try.pinned : Pinned := { name := "ytlkoddohplcmnaa", sum := "1af2c2c556acc6c5ecdc18e787f959d8d4c66236f6b9dd51fe0e9e6851b91c2c", checked := Try.checked }
namespace Rows
def none {H : Type} : Left H := { results := [], args := [] }

/-- 'meridianlaw17.PoolPuts': WHATEVER THE INPUT: true; the input reads as it did. -/
def poolPutsSpec : ChangeSpec := { name := "poolPuts", fn := fun _ => fun
  | [d1, d2] => { results := [.lit (.bool true)], args := [d1, d2] }
  | _ => none }
def poolPutsRow : OpenClaim := { program := "ytlkoddohplcmnaa", sum := "1af2c2c556acc6c5ecdc18e787f959d8d4c66236f6b9dd51fe0e9e6851b91c2c", func := "meridian/meridianlaw17.PoolPuts", spec := "poolPuts", unfollowed := true, recurses := true, apart := false }
def PoolPutsSaid : Prop := poolPutsRow.holds Try.pinned (OpenSpec.ofChange poolPutsSpec)

/-- ITS FALSE NEIGHBOUR: 'it returns false'. Refute it at one input. -/
def poolPutsWrong : ChangeSpec := { name := "poolPuts", fn := fun _ => fun
  | [d1, d2] => { results := [.lit (.bool false)], args := [d1, d2] }
  | _ => none }
def PoolPutsWrongFalsely : Prop := poolPutsRow.holds Try.pinned (OpenSpec.ofChange poolPutsWrong)

/-- 'meridianlaw17.PoolSorts': WHATEVER THE INPUT: true; the input reads as it did. -/
def poolSortsSpec : ChangeSpec := { name := "poolSorts", fn := fun _ => fun
  | [d] => { results := [.lit (.bool true)], args := [d] }
  | _ => none }
def poolSortsRow : OpenClaim := { program := "ytlkoddohplcmnaa", sum := "1af2c2c556acc6c5ecdc18e787f959d8d4c66236f6b9dd51fe0e9e6851b91c2c", func := "meridian/meridianlaw17.PoolSorts", spec := "poolSorts", unfollowed := true, recurses := true, apart := false }
def PoolSortsSaid : Prop := poolSortsRow.holds Try.pinned (OpenSpec.ofChange poolSortsSpec)

/-- ITS FALSE NEIGHBOUR: 'it returns false'. Refute it at one input. -/
def poolSortsWrong : ChangeSpec := { name := "poolSorts", fn := fun _ => fun
  | [d] => { results := [.lit (.bool false)], args := [d] }
  | _ => none }
def PoolSortsWrongFalsely : Prop := poolSortsRow.holds Try.pinned (OpenSpec.ofChange poolSortsWrong)

/-- 'meridianlaw17.PoolJoins': WHATEVER THE INPUT: true; the input reads as it did. -/
def poolJoinsSpec : ChangeSpec := { name := "poolJoins", fn := fun _ => fun
  | [d1, d2] => { results := [.lit (.bool true)], args := [d1, d2] }
  | _ => none }
def poolJoinsRow : OpenClaim := { program := "ytlkoddohplcmnaa", sum := "1af2c2c556acc6c5ecdc18e787f959d8d4c66236f6b9dd51fe0e9e6851b91c2c", func := "meridian/meridianlaw17.PoolJoins", spec := "poolJoins", unfollowed := true, recurses := true, apart := false }
def PoolJoinsSaid : Prop := poolJoinsRow.holds Try.pinned (OpenSpec.ofChange poolJoinsSpec)

/-- ITS FALSE NEIGHBOUR: 'it returns false'. Refute it at one input. -/
def poolJoinsWrong : ChangeSpec := { name := "poolJoins", fn := fun _ => fun
  | [d1, d2] => { results := [.lit (.bool false)], args := [d1, d2] }
  | _ => none }
def PoolJoinsWrongFalsely : Prop := poolJoinsRow.holds Try.pinned (OpenSpec.ofChange poolJoinsWrong)

/-- 'meridianlaw17.PoolOnce': WHATEVER THE INPUT: true; the input reads as it did. -/
def poolOnceSpec : ChangeSpec := { name := "poolOnce", fn := fun _ => fun
  | [d1, d2] => { results := [.lit (.bool true)], args := [d1, d2] }
  | _ => none }
def poolOnceRow : OpenClaim := { program := "ytlkoddohplcmnaa", sum := "1af2c2c556acc6c5ecdc18e787f959d8d4c66236f6b9dd51fe0e9e6851b91c2c", func := "meridian/meridianlaw17.PoolOnce", spec := "poolOnce", inPlace := ["maps.clone"], unfollowed := true, recurses := true, apart := false }
def PoolOnceSaid : Prop := poolOnceRow.holds Try.pinned (OpenSpec.ofChange poolOnceSpec)

/-- ITS FALSE NEIGHBOUR: 'it returns false'. Refute it at one input. -/
def poolOnceWrong : ChangeSpec := { name := "poolOnce", fn := fun _ => fun
  | [d1, d2] => { results := [.lit (.bool false)], args := [d1, d2] }
  | _ => none }
def PoolOnceWrongFalsely : Prop := poolOnceRow.holds Try.pinned (OpenSpec.ofChange poolOnceWrong)

/-- 'meridianlaw17.PoolTurns': WHATEVER THE INPUT: true; the input reads as it did. -/
def poolTurnsSpec : ChangeSpec := { name := "poolTurns", fn := fun _ => fun
  | [d] => { results := [.lit (.bool true)], args := [d] }
  | _ => none }
def poolTurnsRow : OpenClaim := { program := "ytlkoddohplcmnaa", sum := "1af2c2c556acc6c5ecdc18e787f959d8d4c66236f6b9dd51fe0e9e6851b91c2c", func := "meridian/meridianlaw17.PoolTurns", spec := "poolTurns", unfollowed := true, recurses := true, apart := false }
def PoolTurnsSaid : Prop := poolTurnsRow.holds Try.pinned (OpenSpec.ofChange poolTurnsSpec)

/-- ITS FALSE NEIGHBOUR: 'it returns false'. Refute it at one input. -/
def poolTurnsWrong : ChangeSpec := { name := "poolTurns", fn := fun _ => fun
  | [d] => { results := [.lit (.bool false)], args := [d] }
  | _ => none }
def PoolTurnsWrongFalsely : Prop := poolTurnsRow.holds Try.pinned (OpenSpec.ofChange poolTurnsWrong)

/-- 'meridianlaw17.PoolNil': WHATEVER THE INPUT: true; the input reads as it did. -/
def poolNilSpec : ChangeSpec := { name := "poolNil", fn := fun _ => fun
  | [d1, d2] => { results := [.lit (.bool true)], args := [d1, d2] }
  | _ => none }
def poolNilRow : OpenClaim := { program := "ytlkoddohplcmnaa", sum := "1af2c2c556acc6c5ecdc18e787f959d8d4c66236f6b9dd51fe0e9e6851b91c2c", func := "meridian/meridianlaw17.PoolNil", spec := "poolNil", inPlace := ["maps.clone"], unfollowed := true, recurses := true, apart := false }
def PoolNilSaid : Prop := poolNilRow.holds Try.pinned (OpenSpec.ofChange poolNilSpec)

/-- ITS FALSE NEIGHBOUR: 'it returns false'. Refute it at one input. -/
def poolNilWrong : ChangeSpec := { name := "poolNil", fn := fun _ => fun
  | [d1, d2] => { results := [.lit (.bool false)], args := [d1, d2] }
  | _ => none }
def PoolNilWrongFalsely : Prop := poolNilRow.holds Try.pinned (OpenSpec.ofChange poolNilWrong)

/- THE SECOND FORM. 'bulk': how many values and letters a reading holds, each counted each time it is reached (what is shared counts as often as it is met; a slice's spare places count too). A statement '..UptoSaid' is the law's where the arguments, and the package variables that the reading takes, are together of bulk at most 1048576: NARROWER than '..Said'. Prove '..Said' where nothing that the law and all that it calls make is longer than what came in: it says more and counts as full. Else prove '..UptoSaid'. A law counts once. -/
mutual
def uptoBulk {H : Type} : DataW H → Nat
  | .lit (.string bytes) => bytes.length + 1
  | .lit _ => 1
  | .nil => 1
  | .ptr d => uptoBulk d + 1
  | .slice elems spare => uptoBulkAll elems + uptoBulkAll spare + 1
  | .agg parts => uptoBulkAll parts + 1
  | .iface _ d => uptoBulk d + 1
  | .map entries => uptoBulkEntries entries + 1
  | .held _ => 1
def uptoBulkAll {H : Type} : List (DataW H) → Nat
  | [] => 0
  | d :: r => uptoBulk d + uptoBulkAll r
def uptoBulkEntries {H : Type} : List (Lit × DataW H) → Nat
  | [] => 0
  | x :: r => uptoBulkEntry x + uptoBulkEntries r
def uptoBulkEntry {H : Type} : Lit × DataW H → Nat
  | (.string bytes, d) => bytes.length + uptoBulk d + 1
  | (_, d) => uptoBulk d + 1
 end
def uptoSmall : (H : Type) → List (DataW H) → Bool := fun _ ds => decide (uptoBulkAll ds ≤ 1048576)
def OpenSpec.upto (s : _root_.Go.ChangeSpec) : _root_.Go.OpenSpec := { _root_.Go.OpenSpec.ofChange s with cond := some uptoSmall }

/-- 'meridianlaw17.PoolPuts', WHERE WHAT IT READS IS OF BULK AT MOST 1048576: true; the input reads as it did. -/
def poolPutsUptoRow : OpenClaim := { program := "ytlkoddohplcmnaa", sum := "1af2c2c556acc6c5ecdc18e787f959d8d4c66236f6b9dd51fe0e9e6851b91c2c", func := "meridian/meridianlaw17.PoolPuts", spec := "poolPuts", unfollowed := true, recurses := true, apart := false, narrowed := true }
def PoolPutsUptoSaid : Prop := poolPutsUptoRow.holds Try.pinned (OpenSpec.upto poolPutsSpec)

/-- 'meridianlaw17.PoolSorts', WHERE WHAT IT READS IS OF BULK AT MOST 1048576: true; the input reads as it did. -/
def poolSortsUptoRow : OpenClaim := { program := "ytlkoddohplcmnaa", sum := "1af2c2c556acc6c5ecdc18e787f959d8d4c66236f6b9dd51fe0e9e6851b91c2c", func := "meridian/meridianlaw17.PoolSorts", spec := "poolSorts", unfollowed := true, recurses := true, apart := false, narrowed := true }
def PoolSortsUptoSaid : Prop := poolSortsUptoRow.holds Try.pinned (OpenSpec.upto poolSortsSpec)

/-- 'meridianlaw17.PoolJoins', WHERE WHAT IT READS IS OF BULK AT MOST 1048576: true; the input reads as it did. -/
def poolJoinsUptoRow : OpenClaim := { program := "ytlkoddohplcmnaa", sum := "1af2c2c556acc6c5ecdc18e787f959d8d4c66236f6b9dd51fe0e9e6851b91c2c", func := "meridian/meridianlaw17.PoolJoins", spec := "poolJoins", unfollowed := true, recurses := true, apart := false, narrowed := true }
def PoolJoinsUptoSaid : Prop := poolJoinsUptoRow.holds Try.pinned (OpenSpec.upto poolJoinsSpec)

/-- 'meridianlaw17.PoolOnce', WHERE WHAT IT READS IS OF BULK AT MOST 1048576: true; the input reads as it did. -/
def poolOnceUptoRow : OpenClaim := { program := "ytlkoddohplcmnaa", sum := "1af2c2c556acc6c5ecdc18e787f959d8d4c66236f6b9dd51fe0e9e6851b91c2c", func := "meridian/meridianlaw17.PoolOnce", spec := "poolOnce", inPlace := ["maps.clone"], unfollowed := true, recurses := true, apart := false, narrowed := true }
def PoolOnceUptoSaid : Prop := poolOnceUptoRow.holds Try.pinned (OpenSpec.upto poolOnceSpec)

/-- 'meridianlaw17.PoolTurns', WHERE WHAT IT READS IS OF BULK AT MOST 1048576: true; the input reads as it did. -/
def poolTurnsUptoRow : OpenClaim := { program := "ytlkoddohplcmnaa", sum := "1af2c2c556acc6c5ecdc18e787f959d8d4c66236f6b9dd51fe0e9e6851b91c2c", func := "meridian/meridianlaw17.PoolTurns", spec := "poolTurns", unfollowed := true, recurses := true, apart := false, narrowed := true }
def PoolTurnsUptoSaid : Prop := poolTurnsUptoRow.holds Try.pinned (OpenSpec.upto poolTurnsSpec)

/-- 'meridianlaw17.PoolNil', WHERE WHAT IT READS IS OF BULK AT MOST 1048576: true; the input reads as it did. -/
def poolNilUptoRow : OpenClaim := { program := "ytlkoddohplcmnaa", sum := "1af2c2c556acc6c5ecdc18e787f959d8d4c66236f6b9dd51fe0e9e6851b91c2c", func := "meridian/meridianlaw17.PoolNil", spec := "poolNil", inPlace := ["maps.clone"], unfollowed := true, recurses := true, apart := false, narrowed := true }
def PoolNilUptoSaid : Prop := poolNilUptoRow.holds Try.pinned (OpenSpec.upto poolNilSpec)

end Rows
end Go.Proofs.Ytlkoddohplcmnaa
