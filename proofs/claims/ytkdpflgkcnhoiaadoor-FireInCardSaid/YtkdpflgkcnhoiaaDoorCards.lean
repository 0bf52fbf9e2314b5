/-
  DERIVED. GIVEN WITH THE SEED: THE CARDS: each row of YtkdpflgkcnhoiaaDoorRows.lean that lists a variable, with what it lists TIED to the program's text (the seventh form; the later family's looks); each row that meets fmt, with fmt's text TOLD by the authors' own Lean function (tested against real Go, not proved from fmt's source: count such statements apart). THE CARD IS WHAT COUNTS. Prove the row's statement (the work); the ties are given (YtkdpflgkcnhoiaaDoorTie.lean); close each card by the builder's one call (the guide's Derived/Test/ToyasCard.lean, 'card_holds'). Laid BY PROGRAM, IN A SANDBOX (cutbox-door.mjs). By AI agents, Wed Nov 11 2026. No macro, syntax, notation, axiom, sorry.
-/
import Derived.Test.YtkdpflgkcnhoiaaDoorRows
import GoSem.ClaimSeven
namespace Go.Proofs.YtkdpflgkcnhoiaaDoor
namespace Rows

/-- THE TIED CARD OF 'meridianlaw11.FireCounts'. -/
def fireCountsCard : Claim7 := { stood := { row := fireCountsRow, standIns := [], harness := (true, "1c6d442a8a4010e47f428e01004ff2f673c311e353acfbfb790e375598c8e2d8"), looks := false }, kinds := [], alts := [], laidByText := true, laidKinds := [.data], laidTests := true, laidLooks := .later }
def FireCountsCardSaid : Prop := Claim7.holds Tryd.pinned (.plain (OpenSpec.ofChange fireCountsSpec)) fireCountsCard

/-- THE TIED CARD OF 'meridianlaw11.FireIn'. -/
def fireInCard : Claim7 := { stood := { row := fireInRow, standIns := [], harness := (true, "1c6d442a8a4010e47f428e01004ff2f673c311e353acfbfb790e375598c8e2d8"), looks := false }, kinds := [], alts := [], laidByText := true, laidKinds := [.data], laidTests := true, laidLooks := .later }
def FireInCardSaid : Prop := Claim7.holds Tryd.pinned (.plain (OpenSpec.ofChange fireInSpec)) fireInCard

/-- THE SECOND FORM's CARD OF 'meridianlaw11.FireCounts'. -/
def fireCountsUptoCard : Claim7 := { stood := { row := fireCountsUptoRow, standIns := [], harness := (true, "1c6d442a8a4010e47f428e01004ff2f673c311e353acfbfb790e375598c8e2d8"), looks := false }, kinds := [], alts := [], laidByText := true, laidKinds := [.data], laidTests := true, laidLooks := .later }
def FireCountsUptoCardSaid : Prop := Claim7.holds Tryd.pinned (.plain (OpenSpec.upto fireCountsSpec)) fireCountsUptoCard

/-- THE SECOND FORM's CARD OF 'meridianlaw11.FireIn'. -/
def fireInUptoCard : Claim7 := { stood := { row := fireInUptoRow, standIns := [], harness := (true, "1c6d442a8a4010e47f428e01004ff2f673c311e353acfbfb790e375598c8e2d8"), looks := false }, kinds := [], alts := [], laidByText := true, laidKinds := [.data], laidTests := true, laidLooks := .later }
def FireInUptoCardSaid : Prop := Claim7.holds Tryd.pinned (.plain (OpenSpec.upto fireInSpec)) fireInUptoCard
end Rows
end Go.Proofs.YtkdpflgkcnhoiaaDoor
