/-
  DERIVED. GIVEN WITH THE SEED: THE CARDS: each row of YtmhadkdbonfmdaaDoorRows.lean that lists a variable, with what it lists TIED to the program's text (the seventh form; the later family's looks); each row that meets fmt, with fmt's text TOLD by the authors' own Lean function (tested against real Go, not proved from fmt's source: count such statements apart). THE CARD IS WHAT COUNTS. Prove the row's statement (the work); the ties are given (YtmhadkdbonfmdaaDoorTie.lean); close each card by the builder's one call (the guide's Derived/Test/ToyasCard.lean, 'card_holds'). Laid BY PROGRAM, IN A SANDBOX (cutbox-door.mjs). By AI agents, Wed Nov 11 2026. No macro, syntax, notation, axiom, sorry.
-/
import Derived.Test.YtmhadkdbonfmdaaDoorRows
import GoSem.ClaimSeven
namespace Go.Proofs.YtmhadkdbonfmdaaDoor
namespace Rows

/-- THE TIED CARD OF 'meridianlaw16.ZipWrites'. -/
def zipWritesCard : Claim7 := { stood := { row := zipWritesRow, standIns := [], harness := (true, "1fbdaa27caec608c04070d249932ebcc55fb4d82de98045e6a4bd6a6111aef68"), looks := false }, kinds := [], alts := [], laidByText := true, laidKinds := [.data, .data, .pinned], laidTests := true, laidLooks := .later }
def ZipWritesCardSaid : Prop := Claim7.holds Tryd.pinned (.plain (OpenSpec.ofChange zipWritesSpec)) zipWritesCard

/-- THE TIED CARD OF 'meridianlaw16.ZipReads'. -/
def zipReadsCard : Claim7 := { stood := { row := zipReadsRow, standIns := [], harness := (true, "1fbdaa27caec608c04070d249932ebcc55fb4d82de98045e6a4bd6a6111aef68"), looks := false }, kinds := [], alts := [], laidByText := true, laidKinds := [.data, .data, .pinned], laidTests := true, laidLooks := .later }
def ZipReadsCardSaid : Prop := Claim7.holds Tryd.pinned (.plain (OpenSpec.ofChange zipReadsSpec)) zipReadsCard

/-- THE TIED CARD OF 'meridianlaw16.ZipBack'. -/
def zipBackCard : Claim7 := { stood := { row := zipBackRow, standIns := [], harness := (true, "1fbdaa27caec608c04070d249932ebcc55fb4d82de98045e6a4bd6a6111aef68"), looks := false }, kinds := [], alts := [], laidByText := true, laidKinds := [.data, .data, .pinned], laidTests := true, laidLooks := .later }
def ZipBackCardSaid : Prop := Claim7.holds Tryd.pinned (.plain (OpenSpec.ofChange zipBackSpec)) zipBackCard

/-- THE TIED CARD OF 'meridianlaw16.ZipTurns'. -/
def zipTurnsCard : Claim7 := { stood := { row := zipTurnsRow, standIns := [], harness := (true, "1fbdaa27caec608c04070d249932ebcc55fb4d82de98045e6a4bd6a6111aef68"), looks := false }, kinds := [], alts := [], laidByText := true, laidKinds := [.data, .data, .pinned], laidTests := true, laidLooks := .later }
def ZipTurnsCardSaid : Prop := Claim7.holds Tryd.pinned (.plain (OpenSpec.ofChange zipTurnsSpec)) zipTurnsCard

/-- THE TIED CARD OF 'meridianlaw16.ZipGrows'. -/
def zipGrowsCard : Claim7 := { stood := { row := zipGrowsRow, standIns := [], harness := (true, "1fbdaa27caec608c04070d249932ebcc55fb4d82de98045e6a4bd6a6111aef68"), looks := false }, kinds := [], alts := [], laidByText := true, laidKinds := [.data, .data, .pinned], laidTests := true, laidLooks := .later }
def ZipGrowsCardSaid : Prop := Claim7.holds Tryd.pinned (.plain (OpenSpec.ofChange zipGrowsSpec)) zipGrowsCard

/-- THE SECOND FORM's CARD OF 'meridianlaw16.ZipWrites'. -/
def zipWritesUptoCard : Claim7 := { stood := { row := zipWritesUptoRow, standIns := [], harness := (true, "1fbdaa27caec608c04070d249932ebcc55fb4d82de98045e6a4bd6a6111aef68"), looks := false }, kinds := [], alts := [], laidByText := true, laidKinds := [.data, .data, .pinned], laidTests := true, laidLooks := .later }
def ZipWritesUptoCardSaid : Prop := Claim7.holds Tryd.pinned (.plain (OpenSpec.upto zipWritesSpec)) zipWritesUptoCard

/-- THE SECOND FORM's CARD OF 'meridianlaw16.ZipReads'. -/
def zipReadsUptoCard : Claim7 := { stood := { row := zipReadsUptoRow, standIns := [], harness := (true, "1fbdaa27caec608c04070d249932ebcc55fb4d82de98045e6a4bd6a6111aef68"), looks := false }, kinds := [], alts := [], laidByText := true, laidKinds := [.data, .data, .pinned], laidTests := true, laidLooks := .later }
def ZipReadsUptoCardSaid : Prop := Claim7.holds Tryd.pinned (.plain (OpenSpec.upto zipReadsSpec)) zipReadsUptoCard

/-- THE SECOND FORM's CARD OF 'meridianlaw16.ZipBack'. -/
def zipBackUptoCard : Claim7 := { stood := { row := zipBackUptoRow, standIns := [], harness := (true, "1fbdaa27caec608c04070d249932ebcc55fb4d82de98045e6a4bd6a6111aef68"), looks := false }, kinds := [], alts := [], laidByText := true, laidKinds := [.data, .data, .pinned], laidTests := true, laidLooks := .later }
def ZipBackUptoCardSaid : Prop := Claim7.holds Tryd.pinned (.plain (OpenSpec.upto zipBackSpec)) zipBackUptoCard

/-- THE SECOND FORM's CARD OF 'meridianlaw16.ZipTurns'. -/
def zipTurnsUptoCard : Claim7 := { stood := { row := zipTurnsUptoRow, standIns := [], harness := (true, "1fbdaa27caec608c04070d249932ebcc55fb4d82de98045e6a4bd6a6111aef68"), looks := false }, kinds := [], alts := [], laidByText := true, laidKinds := [.data, .data, .pinned], laidTests := true, laidLooks := .later }
def ZipTurnsUptoCardSaid : Prop := Claim7.holds Tryd.pinned (.plain (OpenSpec.upto zipTurnsSpec)) zipTurnsUptoCard

/-- THE SECOND FORM's CARD OF 'meridianlaw16.ZipGrows'. -/
def zipGrowsUptoCard : Claim7 := { stood := { row := zipGrowsUptoRow, standIns := [], harness := (true, "1fbdaa27caec608c04070d249932ebcc55fb4d82de98045e6a4bd6a6111aef68"), looks := false }, kinds := [], alts := [], laidByText := true, laidKinds := [.data, .data, .pinned], laidTests := true, laidLooks := .later }
def ZipGrowsUptoCardSaid : Prop := Claim7.holds Tryd.pinned (.plain (OpenSpec.upto zipGrowsSpec)) zipGrowsUptoCard
end Rows
end Go.Proofs.YtmhadkdbonfmdaaDoor
