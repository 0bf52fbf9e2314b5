/-
  DERIVED. GIVEN WITH THE SEED: THE CARDS: each row of YtekeaphbmkfogaaGreatDoorRows.lean that lists a variable, with what it lists TIED to the program's text (the seventh form; the later family's looks); each row that meets fmt, with fmt's text TOLD by the authors' own Lean function (tested against real Go, not proved from fmt's source: count such statements apart). THE CARD IS WHAT COUNTS. Prove the row's statement (the work); the ties are given (YtekeaphbmkfogaaGreatDoorTie.lean); close each card by the builder's one call (the guide's Derived/Test/ToyasCard.lean, 'card_holds'). Laid BY PROGRAM, IN A SANDBOX (cutbox-door.mjs). By AI agents, Wed Nov 11 2026. No macro, syntax, notation, axiom, sorry.
-/
import Derived.Test.YtekeaphbmkfogaaGreatDoorRows
import GoSem.ClaimSeven
namespace Go.Proofs.YtekeaphbmkfogaaGreatDoor
namespace Rows

/-- THE TIED CARD OF 'meridianlaw14.TableMakes'. -/
def tableMakesCard : Claim7 := { stood := { row := tableMakesRow, standIns := [], harness := (true, "7599b8ff43d21f605a3e6a465e1d2782d3b6a7c360608a44802030f37be87301"), looks := false }, kinds := [], alts := [], laidByText := true, laidKinds := [.data, .data, .pinned], laidTests := true, laidLooks := .later }
def TableMakesCardSaid : Prop := Claim7.holds Tryz.pinned (.plain (OpenSpec.ofChange tableMakesSpec)) tableMakesCard

/-- THE TIED CARD OF 'meridianlaw14.TableErrs'. -/
def tableErrsCard : Claim7 := { stood := { row := tableErrsRow, standIns := [], harness := (true, "7599b8ff43d21f605a3e6a465e1d2782d3b6a7c360608a44802030f37be87301"), looks := false }, kinds := [], alts := [], laidByText := true, laidKinds := [.data, .data, .pinned], laidTests := true, laidLooks := .later }
def TableErrsCardSaid : Prop := Claim7.holds Tryz.pinned (.plain (OpenSpec.ofChange tableErrsSpec)) tableErrsCard

/-- THE TIED CARD OF 'meridianlaw14.TableJoins'. -/
def tableJoinsCard : Claim7 := { stood := { row := tableJoinsRow, standIns := [], harness := (true, "7599b8ff43d21f605a3e6a465e1d2782d3b6a7c360608a44802030f37be87301"), looks := false }, kinds := [], alts := [], laidByText := true, laidKinds := [.data, .data, .pinned], laidTests := true, laidLooks := .later }
def TableJoinsCardSaid : Prop := Claim7.holds Tryz.pinned (.plain (OpenSpec.ofChange tableJoinsSpec)) tableJoinsCard

/-- THE TIED CARD OF 'meridianlaw14.TableCuts'. -/
def tableCutsCard : Claim7 := { stood := { row := tableCutsRow, standIns := [], harness := (true, "7599b8ff43d21f605a3e6a465e1d2782d3b6a7c360608a44802030f37be87301"), looks := false }, kinds := [], alts := [], laidByText := true, laidKinds := [.data, .data, .pinned], laidTests := true, laidLooks := .later }
def TableCutsCardSaid : Prop := Claim7.holds Tryz.pinned (.plain (OpenSpec.ofChange tableCutsSpec)) tableCutsCard

/-- THE TIED CARD OF 'meridianlaw14.TableMerges'. -/
def tableMergesCard : Claim7 := { stood := { row := tableMergesRow, standIns := [], harness := (true, "7599b8ff43d21f605a3e6a465e1d2782d3b6a7c360608a44802030f37be87301"), looks := false }, kinds := [], alts := [], laidByText := true, laidKinds := [.data, .data, .pinned], laidTests := true, laidLooks := .later }
def TableMergesCardSaid : Prop := Claim7.holds Tryz.pinned (.plain (OpenSpec.ofChange tableMergesSpec)) tableMergesCard

/-- THE TIED CARD OF 'meridianlaw14.TableShows'. -/
def tableShowsCard : Claim7 := { stood := { row := tableShowsRow, standIns := [], harness := (true, "7599b8ff43d21f605a3e6a465e1d2782d3b6a7c360608a44802030f37be87301"), looks := false }, kinds := [], alts := [], laidByText := true, laidKinds := [.data, .data, .pinned], laidTests := true, laidLooks := .later }
def TableShowsCardSaid : Prop := Claim7.holds Tryz.pinned (.plain (OpenSpec.ofChange tableShowsSpec)) tableShowsCard

/-- THE TIED CARD OF 'meridianlaw14.TableFinds'. -/
def tableFindsCard : Claim7 := { stood := { row := tableFindsRow, standIns := [], harness := (true, "7599b8ff43d21f605a3e6a465e1d2782d3b6a7c360608a44802030f37be87301"), looks := false }, kinds := [], alts := [], laidByText := true, laidKinds := [.data, .data, .pinned], laidTests := true, laidLooks := .later }
def TableFindsCardSaid : Prop := Claim7.holds Tryz.pinned (.plain (OpenSpec.ofChange tableFindsSpec)) tableFindsCard

/-- THE SECOND FORM's CARD OF 'meridianlaw14.TableMakes'. -/
def tableMakesUptoCard : Claim7 := { stood := { row := tableMakesUptoRow, standIns := [], harness := (true, "7599b8ff43d21f605a3e6a465e1d2782d3b6a7c360608a44802030f37be87301"), looks := false }, kinds := [], alts := [], laidByText := true, laidKinds := [.data, .data, .pinned], laidTests := true, laidLooks := .later }
def TableMakesUptoCardSaid : Prop := Claim7.holds Tryz.pinned (.plain (OpenSpec.upto tableMakesSpec)) tableMakesUptoCard

/-- THE SECOND FORM's CARD OF 'meridianlaw14.TableErrs'. -/
def tableErrsUptoCard : Claim7 := { stood := { row := tableErrsUptoRow, standIns := [], harness := (true, "7599b8ff43d21f605a3e6a465e1d2782d3b6a7c360608a44802030f37be87301"), looks := false }, kinds := [], alts := [], laidByText := true, laidKinds := [.data, .data, .pinned], laidTests := true, laidLooks := .later }
def TableErrsUptoCardSaid : Prop := Claim7.holds Tryz.pinned (.plain (OpenSpec.upto tableErrsSpec)) tableErrsUptoCard

/-- THE SECOND FORM's CARD OF 'meridianlaw14.TableJoins'. -/
def tableJoinsUptoCard : Claim7 := { stood := { row := tableJoinsUptoRow, standIns := [], harness := (true, "7599b8ff43d21f605a3e6a465e1d2782d3b6a7c360608a44802030f37be87301"), looks := false }, kinds := [], alts := [], laidByText := true, laidKinds := [.data, .data, .pinned], laidTests := true, laidLooks := .later }
def TableJoinsUptoCardSaid : Prop := Claim7.holds Tryz.pinned (.plain (OpenSpec.upto tableJoinsSpec)) tableJoinsUptoCard

/-- THE SECOND FORM's CARD OF 'meridianlaw14.TableCuts'. -/
def tableCutsUptoCard : Claim7 := { stood := { row := tableCutsUptoRow, standIns := [], harness := (true, "7599b8ff43d21f605a3e6a465e1d2782d3b6a7c360608a44802030f37be87301"), looks := false }, kinds := [], alts := [], laidByText := true, laidKinds := [.data, .data, .pinned], laidTests := true, laidLooks := .later }
def TableCutsUptoCardSaid : Prop := Claim7.holds Tryz.pinned (.plain (OpenSpec.upto tableCutsSpec)) tableCutsUptoCard

/-- THE SECOND FORM's CARD OF 'meridianlaw14.TableMerges'. -/
def tableMergesUptoCard : Claim7 := { stood := { row := tableMergesUptoRow, standIns := [], harness := (true, "7599b8ff43d21f605a3e6a465e1d2782d3b6a7c360608a44802030f37be87301"), looks := false }, kinds := [], alts := [], laidByText := true, laidKinds := [.data, .data, .pinned], laidTests := true, laidLooks := .later }
def TableMergesUptoCardSaid : Prop := Claim7.holds Tryz.pinned (.plain (OpenSpec.upto tableMergesSpec)) tableMergesUptoCard

/-- THE SECOND FORM's CARD OF 'meridianlaw14.TableShows'. -/
def tableShowsUptoCard : Claim7 := { stood := { row := tableShowsUptoRow, standIns := [], harness := (true, "7599b8ff43d21f605a3e6a465e1d2782d3b6a7c360608a44802030f37be87301"), looks := false }, kinds := [], alts := [], laidByText := true, laidKinds := [.data, .data, .pinned], laidTests := true, laidLooks := .later }
def TableShowsUptoCardSaid : Prop := Claim7.holds Tryz.pinned (.plain (OpenSpec.upto tableShowsSpec)) tableShowsUptoCard

/-- THE SECOND FORM's CARD OF 'meridianlaw14.TableFinds'. -/
def tableFindsUptoCard : Claim7 := { stood := { row := tableFindsUptoRow, standIns := [], harness := (true, "7599b8ff43d21f605a3e6a465e1d2782d3b6a7c360608a44802030f37be87301"), looks := false }, kinds := [], alts := [], laidByText := true, laidKinds := [.data, .data, .pinned], laidTests := true, laidLooks := .later }
def TableFindsUptoCardSaid : Prop := Claim7.holds Tryz.pinned (.plain (OpenSpec.upto tableFindsSpec)) tableFindsUptoCard
end Rows
end Go.Proofs.YtekeaphbmkfogaaGreatDoor
