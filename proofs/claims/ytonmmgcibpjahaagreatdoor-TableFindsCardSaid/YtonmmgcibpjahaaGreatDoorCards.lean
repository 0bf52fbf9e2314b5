/-
  DERIVED. GIVEN WITH THE SEED: THE CARDS: each row of YtonmmgcibpjahaaGreatDoorRows.lean that lists a variable, with what it lists TIED to the program's text (the seventh form; the later family's looks); each row that meets fmt, with fmt's text TOLD by the authors' own Lean function (tested against real Go, not proved from fmt's source: count such statements apart). THE CARD IS WHAT COUNTS. Prove the row's statement (the work); the ties are given (YtonmmgcibpjahaaGreatDoorTie.lean); close each card by the builder's one call (the guide's Derived/Test/ToyasCard.lean, 'card_holds'). Laid BY PROGRAM, IN A SANDBOX (cutbox-door.mjs). By AI agents, Wed Nov 11 2026. No macro, syntax, notation, axiom, sorry.
-/
import Derived.Test.YtonmmgcibpjahaaGreatDoorRows
import GoSem.ClaimSeven
namespace Go.Proofs.YtonmmgcibpjahaaGreatDoor
namespace Rows

/-- THE TIED CARD OF 'meridianlaw13.ZoneShows'. -/
def zoneShowsCard : Claim7 := { stood := { row := zoneShowsRow, standIns := [], harness := (true, "1481faf3451d0d5b4f28745aeda48da533e98c6b115659555bc371934a9ea882"), looks := false }, kinds := [], alts := [], laidByText := true, laidKinds := [.data, .data, .pinned], laidTests := true, laidLooks := .later }
def ZoneShowsCardSaid : Prop := Claim7.holds Tryz.pinned (.plain (OpenSpec.ofChange zoneShowsSpec)) zoneShowsCard

/-- THE TIED CARD OF 'meridianlaw13.ZoneWithin'. -/
def zoneWithinCard : Claim7 := { stood := { row := zoneWithinRow, standIns := [], harness := (true, "1481faf3451d0d5b4f28745aeda48da533e98c6b115659555bc371934a9ea882"), looks := false }, kinds := [], alts := [], laidByText := true, laidKinds := [.data, .data, .pinned], laidTests := true, laidLooks := .later }
def ZoneWithinCardSaid : Prop := Claim7.holds Tryz.pinned (.plain (OpenSpec.ofChange zoneWithinSpec)) zoneWithinCard

/-- THE TIED CARD OF 'meridianlaw13.ZoneShifts'. -/
def zoneShiftsCard : Claim7 := { stood := { row := zoneShiftsRow, standIns := [], harness := (true, "1481faf3451d0d5b4f28745aeda48da533e98c6b115659555bc371934a9ea882"), looks := false }, kinds := [], alts := [], laidByText := true, laidKinds := [.data, .data, .pinned], laidTests := true, laidLooks := .later }
def ZoneShiftsCardSaid : Prop := Claim7.holds Tryz.pinned (.plain (OpenSpec.ofChange zoneShiftsSpec)) zoneShiftsCard

/-- THE TIED CARD OF 'meridianlaw13.ZoneUnivs'. -/
def zoneUnivsCard : Claim7 := { stood := { row := zoneUnivsRow, standIns := [], harness := (true, "1481faf3451d0d5b4f28745aeda48da533e98c6b115659555bc371934a9ea882"), looks := false }, kinds := [], alts := [], laidByText := true, laidKinds := [.data, .data, .pinned], laidTests := true, laidLooks := .later }
def ZoneUnivsCardSaid : Prop := Claim7.holds Tryz.pinned (.plain (OpenSpec.ofChange zoneUnivsSpec)) zoneUnivsCard

/-- THE TIED CARD OF 'meridianlaw13.ZoneParts'. -/
def zonePartsCard : Claim7 := { stood := { row := zonePartsRow, standIns := [], harness := (true, "1481faf3451d0d5b4f28745aeda48da533e98c6b115659555bc371934a9ea882"), looks := false }, kinds := [], alts := [], laidByText := true, laidKinds := [.data, .data, .pinned], laidTests := true, laidLooks := .later }
def ZonePartsCardSaid : Prop := Claim7.holds Tryz.pinned (.plain (OpenSpec.ofChange zonePartsSpec)) zonePartsCard

/-- THE TIED CARD OF 'meridianlaw14.TableMakes'. -/
def tableMakesCard : Claim7 := { stood := { row := tableMakesRow, standIns := [], harness := (true, "1481faf3451d0d5b4f28745aeda48da533e98c6b115659555bc371934a9ea882"), looks := false }, kinds := [], alts := [], laidByText := true, laidKinds := [.data, .data, .pinned], laidTests := true, laidLooks := .later }
def TableMakesCardSaid : Prop := Claim7.holds Tryz.pinned (.plain (OpenSpec.ofChange tableMakesSpec)) tableMakesCard

/-- THE TIED CARD OF 'meridianlaw14.TableErrs'. -/
def tableErrsCard : Claim7 := { stood := { row := tableErrsRow, standIns := [], harness := (true, "1481faf3451d0d5b4f28745aeda48da533e98c6b115659555bc371934a9ea882"), looks := false }, kinds := [], alts := [], laidByText := true, laidKinds := [.data, .data, .pinned], laidTests := true, laidLooks := .later }
def TableErrsCardSaid : Prop := Claim7.holds Tryz.pinned (.plain (OpenSpec.ofChange tableErrsSpec)) tableErrsCard

/-- THE TIED CARD OF 'meridianlaw14.TableJoins'. -/
def tableJoinsCard : Claim7 := { stood := { row := tableJoinsRow, standIns := [], harness := (true, "1481faf3451d0d5b4f28745aeda48da533e98c6b115659555bc371934a9ea882"), looks := false }, kinds := [], alts := [], laidByText := true, laidKinds := [.data, .data, .pinned], laidTests := true, laidLooks := .later }
def TableJoinsCardSaid : Prop := Claim7.holds Tryz.pinned (.plain (OpenSpec.ofChange tableJoinsSpec)) tableJoinsCard

/-- THE TIED CARD OF 'meridianlaw14.TableShows'. -/
def tableShowsCard : Claim7 := { stood := { row := tableShowsRow, standIns := [], harness := (true, "1481faf3451d0d5b4f28745aeda48da533e98c6b115659555bc371934a9ea882"), looks := false }, kinds := [], alts := [], laidByText := true, laidKinds := [.data, .data, .pinned], laidTests := true, laidLooks := .later }
def TableShowsCardSaid : Prop := Claim7.holds Tryz.pinned (.plain (OpenSpec.ofChange tableShowsSpec)) tableShowsCard

/-- THE TIED CARD OF 'meridianlaw14.TableFinds'. -/
def tableFindsCard : Claim7 := { stood := { row := tableFindsRow, standIns := [], harness := (true, "1481faf3451d0d5b4f28745aeda48da533e98c6b115659555bc371934a9ea882"), looks := false }, kinds := [], alts := [], laidByText := true, laidKinds := [.data, .data, .pinned], laidTests := true, laidLooks := .later }
def TableFindsCardSaid : Prop := Claim7.holds Tryz.pinned (.plain (OpenSpec.ofChange tableFindsSpec)) tableFindsCard

/-- THE SECOND FORM's CARD OF 'meridianlaw13.ZoneShows'. -/
def zoneShowsUptoCard : Claim7 := { stood := { row := zoneShowsUptoRow, standIns := [], harness := (true, "1481faf3451d0d5b4f28745aeda48da533e98c6b115659555bc371934a9ea882"), looks := false }, kinds := [], alts := [], laidByText := true, laidKinds := [.data, .data, .pinned], laidTests := true, laidLooks := .later }
def ZoneShowsUptoCardSaid : Prop := Claim7.holds Tryz.pinned (.plain (OpenSpec.upto zoneShowsSpec)) zoneShowsUptoCard

/-- THE SECOND FORM's CARD OF 'meridianlaw13.ZoneWithin'. -/
def zoneWithinUptoCard : Claim7 := { stood := { row := zoneWithinUptoRow, standIns := [], harness := (true, "1481faf3451d0d5b4f28745aeda48da533e98c6b115659555bc371934a9ea882"), looks := false }, kinds := [], alts := [], laidByText := true, laidKinds := [.data, .data, .pinned], laidTests := true, laidLooks := .later }
def ZoneWithinUptoCardSaid : Prop := Claim7.holds Tryz.pinned (.plain (OpenSpec.upto zoneWithinSpec)) zoneWithinUptoCard

/-- THE SECOND FORM's CARD OF 'meridianlaw13.ZoneShifts'. -/
def zoneShiftsUptoCard : Claim7 := { stood := { row := zoneShiftsUptoRow, standIns := [], harness := (true, "1481faf3451d0d5b4f28745aeda48da533e98c6b115659555bc371934a9ea882"), looks := false }, kinds := [], alts := [], laidByText := true, laidKinds := [.data, .data, .pinned], laidTests := true, laidLooks := .later }
def ZoneShiftsUptoCardSaid : Prop := Claim7.holds Tryz.pinned (.plain (OpenSpec.upto zoneShiftsSpec)) zoneShiftsUptoCard

/-- THE SECOND FORM's CARD OF 'meridianlaw13.ZoneUnivs'. -/
def zoneUnivsUptoCard : Claim7 := { stood := { row := zoneUnivsUptoRow, standIns := [], harness := (true, "1481faf3451d0d5b4f28745aeda48da533e98c6b115659555bc371934a9ea882"), looks := false }, kinds := [], alts := [], laidByText := true, laidKinds := [.data, .data, .pinned], laidTests := true, laidLooks := .later }
def ZoneUnivsUptoCardSaid : Prop := Claim7.holds Tryz.pinned (.plain (OpenSpec.upto zoneUnivsSpec)) zoneUnivsUptoCard

/-- THE SECOND FORM's CARD OF 'meridianlaw13.ZoneParts'. -/
def zonePartsUptoCard : Claim7 := { stood := { row := zonePartsUptoRow, standIns := [], harness := (true, "1481faf3451d0d5b4f28745aeda48da533e98c6b115659555bc371934a9ea882"), looks := false }, kinds := [], alts := [], laidByText := true, laidKinds := [.data, .data, .pinned], laidTests := true, laidLooks := .later }
def ZonePartsUptoCardSaid : Prop := Claim7.holds Tryz.pinned (.plain (OpenSpec.upto zonePartsSpec)) zonePartsUptoCard

/-- THE SECOND FORM's CARD OF 'meridianlaw14.TableMakes'. -/
def tableMakesUptoCard : Claim7 := { stood := { row := tableMakesUptoRow, standIns := [], harness := (true, "1481faf3451d0d5b4f28745aeda48da533e98c6b115659555bc371934a9ea882"), looks := false }, kinds := [], alts := [], laidByText := true, laidKinds := [.data, .data, .pinned], laidTests := true, laidLooks := .later }
def TableMakesUptoCardSaid : Prop := Claim7.holds Tryz.pinned (.plain (OpenSpec.upto tableMakesSpec)) tableMakesUptoCard

/-- THE SECOND FORM's CARD OF 'meridianlaw14.TableErrs'. -/
def tableErrsUptoCard : Claim7 := { stood := { row := tableErrsUptoRow, standIns := [], harness := (true, "1481faf3451d0d5b4f28745aeda48da533e98c6b115659555bc371934a9ea882"), looks := false }, kinds := [], alts := [], laidByText := true, laidKinds := [.data, .data, .pinned], laidTests := true, laidLooks := .later }
def TableErrsUptoCardSaid : Prop := Claim7.holds Tryz.pinned (.plain (OpenSpec.upto tableErrsSpec)) tableErrsUptoCard

/-- THE SECOND FORM's CARD OF 'meridianlaw14.TableJoins'. -/
def tableJoinsUptoCard : Claim7 := { stood := { row := tableJoinsUptoRow, standIns := [], harness := (true, "1481faf3451d0d5b4f28745aeda48da533e98c6b115659555bc371934a9ea882"), looks := false }, kinds := [], alts := [], laidByText := true, laidKinds := [.data, .data, .pinned], laidTests := true, laidLooks := .later }
def TableJoinsUptoCardSaid : Prop := Claim7.holds Tryz.pinned (.plain (OpenSpec.upto tableJoinsSpec)) tableJoinsUptoCard

/-- THE SECOND FORM's CARD OF 'meridianlaw14.TableShows'. -/
def tableShowsUptoCard : Claim7 := { stood := { row := tableShowsUptoRow, standIns := [], harness := (true, "1481faf3451d0d5b4f28745aeda48da533e98c6b115659555bc371934a9ea882"), looks := false }, kinds := [], alts := [], laidByText := true, laidKinds := [.data, .data, .pinned], laidTests := true, laidLooks := .later }
def TableShowsUptoCardSaid : Prop := Claim7.holds Tryz.pinned (.plain (OpenSpec.upto tableShowsSpec)) tableShowsUptoCard

/-- THE SECOND FORM's CARD OF 'meridianlaw14.TableFinds'. -/
def tableFindsUptoCard : Claim7 := { stood := { row := tableFindsUptoRow, standIns := [], harness := (true, "1481faf3451d0d5b4f28745aeda48da533e98c6b115659555bc371934a9ea882"), looks := false }, kinds := [], alts := [], laidByText := true, laidKinds := [.data, .data, .pinned], laidTests := true, laidLooks := .later }
def TableFindsUptoCardSaid : Prop := Claim7.holds Tryz.pinned (.plain (OpenSpec.upto tableFindsSpec)) tableFindsUptoCard
end Rows
end Go.Proofs.YtonmmgcibpjahaaGreatDoor
