/-
  DERIVED. GIVEN WITH THE SEED: THE CARDS: each row of YtfbkkhfmboaknaaGreatDoorRows.lean that lists a variable, with what it lists TIED to the program's text (the seventh form; the later family's looks); each row that meets fmt, with fmt's text TOLD by the authors' own Lean function (tested against real Go, not proved from fmt's source: count such statements apart). THE CARD IS WHAT COUNTS. Prove the row's statement (the work); the ties are given (YtfbkkhfmboaknaaGreatDoorTie.lean); close each card by the builder's one call (the guide's Derived/Test/ToyasCard.lean, 'card_holds'). Laid BY PROGRAM, IN A SANDBOX (cutbox-door.mjs). By AI agents, Wed Nov 11 2026. No macro, syntax, notation, axiom, sorry.
-/
import Derived.Test.YtfbkkhfmboaknaaGreatDoorRows
import GoSem.ClaimSeven
namespace Go.Proofs.YtfbkkhfmboaknaaGreatDoor
namespace Rows

/-- THE TIED CARD OF 'meridianlaw13.ZoneShows'. -/
def zoneShowsCard : Claim7 := { stood := { row := zoneShowsRow, standIns := [], harness := (true, "0da778bb863a7aa64f8799dcd43e1d5b7b7541ee1990b8b82a2e7500424798e3"), looks := false }, kinds := [], alts := [], laidByText := true, laidKinds := [.data, .data, .pinned], laidTests := true, laidLooks := .later }
def ZoneShowsCardSaid : Prop := Claim7.holds Tryz.pinned (.plain (OpenSpec.ofChange zoneShowsSpec)) zoneShowsCard

/-- THE TIED CARD OF 'meridianlaw13.ZoneWithin'. -/
def zoneWithinCard : Claim7 := { stood := { row := zoneWithinRow, standIns := [], harness := (true, "0da778bb863a7aa64f8799dcd43e1d5b7b7541ee1990b8b82a2e7500424798e3"), looks := false }, kinds := [], alts := [], laidByText := true, laidKinds := [.data, .data, .pinned], laidTests := true, laidLooks := .later }
def ZoneWithinCardSaid : Prop := Claim7.holds Tryz.pinned (.plain (OpenSpec.ofChange zoneWithinSpec)) zoneWithinCard

/-- THE TIED CARD OF 'meridianlaw13.ZonePlain'. -/
def zonePlainCard : Claim7 := { stood := { row := zonePlainRow, standIns := [], harness := (true, "0da778bb863a7aa64f8799dcd43e1d5b7b7541ee1990b8b82a2e7500424798e3"), looks := false }, kinds := [], alts := [], laidByText := true, laidKinds := [.data, .data, .pinned], laidTests := true, laidLooks := .later }
def ZonePlainCardSaid : Prop := Claim7.holds Tryz.pinned (.plain (OpenSpec.ofChange zonePlainSpec)) zonePlainCard

/-- THE TIED CARD OF 'meridianlaw13.ZoneShifts'. -/
def zoneShiftsCard : Claim7 := { stood := { row := zoneShiftsRow, standIns := [], harness := (true, "0da778bb863a7aa64f8799dcd43e1d5b7b7541ee1990b8b82a2e7500424798e3"), looks := false }, kinds := [], alts := [], laidByText := true, laidKinds := [.data, .data, .pinned], laidTests := true, laidLooks := .later }
def ZoneShiftsCardSaid : Prop := Claim7.holds Tryz.pinned (.plain (OpenSpec.ofChange zoneShiftsSpec)) zoneShiftsCard

/-- THE TIED CARD OF 'meridianlaw13.ZoneUnivs'. -/
def zoneUnivsCard : Claim7 := { stood := { row := zoneUnivsRow, standIns := [], harness := (true, "0da778bb863a7aa64f8799dcd43e1d5b7b7541ee1990b8b82a2e7500424798e3"), looks := false }, kinds := [], alts := [], laidByText := true, laidKinds := [.data, .data, .pinned], laidTests := true, laidLooks := .later }
def ZoneUnivsCardSaid : Prop := Claim7.holds Tryz.pinned (.plain (OpenSpec.ofChange zoneUnivsSpec)) zoneUnivsCard

/-- THE TIED CARD OF 'meridianlaw13.ZoneParts'. -/
def zonePartsCard : Claim7 := { stood := { row := zonePartsRow, standIns := [], harness := (true, "0da778bb863a7aa64f8799dcd43e1d5b7b7541ee1990b8b82a2e7500424798e3"), looks := false }, kinds := [], alts := [], laidByText := true, laidKinds := [.data, .data, .pinned], laidTests := true, laidLooks := .later }
def ZonePartsCardSaid : Prop := Claim7.holds Tryz.pinned (.plain (OpenSpec.ofChange zonePartsSpec)) zonePartsCard

/-- THE SECOND FORM's CARD OF 'meridianlaw13.ZoneShows'. -/
def zoneShowsUptoCard : Claim7 := { stood := { row := zoneShowsUptoRow, standIns := [], harness := (true, "0da778bb863a7aa64f8799dcd43e1d5b7b7541ee1990b8b82a2e7500424798e3"), looks := false }, kinds := [], alts := [], laidByText := true, laidKinds := [.data, .data, .pinned], laidTests := true, laidLooks := .later }
def ZoneShowsUptoCardSaid : Prop := Claim7.holds Tryz.pinned (.plain (OpenSpec.upto zoneShowsSpec)) zoneShowsUptoCard

/-- THE SECOND FORM's CARD OF 'meridianlaw13.ZoneWithin'. -/
def zoneWithinUptoCard : Claim7 := { stood := { row := zoneWithinUptoRow, standIns := [], harness := (true, "0da778bb863a7aa64f8799dcd43e1d5b7b7541ee1990b8b82a2e7500424798e3"), looks := false }, kinds := [], alts := [], laidByText := true, laidKinds := [.data, .data, .pinned], laidTests := true, laidLooks := .later }
def ZoneWithinUptoCardSaid : Prop := Claim7.holds Tryz.pinned (.plain (OpenSpec.upto zoneWithinSpec)) zoneWithinUptoCard

/-- THE SECOND FORM's CARD OF 'meridianlaw13.ZonePlain'. -/
def zonePlainUptoCard : Claim7 := { stood := { row := zonePlainUptoRow, standIns := [], harness := (true, "0da778bb863a7aa64f8799dcd43e1d5b7b7541ee1990b8b82a2e7500424798e3"), looks := false }, kinds := [], alts := [], laidByText := true, laidKinds := [.data, .data, .pinned], laidTests := true, laidLooks := .later }
def ZonePlainUptoCardSaid : Prop := Claim7.holds Tryz.pinned (.plain (OpenSpec.upto zonePlainSpec)) zonePlainUptoCard

/-- THE SECOND FORM's CARD OF 'meridianlaw13.ZoneShifts'. -/
def zoneShiftsUptoCard : Claim7 := { stood := { row := zoneShiftsUptoRow, standIns := [], harness := (true, "0da778bb863a7aa64f8799dcd43e1d5b7b7541ee1990b8b82a2e7500424798e3"), looks := false }, kinds := [], alts := [], laidByText := true, laidKinds := [.data, .data, .pinned], laidTests := true, laidLooks := .later }
def ZoneShiftsUptoCardSaid : Prop := Claim7.holds Tryz.pinned (.plain (OpenSpec.upto zoneShiftsSpec)) zoneShiftsUptoCard

/-- THE SECOND FORM's CARD OF 'meridianlaw13.ZoneUnivs'. -/
def zoneUnivsUptoCard : Claim7 := { stood := { row := zoneUnivsUptoRow, standIns := [], harness := (true, "0da778bb863a7aa64f8799dcd43e1d5b7b7541ee1990b8b82a2e7500424798e3"), looks := false }, kinds := [], alts := [], laidByText := true, laidKinds := [.data, .data, .pinned], laidTests := true, laidLooks := .later }
def ZoneUnivsUptoCardSaid : Prop := Claim7.holds Tryz.pinned (.plain (OpenSpec.upto zoneUnivsSpec)) zoneUnivsUptoCard

/-- THE SECOND FORM's CARD OF 'meridianlaw13.ZoneParts'. -/
def zonePartsUptoCard : Claim7 := { stood := { row := zonePartsUptoRow, standIns := [], harness := (true, "0da778bb863a7aa64f8799dcd43e1d5b7b7541ee1990b8b82a2e7500424798e3"), looks := false }, kinds := [], alts := [], laidByText := true, laidKinds := [.data, .data, .pinned], laidTests := true, laidLooks := .later }
def ZonePartsUptoCardSaid : Prop := Claim7.holds Tryz.pinned (.plain (OpenSpec.upto zonePartsSpec)) zonePartsUptoCard
end Rows
end Go.Proofs.YtfbkkhfmboaknaaGreatDoor
