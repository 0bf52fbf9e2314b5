/-
  DERIVED. GIVEN WITH THE SEED: THE CARDS: each row of YteekjfgjmccdnaaGreatDoorRows.lean that lists a variable, with what it lists TIED to the program's text (the seventh form; the later family's looks); each row that meets fmt, with fmt's text TOLD by the authors' own Lean function (tested against real Go, not proved from fmt's source: count such statements apart). THE CARD IS WHAT COUNTS. Prove the row's statement (the work); the ties are given (YteekjfgjmccdnaaGreatDoorTie.lean); close each card by the builder's one call (the guide's Derived/Test/ToyasCard.lean, 'card_holds'). Laid BY PROGRAM, IN A SANDBOX (cutbox-door.mjs). By AI agents, Wed Nov 11 2026. No macro, syntax, notation, axiom, sorry.
-/
import Derived.Test.YteekjfgjmccdnaaGreatDoorRows
import GoSem.ClaimSeven
namespace Go.Proofs.YteekjfgjmccdnaaGreatDoor
namespace Rows

/-- THE TIED CARD OF 'meridianlaw13.ZoneUnivs'. -/
def zoneUnivsCard : Claim7 := { stood := { row := zoneUnivsRow, standIns := [], harness := (true, "216194c2da72797cf98b92a4324fd1d5e13fbe3ff4b67fd04300b33ba882992c"), looks := false }, kinds := [], alts := [], laidByText := true, laidKinds := [.data, .data, .pinned], laidTests := true, laidLooks := .later }
def ZoneUnivsCardSaid : Prop := Claim7.holds Tryz.pinned (.plain (OpenSpec.ofChange zoneUnivsSpec)) zoneUnivsCard

/-- THE TIED CARD OF 'meridianlaw15.FooterTells'. -/
def footerTellsCard : Claim7 := { stood := { row := footerTellsRow, standIns := [], harness := (true, "216194c2da72797cf98b92a4324fd1d5e13fbe3ff4b67fd04300b33ba882992c"), looks := false }, kinds := [], alts := [], laidByText := true, laidKinds := [.data, .data, .pinned], laidTests := true, laidLooks := .later }
def FooterTellsCardSaid : Prop := Claim7.holds Tryz.pinned (.plain (OpenSpec.ofChange footerTellsSpec)) footerTellsCard

/-- THE TIED CARD OF 'meridianlaw15.FooterEnds'. -/
def footerEndsCard : Claim7 := { stood := { row := footerEndsRow, standIns := [], harness := (true, "216194c2da72797cf98b92a4324fd1d5e13fbe3ff4b67fd04300b33ba882992c"), looks := false }, kinds := [], alts := [], laidByText := true, laidKinds := [.data, .data, .pinned], laidTests := true, laidLooks := .later }
def FooterEndsCardSaid : Prop := Claim7.holds Tryz.pinned (.plain (OpenSpec.ofChange footerEndsSpec)) footerEndsCard

/-- THE TIED CARD OF 'meridianlaw15.FooterOwn'. -/
def footerOwnCard : Claim7 := { stood := { row := footerOwnRow, standIns := [], harness := (true, "216194c2da72797cf98b92a4324fd1d5e13fbe3ff4b67fd04300b33ba882992c"), looks := false }, kinds := [], alts := [], laidByText := true, laidKinds := [.data, .data, .pinned], laidTests := true, laidLooks := .later }
def FooterOwnCardSaid : Prop := Claim7.holds Tryz.pinned (.plain (OpenSpec.ofChange footerOwnSpec)) footerOwnCard

/-- THE TIED CARD OF 'meridianlaw15.FooterHolds'. -/
def footerHoldsCard : Claim7 := { stood := { row := footerHoldsRow, standIns := [], harness := (true, "216194c2da72797cf98b92a4324fd1d5e13fbe3ff4b67fd04300b33ba882992c"), looks := false }, kinds := [], alts := [], laidByText := true, laidKinds := [.data, .data, .pinned], laidTests := true, laidLooks := .later }
def FooterHoldsCardSaid : Prop := Claim7.holds Tryz.pinned (.plain (OpenSpec.ofChange footerHoldsSpec)) footerHoldsCard

/-- THE TIED CARD OF 'meridianlaw15.FooterTurns'. -/
def footerTurnsCard : Claim7 := { stood := { row := footerTurnsRow, standIns := [], harness := (true, "216194c2da72797cf98b92a4324fd1d5e13fbe3ff4b67fd04300b33ba882992c"), looks := false }, kinds := [], alts := [], laidByText := true, laidKinds := [.data, .data, .pinned], laidTests := true, laidLooks := .later }
def FooterTurnsCardSaid : Prop := Claim7.holds Tryz.pinned (.plain (OpenSpec.ofChange footerTurnsSpec)) footerTurnsCard

/-- THE TIED CARD OF 'meridianlaw15.FooterNear'. -/
def footerNearCard : Claim7 := { stood := { row := footerNearRow, standIns := [], harness := (true, "216194c2da72797cf98b92a4324fd1d5e13fbe3ff4b67fd04300b33ba882992c"), looks := false }, kinds := [], alts := [], laidByText := true, laidKinds := [.data, .data, .pinned], laidTests := true, laidLooks := .later }
def FooterNearCardSaid : Prop := Claim7.holds Tryz.pinned (.plain (OpenSpec.ofChange footerNearSpec)) footerNearCard

/-- THE TIED CARD OF 'meridianlaw14.TableMakes'. -/
def tableMakesCard : Claim7 := { stood := { row := tableMakesRow, standIns := [], harness := (true, "216194c2da72797cf98b92a4324fd1d5e13fbe3ff4b67fd04300b33ba882992c"), looks := false }, kinds := [], alts := [], laidByText := true, laidKinds := [.data, .data, .pinned], laidTests := true, laidLooks := .later }
def TableMakesCardSaid : Prop := Claim7.holds Tryz.pinned (.plain (OpenSpec.ofChange tableMakesSpec)) tableMakesCard

/-- THE TIED CARD OF 'meridianlaw14.TableErrs'. -/
def tableErrsCard : Claim7 := { stood := { row := tableErrsRow, standIns := [], harness := (true, "216194c2da72797cf98b92a4324fd1d5e13fbe3ff4b67fd04300b33ba882992c"), looks := false }, kinds := [], alts := [], laidByText := true, laidKinds := [.data, .data, .pinned], laidTests := true, laidLooks := .later }
def TableErrsCardSaid : Prop := Claim7.holds Tryz.pinned (.plain (OpenSpec.ofChange tableErrsSpec)) tableErrsCard

/-- THE TIED CARD OF 'meridianlaw14.TableJoins'. -/
def tableJoinsCard : Claim7 := { stood := { row := tableJoinsRow, standIns := [], harness := (true, "216194c2da72797cf98b92a4324fd1d5e13fbe3ff4b67fd04300b33ba882992c"), looks := false }, kinds := [], alts := [], laidByText := true, laidKinds := [.data, .data, .pinned], laidTests := true, laidLooks := .later }
def TableJoinsCardSaid : Prop := Claim7.holds Tryz.pinned (.plain (OpenSpec.ofChange tableJoinsSpec)) tableJoinsCard

/-- THE TIED CARD OF 'meridianlaw14.TableShows'. -/
def tableShowsCard : Claim7 := { stood := { row := tableShowsRow, standIns := [], harness := (true, "216194c2da72797cf98b92a4324fd1d5e13fbe3ff4b67fd04300b33ba882992c"), looks := false }, kinds := [], alts := [], laidByText := true, laidKinds := [.data, .data, .pinned], laidTests := true, laidLooks := .later }
def TableShowsCardSaid : Prop := Claim7.holds Tryz.pinned (.plain (OpenSpec.ofChange tableShowsSpec)) tableShowsCard

/-- THE SECOND FORM's CARD OF 'meridianlaw13.ZoneUnivs'. -/
def zoneUnivsUptoCard : Claim7 := { stood := { row := zoneUnivsUptoRow, standIns := [], harness := (true, "216194c2da72797cf98b92a4324fd1d5e13fbe3ff4b67fd04300b33ba882992c"), looks := false }, kinds := [], alts := [], laidByText := true, laidKinds := [.data, .data, .pinned], laidTests := true, laidLooks := .later }
def ZoneUnivsUptoCardSaid : Prop := Claim7.holds Tryz.pinned (.plain (OpenSpec.upto zoneUnivsSpec)) zoneUnivsUptoCard

/-- THE SECOND FORM's CARD OF 'meridianlaw15.FooterTells'. -/
def footerTellsUptoCard : Claim7 := { stood := { row := footerTellsUptoRow, standIns := [], harness := (true, "216194c2da72797cf98b92a4324fd1d5e13fbe3ff4b67fd04300b33ba882992c"), looks := false }, kinds := [], alts := [], laidByText := true, laidKinds := [.data, .data, .pinned], laidTests := true, laidLooks := .later }
def FooterTellsUptoCardSaid : Prop := Claim7.holds Tryz.pinned (.plain (OpenSpec.upto footerTellsSpec)) footerTellsUptoCard

/-- THE SECOND FORM's CARD OF 'meridianlaw15.FooterEnds'. -/
def footerEndsUptoCard : Claim7 := { stood := { row := footerEndsUptoRow, standIns := [], harness := (true, "216194c2da72797cf98b92a4324fd1d5e13fbe3ff4b67fd04300b33ba882992c"), looks := false }, kinds := [], alts := [], laidByText := true, laidKinds := [.data, .data, .pinned], laidTests := true, laidLooks := .later }
def FooterEndsUptoCardSaid : Prop := Claim7.holds Tryz.pinned (.plain (OpenSpec.upto footerEndsSpec)) footerEndsUptoCard

/-- THE SECOND FORM's CARD OF 'meridianlaw15.FooterOwn'. -/
def footerOwnUptoCard : Claim7 := { stood := { row := footerOwnUptoRow, standIns := [], harness := (true, "216194c2da72797cf98b92a4324fd1d5e13fbe3ff4b67fd04300b33ba882992c"), looks := false }, kinds := [], alts := [], laidByText := true, laidKinds := [.data, .data, .pinned], laidTests := true, laidLooks := .later }
def FooterOwnUptoCardSaid : Prop := Claim7.holds Tryz.pinned (.plain (OpenSpec.upto footerOwnSpec)) footerOwnUptoCard

/-- THE SECOND FORM's CARD OF 'meridianlaw15.FooterHolds'. -/
def footerHoldsUptoCard : Claim7 := { stood := { row := footerHoldsUptoRow, standIns := [], harness := (true, "216194c2da72797cf98b92a4324fd1d5e13fbe3ff4b67fd04300b33ba882992c"), looks := false }, kinds := [], alts := [], laidByText := true, laidKinds := [.data, .data, .pinned], laidTests := true, laidLooks := .later }
def FooterHoldsUptoCardSaid : Prop := Claim7.holds Tryz.pinned (.plain (OpenSpec.upto footerHoldsSpec)) footerHoldsUptoCard

/-- THE SECOND FORM's CARD OF 'meridianlaw15.FooterTurns'. -/
def footerTurnsUptoCard : Claim7 := { stood := { row := footerTurnsUptoRow, standIns := [], harness := (true, "216194c2da72797cf98b92a4324fd1d5e13fbe3ff4b67fd04300b33ba882992c"), looks := false }, kinds := [], alts := [], laidByText := true, laidKinds := [.data, .data, .pinned], laidTests := true, laidLooks := .later }
def FooterTurnsUptoCardSaid : Prop := Claim7.holds Tryz.pinned (.plain (OpenSpec.upto footerTurnsSpec)) footerTurnsUptoCard

/-- THE SECOND FORM's CARD OF 'meridianlaw15.FooterNear'. -/
def footerNearUptoCard : Claim7 := { stood := { row := footerNearUptoRow, standIns := [], harness := (true, "216194c2da72797cf98b92a4324fd1d5e13fbe3ff4b67fd04300b33ba882992c"), looks := false }, kinds := [], alts := [], laidByText := true, laidKinds := [.data, .data, .pinned], laidTests := true, laidLooks := .later }
def FooterNearUptoCardSaid : Prop := Claim7.holds Tryz.pinned (.plain (OpenSpec.upto footerNearSpec)) footerNearUptoCard

/-- THE SECOND FORM's CARD OF 'meridianlaw14.TableMakes'. -/
def tableMakesUptoCard : Claim7 := { stood := { row := tableMakesUptoRow, standIns := [], harness := (true, "216194c2da72797cf98b92a4324fd1d5e13fbe3ff4b67fd04300b33ba882992c"), looks := false }, kinds := [], alts := [], laidByText := true, laidKinds := [.data, .data, .pinned], laidTests := true, laidLooks := .later }
def TableMakesUptoCardSaid : Prop := Claim7.holds Tryz.pinned (.plain (OpenSpec.upto tableMakesSpec)) tableMakesUptoCard

/-- THE SECOND FORM's CARD OF 'meridianlaw14.TableErrs'. -/
def tableErrsUptoCard : Claim7 := { stood := { row := tableErrsUptoRow, standIns := [], harness := (true, "216194c2da72797cf98b92a4324fd1d5e13fbe3ff4b67fd04300b33ba882992c"), looks := false }, kinds := [], alts := [], laidByText := true, laidKinds := [.data, .data, .pinned], laidTests := true, laidLooks := .later }
def TableErrsUptoCardSaid : Prop := Claim7.holds Tryz.pinned (.plain (OpenSpec.upto tableErrsSpec)) tableErrsUptoCard

/-- THE SECOND FORM's CARD OF 'meridianlaw14.TableJoins'. -/
def tableJoinsUptoCard : Claim7 := { stood := { row := tableJoinsUptoRow, standIns := [], harness := (true, "216194c2da72797cf98b92a4324fd1d5e13fbe3ff4b67fd04300b33ba882992c"), looks := false }, kinds := [], alts := [], laidByText := true, laidKinds := [.data, .data, .pinned], laidTests := true, laidLooks := .later }
def TableJoinsUptoCardSaid : Prop := Claim7.holds Tryz.pinned (.plain (OpenSpec.upto tableJoinsSpec)) tableJoinsUptoCard

/-- THE SECOND FORM's CARD OF 'meridianlaw14.TableShows'. -/
def tableShowsUptoCard : Claim7 := { stood := { row := tableShowsUptoRow, standIns := [], harness := (true, "216194c2da72797cf98b92a4324fd1d5e13fbe3ff4b67fd04300b33ba882992c"), looks := false }, kinds := [], alts := [], laidByText := true, laidKinds := [.data, .data, .pinned], laidTests := true, laidLooks := .later }
def TableShowsUptoCardSaid : Prop := Claim7.holds Tryz.pinned (.plain (OpenSpec.upto tableShowsSpec)) tableShowsUptoCard
end Rows
end Go.Proofs.YteekjfgjmccdnaaGreatDoor
