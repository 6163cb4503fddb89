/-
  DERIVED. GIVEN WITH THE SEED: THE CARDS: each row of YtopamnfelngkcaaDoorRows.lean that lists a variable, with what it lists TIED to the program's text (the seventh form; the later family's looks); each row that meets fmt, with fmt's text TOLD by the authors' own Lean function (tested against real Go, not proved from fmt's source: count such statements apart). THE CARD IS WHAT COUNTS. Prove the row's statement (the work); the ties are given (YtopamnfelngkcaaDoorTie.lean); close each card by the builder's one call (the guide's Derived/Test/ToyasCard.lean, 'card_holds'). Laid BY PROGRAM, IN A SANDBOX (cutbox-door.mjs). By AI agents, Wed Nov 11 2026. No macro, syntax, notation, axiom, sorry.
-/
import Derived.Test.YtopamnfelngkcaaDoorRows
import GoSem.ClaimSeven
namespace Go.Proofs.YtopamnfelngkcaaDoor
namespace Rows

/-- THE TIED CARD OF 'sleuthlaw05.RouteTouch'. -/
def routeTouchCard : Claim7 := { stood := { row := routeTouchRow, standIns := [], harness := (true, "68083e3a969a3813233239de7e874619da711f2043e9ffca7711b2e8b0bdf765"), looks := false }, kinds := [], alts := [], laidByText := true, laidKinds := [.data, .pinned], laidTests := true, laidLooks := .later }
def RouteTouchCardSaid : Prop := Claim7.holds Tryd.pinned (.plain (OpenSpec.ofChange routeTouchSpec)) routeTouchCard

/-- THE TIED CARD OF 'sleuthlaw05.RouteRight'. -/
def routeRightCard : Claim7 := { stood := { row := routeRightRow, standIns := [], harness := (true, "68083e3a969a3813233239de7e874619da711f2043e9ffca7711b2e8b0bdf765"), looks := false }, kinds := [], alts := [], laidByText := true, laidKinds := [.data, .pinned], laidTests := true, laidLooks := .later }
def RouteRightCardSaid : Prop := Claim7.holds Tryd.pinned (.plain (OpenSpec.ofChange routeRightSpec)) routeRightCard

/-- THE TIED CARD OF 'sleuthlaw05.RouteFits'. -/
def routeFitsCard : Claim7 := { stood := { row := routeFitsRow, standIns := [], harness := (true, "68083e3a969a3813233239de7e874619da711f2043e9ffca7711b2e8b0bdf765"), looks := false }, kinds := [], alts := [], laidByText := true, laidKinds := [.data, .pinned], laidTests := true, laidLooks := .later }
def RouteFitsCardSaid : Prop := Claim7.holds Tryd.pinned (.plain (OpenSpec.ofChange routeFitsSpec)) routeFitsCard

/-- THE TIED CARD OF 'sleuthlaw05.RouteHolds'. -/
def routeHoldsCard : Claim7 := { stood := { row := routeHoldsRow, standIns := [], harness := (true, "68083e3a969a3813233239de7e874619da711f2043e9ffca7711b2e8b0bdf765"), looks := false }, kinds := [], alts := [], laidByText := true, laidKinds := [.data, .pinned], laidTests := true, laidLooks := .later }
def RouteHoldsCardSaid : Prop := Claim7.holds Tryd.pinned (.plain (OpenSpec.ofChange routeHoldsSpec)) routeHoldsCard

/-- THE TIED CARD OF 'sleuthlaw05.RouteParts'. -/
def routePartsCard : Claim7 := { stood := { row := routePartsRow, standIns := [], harness := (true, "68083e3a969a3813233239de7e874619da711f2043e9ffca7711b2e8b0bdf765"), looks := false }, kinds := [], alts := [], laidByText := true, laidKinds := [.data, .pinned], laidTests := true, laidLooks := .later }
def RoutePartsCardSaid : Prop := Claim7.holds Tryd.pinned (.plain (OpenSpec.ofChange routePartsSpec)) routePartsCard

/-- THE TIED CARD OF 'sleuthlaw05.RouteBack'. -/
def routeBackCard : Claim7 := { stood := { row := routeBackRow, standIns := [], harness := (true, "68083e3a969a3813233239de7e874619da711f2043e9ffca7711b2e8b0bdf765"), looks := false }, kinds := [], alts := [], laidByText := true, laidKinds := [.data, .pinned], laidTests := true, laidLooks := .later }
def RouteBackCardSaid : Prop := Claim7.holds Tryd.pinned (.plain (OpenSpec.ofChange routeBackSpec)) routeBackCard

/-- THE TIED CARD OF 'sleuthlaw16.BloomPaths'. -/
def bloomPathsCard : Claim7 := { stood := { row := bloomPathsRow, standIns := [], harness := (true, "68083e3a969a3813233239de7e874619da711f2043e9ffca7711b2e8b0bdf765"), looks := false }, kinds := [], alts := [], laidByText := true, laidKinds := [.data, .pinned], laidTests := true, laidLooks := .later }
def BloomPathsCardSaid : Prop := Claim7.holds Tryd.pinned (.plain (OpenSpec.ofChange bloomPathsSpec)) bloomPathsCard

/-- THE TIED CARD OF 'sleuthlaw12.RefsFinds'. -/
def refsFindsCard : Claim7 := { stood := { row := refsFindsRow, standIns := [], harness := (true, "68083e3a969a3813233239de7e874619da711f2043e9ffca7711b2e8b0bdf765"), looks := false }, kinds := [], alts := [], laidByText := true, laidKinds := [.data, .pinned], laidTests := true, laidLooks := .later }
def RefsFindsCardSaid : Prop := Claim7.holds Tryd.pinned (.plain (OpenSpec.ofChange refsFindsSpec)) refsFindsCard

/-- THE TIED CARD OF 'sleuthlaw12.RefsPuts'. -/
def refsPutsCard : Claim7 := { stood := { row := refsPutsRow, standIns := [], harness := (true, "68083e3a969a3813233239de7e874619da711f2043e9ffca7711b2e8b0bdf765"), looks := false }, kinds := [], alts := [], laidByText := true, laidKinds := [.data, .pinned], laidTests := true, laidLooks := .later }
def RefsPutsCardSaid : Prop := Claim7.holds Tryd.pinned (.plain (OpenSpec.ofChange refsPutsSpec)) refsPutsCard

/-- THE TIED CARD OF 'sleuthlaw12.RefsGets'. -/
def refsGetsCard : Claim7 := { stood := { row := refsGetsRow, standIns := [], harness := (true, "68083e3a969a3813233239de7e874619da711f2043e9ffca7711b2e8b0bdf765"), looks := false }, kinds := [], alts := [], laidByText := true, laidKinds := [.data, .pinned], laidTests := true, laidLooks := .later }
def RefsGetsCardSaid : Prop := Claim7.holds Tryd.pinned (.plain (OpenSpec.ofChange refsGetsSpec)) refsGetsCard

/-- THE TIED CARD OF 'sleuthlaw12.RefsSets'. -/
def refsSetsCard : Claim7 := { stood := { row := refsSetsRow, standIns := [], harness := (true, "68083e3a969a3813233239de7e874619da711f2043e9ffca7711b2e8b0bdf765"), looks := false }, kinds := [], alts := [], laidByText := true, laidKinds := [.data, .pinned], laidTests := true, laidLooks := .later }
def RefsSetsCardSaid : Prop := Claim7.holds Tryd.pinned (.plain (OpenSpec.ofChange refsSetsSpec)) refsSetsCard

/-- THE TIED CARD OF 'sleuthlaw12.RefsKeeps'. -/
def refsKeepsCard : Claim7 := { stood := { row := refsKeepsRow, standIns := [], harness := (true, "68083e3a969a3813233239de7e874619da711f2043e9ffca7711b2e8b0bdf765"), looks := false }, kinds := [], alts := [], laidByText := true, laidKinds := [.data, .pinned], laidTests := true, laidLooks := .later }
def RefsKeepsCardSaid : Prop := Claim7.holds Tryd.pinned (.plain (OpenSpec.ofChange refsKeepsSpec)) refsKeepsCard

/-- THE SECOND FORM's CARD OF 'sleuthlaw05.RouteTouch'. -/
def routeTouchUptoCard : Claim7 := { stood := { row := routeTouchUptoRow, standIns := [], harness := (true, "68083e3a969a3813233239de7e874619da711f2043e9ffca7711b2e8b0bdf765"), looks := false }, kinds := [], alts := [], laidByText := true, laidKinds := [.data, .pinned], laidTests := true, laidLooks := .later }
def RouteTouchUptoCardSaid : Prop := Claim7.holds Tryd.pinned (.plain (OpenSpec.upto routeTouchSpec)) routeTouchUptoCard

/-- THE SECOND FORM's CARD OF 'sleuthlaw05.RouteRight'. -/
def routeRightUptoCard : Claim7 := { stood := { row := routeRightUptoRow, standIns := [], harness := (true, "68083e3a969a3813233239de7e874619da711f2043e9ffca7711b2e8b0bdf765"), looks := false }, kinds := [], alts := [], laidByText := true, laidKinds := [.data, .pinned], laidTests := true, laidLooks := .later }
def RouteRightUptoCardSaid : Prop := Claim7.holds Tryd.pinned (.plain (OpenSpec.upto routeRightSpec)) routeRightUptoCard

/-- THE SECOND FORM's CARD OF 'sleuthlaw05.RouteFits'. -/
def routeFitsUptoCard : Claim7 := { stood := { row := routeFitsUptoRow, standIns := [], harness := (true, "68083e3a969a3813233239de7e874619da711f2043e9ffca7711b2e8b0bdf765"), looks := false }, kinds := [], alts := [], laidByText := true, laidKinds := [.data, .pinned], laidTests := true, laidLooks := .later }
def RouteFitsUptoCardSaid : Prop := Claim7.holds Tryd.pinned (.plain (OpenSpec.upto routeFitsSpec)) routeFitsUptoCard

/-- THE SECOND FORM's CARD OF 'sleuthlaw05.RouteHolds'. -/
def routeHoldsUptoCard : Claim7 := { stood := { row := routeHoldsUptoRow, standIns := [], harness := (true, "68083e3a969a3813233239de7e874619da711f2043e9ffca7711b2e8b0bdf765"), looks := false }, kinds := [], alts := [], laidByText := true, laidKinds := [.data, .pinned], laidTests := true, laidLooks := .later }
def RouteHoldsUptoCardSaid : Prop := Claim7.holds Tryd.pinned (.plain (OpenSpec.upto routeHoldsSpec)) routeHoldsUptoCard

/-- THE SECOND FORM's CARD OF 'sleuthlaw05.RouteParts'. -/
def routePartsUptoCard : Claim7 := { stood := { row := routePartsUptoRow, standIns := [], harness := (true, "68083e3a969a3813233239de7e874619da711f2043e9ffca7711b2e8b0bdf765"), looks := false }, kinds := [], alts := [], laidByText := true, laidKinds := [.data, .pinned], laidTests := true, laidLooks := .later }
def RoutePartsUptoCardSaid : Prop := Claim7.holds Tryd.pinned (.plain (OpenSpec.upto routePartsSpec)) routePartsUptoCard

/-- THE SECOND FORM's CARD OF 'sleuthlaw05.RouteBack'. -/
def routeBackUptoCard : Claim7 := { stood := { row := routeBackUptoRow, standIns := [], harness := (true, "68083e3a969a3813233239de7e874619da711f2043e9ffca7711b2e8b0bdf765"), looks := false }, kinds := [], alts := [], laidByText := true, laidKinds := [.data, .pinned], laidTests := true, laidLooks := .later }
def RouteBackUptoCardSaid : Prop := Claim7.holds Tryd.pinned (.plain (OpenSpec.upto routeBackSpec)) routeBackUptoCard

/-- THE SECOND FORM's CARD OF 'sleuthlaw16.BloomPaths'. -/
def bloomPathsUptoCard : Claim7 := { stood := { row := bloomPathsUptoRow, standIns := [], harness := (true, "68083e3a969a3813233239de7e874619da711f2043e9ffca7711b2e8b0bdf765"), looks := false }, kinds := [], alts := [], laidByText := true, laidKinds := [.data, .pinned], laidTests := true, laidLooks := .later }
def BloomPathsUptoCardSaid : Prop := Claim7.holds Tryd.pinned (.plain (OpenSpec.upto bloomPathsSpec)) bloomPathsUptoCard

/-- THE SECOND FORM's CARD OF 'sleuthlaw12.RefsFinds'. -/
def refsFindsUptoCard : Claim7 := { stood := { row := refsFindsUptoRow, standIns := [], harness := (true, "68083e3a969a3813233239de7e874619da711f2043e9ffca7711b2e8b0bdf765"), looks := false }, kinds := [], alts := [], laidByText := true, laidKinds := [.data, .pinned], laidTests := true, laidLooks := .later }
def RefsFindsUptoCardSaid : Prop := Claim7.holds Tryd.pinned (.plain (OpenSpec.upto refsFindsSpec)) refsFindsUptoCard

/-- THE SECOND FORM's CARD OF 'sleuthlaw12.RefsPuts'. -/
def refsPutsUptoCard : Claim7 := { stood := { row := refsPutsUptoRow, standIns := [], harness := (true, "68083e3a969a3813233239de7e874619da711f2043e9ffca7711b2e8b0bdf765"), looks := false }, kinds := [], alts := [], laidByText := true, laidKinds := [.data, .pinned], laidTests := true, laidLooks := .later }
def RefsPutsUptoCardSaid : Prop := Claim7.holds Tryd.pinned (.plain (OpenSpec.upto refsPutsSpec)) refsPutsUptoCard

/-- THE SECOND FORM's CARD OF 'sleuthlaw12.RefsGets'. -/
def refsGetsUptoCard : Claim7 := { stood := { row := refsGetsUptoRow, standIns := [], harness := (true, "68083e3a969a3813233239de7e874619da711f2043e9ffca7711b2e8b0bdf765"), looks := false }, kinds := [], alts := [], laidByText := true, laidKinds := [.data, .pinned], laidTests := true, laidLooks := .later }
def RefsGetsUptoCardSaid : Prop := Claim7.holds Tryd.pinned (.plain (OpenSpec.upto refsGetsSpec)) refsGetsUptoCard

/-- THE SECOND FORM's CARD OF 'sleuthlaw12.RefsSets'. -/
def refsSetsUptoCard : Claim7 := { stood := { row := refsSetsUptoRow, standIns := [], harness := (true, "68083e3a969a3813233239de7e874619da711f2043e9ffca7711b2e8b0bdf765"), looks := false }, kinds := [], alts := [], laidByText := true, laidKinds := [.data, .pinned], laidTests := true, laidLooks := .later }
def RefsSetsUptoCardSaid : Prop := Claim7.holds Tryd.pinned (.plain (OpenSpec.upto refsSetsSpec)) refsSetsUptoCard

/-- THE SECOND FORM's CARD OF 'sleuthlaw12.RefsKeeps'. -/
def refsKeepsUptoCard : Claim7 := { stood := { row := refsKeepsUptoRow, standIns := [], harness := (true, "68083e3a969a3813233239de7e874619da711f2043e9ffca7711b2e8b0bdf765"), looks := false }, kinds := [], alts := [], laidByText := true, laidKinds := [.data, .pinned], laidTests := true, laidLooks := .later }
def RefsKeepsUptoCardSaid : Prop := Claim7.holds Tryd.pinned (.plain (OpenSpec.upto refsKeepsSpec)) refsKeepsUptoCard
end Rows
end Go.Proofs.YtopamnfelngkcaaDoor
