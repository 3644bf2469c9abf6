/-
  DERIVED. GIVEN WITH THE SEED: THE CARDS: each row of YtjeojnlkjecojaaDoorRows.lean that lists a variable, with what it lists TIED to the program's text (the seventh form; the later family's looks); each row that meets fmt, with fmt's text TOLD by the authors' own Lean function (tested against real Go, not proved from fmt's source: count such statements apart). THE CARD IS WHAT COUNTS. Prove the row's statement (the work); the ties are given (YtjeojnlkjecojaaDoorTie.lean); close each card by the builder's one call (the guide's Derived/Test/ToyasCard.lean, 'card_holds'). Laid BY PROGRAM, IN A SANDBOX (cutbox-door.mjs). By AI agents, Wed Nov 11 2026. No macro, syntax, notation, axiom, sorry.
-/
import Derived.Test.YtjeojnlkjecojaaDoorRows
import GoSem.ClaimSeven
namespace Go.Proofs.YtjeojnlkjecojaaDoor
namespace Rows

/-- THE TIED CARD OF 'timesynclaw16.LinkChecks'. -/
def linkChecksCard : Claim7 := { stood := { row := linkChecksRow, standIns := [], harness := (true, "c4404342ff6cba4f35c7458a630c003e58143dc03f08dda04bc15ab1e3956c54"), looks := false }, kinds := [], alts := [], laidByText := true, laidKinds := [.data], laidTests := true, laidLooks := .later }
def LinkChecksCardSaid : Prop := Claim7.holds Tryd.pinned (.plain (OpenSpec.ofChange linkChecksSpec)) linkChecksCard

/-- THE TIED CARD OF 'timesynclaw16.LinkDelays'. -/
def linkDelaysCard : Claim7 := { stood := { row := linkDelaysRow, standIns := [], harness := (true, "c4404342ff6cba4f35c7458a630c003e58143dc03f08dda04bc15ab1e3956c54"), looks := false }, kinds := [], alts := [], laidByText := true, laidKinds := [.data], laidTests := true, laidLooks := .later }
def LinkDelaysCardSaid : Prop := Claim7.holds Tryd.pinned (.plain (OpenSpec.ofChange linkDelaysSpec)) linkDelaysCard

/-- THE TIED CARD OF 'timesynclaw16.LinkBounds'. -/
def linkBoundsCard : Claim7 := { stood := { row := linkBoundsRow, standIns := [], harness := (true, "c4404342ff6cba4f35c7458a630c003e58143dc03f08dda04bc15ab1e3956c54"), looks := false }, kinds := [], alts := [], laidByText := true, laidKinds := [.data], laidTests := true, laidLooks := .later }
def LinkBoundsCardSaid : Prop := Claim7.holds Tryd.pinned (.plain (OpenSpec.ofChange linkBoundsSpec)) linkBoundsCard

/-- THE TIED CARD OF 'timesynclaw16.LinkArrives'. -/
def linkArrivesCard : Claim7 := { stood := { row := linkArrivesRow, standIns := [], harness := (true, "c4404342ff6cba4f35c7458a630c003e58143dc03f08dda04bc15ab1e3956c54"), looks := false }, kinds := [], alts := [], laidByText := true, laidKinds := [.data], laidTests := true, laidLooks := .later }
def LinkArrivesCardSaid : Prop := Claim7.holds Tryd.pinned (.plain (OpenSpec.ofChange linkArrivesSpec)) linkArrivesCard

/-- THE TIED CARD OF 'timesynclaw16.LinkWithin'. -/
def linkWithinCard : Claim7 := { stood := { row := linkWithinRow, standIns := [], harness := (true, "c4404342ff6cba4f35c7458a630c003e58143dc03f08dda04bc15ab1e3956c54"), looks := false }, kinds := [], alts := [], laidByText := true, laidKinds := [.data], laidTests := true, laidLooks := .later }
def LinkWithinCardSaid : Prop := Claim7.holds Tryd.pinned (.plain (OpenSpec.ofChange linkWithinSpec)) linkWithinCard

/-- THE TIED CARD OF 'timesynclaw16.LinkLosses'. -/
def linkLossesCard : Claim7 := { stood := { row := linkLossesRow, standIns := [], harness := (true, "c4404342ff6cba4f35c7458a630c003e58143dc03f08dda04bc15ab1e3956c54"), looks := false }, kinds := [], alts := [], laidByText := true, laidKinds := [.data], laidTests := true, laidLooks := .later }
def LinkLossesCardSaid : Prop := Claim7.holds Tryd.pinned (.plain (OpenSpec.ofChange linkLossesSpec)) linkLossesCard

/-- THE TIED CARD OF 'timesynclaw16.LinkSources'. -/
def linkSourcesCard : Claim7 := { stood := { row := linkSourcesRow, standIns := [], harness := (true, "c4404342ff6cba4f35c7458a630c003e58143dc03f08dda04bc15ab1e3956c54"), looks := false }, kinds := [], alts := [], laidByText := true, laidKinds := [.data], laidTests := true, laidLooks := .later }
def LinkSourcesCardSaid : Prop := Claim7.holds Tryd.pinned (.plain (OpenSpec.ofChange linkSourcesSpec)) linkSourcesCard

/-- THE TIED CARD OF 'timesynctop.TopDeliveries'. -/
def topDeliveriesCard : Claim7 := { stood := { row := topDeliveriesRow, standIns := [], harness := (true, "c4404342ff6cba4f35c7458a630c003e58143dc03f08dda04bc15ab1e3956c54"), looks := false }, kinds := [], alts := [], laidByText := true, laidKinds := [.data], laidTests := true, laidLooks := .later }
def TopDeliveriesCardSaid : Prop := Claim7.holds Tryd.pinned (.plain (OpenSpec.ofChange topDeliveriesSpec)) topDeliveriesCard

/-- THE SECOND FORM's CARD OF 'timesynclaw16.LinkChecks'. -/
def linkChecksUptoCard : Claim7 := { stood := { row := linkChecksUptoRow, standIns := [], harness := (true, "c4404342ff6cba4f35c7458a630c003e58143dc03f08dda04bc15ab1e3956c54"), looks := false }, kinds := [], alts := [], laidByText := true, laidKinds := [.data], laidTests := true, laidLooks := .later }
def LinkChecksUptoCardSaid : Prop := Claim7.holds Tryd.pinned (.plain (OpenSpec.upto linkChecksSpec)) linkChecksUptoCard

/-- THE SECOND FORM's CARD OF 'timesynclaw16.LinkDelays'. -/
def linkDelaysUptoCard : Claim7 := { stood := { row := linkDelaysUptoRow, standIns := [], harness := (true, "c4404342ff6cba4f35c7458a630c003e58143dc03f08dda04bc15ab1e3956c54"), looks := false }, kinds := [], alts := [], laidByText := true, laidKinds := [.data], laidTests := true, laidLooks := .later }
def LinkDelaysUptoCardSaid : Prop := Claim7.holds Tryd.pinned (.plain (OpenSpec.upto linkDelaysSpec)) linkDelaysUptoCard

/-- THE SECOND FORM's CARD OF 'timesynclaw16.LinkBounds'. -/
def linkBoundsUptoCard : Claim7 := { stood := { row := linkBoundsUptoRow, standIns := [], harness := (true, "c4404342ff6cba4f35c7458a630c003e58143dc03f08dda04bc15ab1e3956c54"), looks := false }, kinds := [], alts := [], laidByText := true, laidKinds := [.data], laidTests := true, laidLooks := .later }
def LinkBoundsUptoCardSaid : Prop := Claim7.holds Tryd.pinned (.plain (OpenSpec.upto linkBoundsSpec)) linkBoundsUptoCard

/-- THE SECOND FORM's CARD OF 'timesynclaw16.LinkArrives'. -/
def linkArrivesUptoCard : Claim7 := { stood := { row := linkArrivesUptoRow, standIns := [], harness := (true, "c4404342ff6cba4f35c7458a630c003e58143dc03f08dda04bc15ab1e3956c54"), looks := false }, kinds := [], alts := [], laidByText := true, laidKinds := [.data], laidTests := true, laidLooks := .later }
def LinkArrivesUptoCardSaid : Prop := Claim7.holds Tryd.pinned (.plain (OpenSpec.upto linkArrivesSpec)) linkArrivesUptoCard

/-- THE SECOND FORM's CARD OF 'timesynclaw16.LinkWithin'. -/
def linkWithinUptoCard : Claim7 := { stood := { row := linkWithinUptoRow, standIns := [], harness := (true, "c4404342ff6cba4f35c7458a630c003e58143dc03f08dda04bc15ab1e3956c54"), looks := false }, kinds := [], alts := [], laidByText := true, laidKinds := [.data], laidTests := true, laidLooks := .later }
def LinkWithinUptoCardSaid : Prop := Claim7.holds Tryd.pinned (.plain (OpenSpec.upto linkWithinSpec)) linkWithinUptoCard

/-- THE SECOND FORM's CARD OF 'timesynclaw16.LinkLosses'. -/
def linkLossesUptoCard : Claim7 := { stood := { row := linkLossesUptoRow, standIns := [], harness := (true, "c4404342ff6cba4f35c7458a630c003e58143dc03f08dda04bc15ab1e3956c54"), looks := false }, kinds := [], alts := [], laidByText := true, laidKinds := [.data], laidTests := true, laidLooks := .later }
def LinkLossesUptoCardSaid : Prop := Claim7.holds Tryd.pinned (.plain (OpenSpec.upto linkLossesSpec)) linkLossesUptoCard

/-- THE SECOND FORM's CARD OF 'timesynclaw16.LinkSources'. -/
def linkSourcesUptoCard : Claim7 := { stood := { row := linkSourcesUptoRow, standIns := [], harness := (true, "c4404342ff6cba4f35c7458a630c003e58143dc03f08dda04bc15ab1e3956c54"), looks := false }, kinds := [], alts := [], laidByText := true, laidKinds := [.data], laidTests := true, laidLooks := .later }
def LinkSourcesUptoCardSaid : Prop := Claim7.holds Tryd.pinned (.plain (OpenSpec.upto linkSourcesSpec)) linkSourcesUptoCard

/-- THE SECOND FORM's CARD OF 'timesynctop.TopDeliveries'. -/
def topDeliveriesUptoCard : Claim7 := { stood := { row := topDeliveriesUptoRow, standIns := [], harness := (true, "c4404342ff6cba4f35c7458a630c003e58143dc03f08dda04bc15ab1e3956c54"), looks := false }, kinds := [], alts := [], laidByText := true, laidKinds := [.data], laidTests := true, laidLooks := .later }
def TopDeliveriesUptoCardSaid : Prop := Claim7.holds Tryd.pinned (.plain (OpenSpec.upto topDeliveriesSpec)) topDeliveriesUptoCard
end Rows
end Go.Proofs.YtjeojnlkjecojaaDoor
