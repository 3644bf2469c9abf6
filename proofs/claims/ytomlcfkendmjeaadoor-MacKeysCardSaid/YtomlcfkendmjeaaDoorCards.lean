/-
  DERIVED. GIVEN WITH THE SEED: THE CARDS: each row of YtomlcfkendmjeaaDoorRows.lean that lists a variable, with what it lists TIED to the program's text (the seventh form; the later family's looks); each row that meets fmt, with fmt's text TOLD by the authors' own Lean function (tested against real Go, not proved from fmt's source: count such statements apart). THE CARD IS WHAT COUNTS. Prove the row's statement (the work); the ties are given (YtomlcfkendmjeaaDoorTie.lean); close each card by the builder's one call (the guide's Derived/Test/ToyasCard.lean, 'card_holds'). Laid BY PROGRAM, IN A SANDBOX (cutbox-door.mjs). By AI agents, Wed Nov 11 2026. No macro, syntax, notation, axiom, sorry.
-/
import Derived.Test.YtomlcfkendmjeaaDoorRows
import GoSem.ClaimSeven
namespace Go.Proofs.YtomlcfkendmjeaaDoor
namespace Rows

/-- THE TIED CARD OF 'timesynclaw43.MacTags'. -/
def macTagsCard : Claim7 := { stood := { row := macTagsRow, standIns := [], harness := (true, "8291895b15ea5a510b60ba188001a3de1baec4475be113820a017cb11908a8e8"), looks := false }, kinds := [], alts := [], laidByText := true, laidKinds := [.data], laidTests := true, laidLooks := .later }
def MacTagsCardSaid : Prop := Claim7.holds Tryd.pinned (.plain (OpenSpec.ofChange macTagsSpec)) macTagsCard

/-- THE TIED CARD OF 'timesynclaw43.MacDerives'. -/
def macDerivesCard : Claim7 := { stood := { row := macDerivesRow, standIns := [], harness := (true, "8291895b15ea5a510b60ba188001a3de1baec4475be113820a017cb11908a8e8"), looks := false }, kinds := [], alts := [], laidByText := true, laidKinds := [.data], laidTests := true, laidLooks := .later }
def MacDerivesCardSaid : Prop := Claim7.holds Tryd.pinned (.plain (OpenSpec.ofChange macDerivesSpec)) macDerivesCard

/-- THE TIED CARD OF 'timesynclaw43.MacFolds'. -/
def macFoldsCard : Claim7 := { stood := { row := macFoldsRow, standIns := [], harness := (true, "8291895b15ea5a510b60ba188001a3de1baec4475be113820a017cb11908a8e8"), looks := false }, kinds := [], alts := [], laidByText := true, laidKinds := [.data], laidTests := true, laidLooks := .later }
def MacFoldsCardSaid : Prop := Claim7.holds Tryd.pinned (.plain (OpenSpec.ofChange macFoldsSpec)) macFoldsCard

/-- THE TIED CARD OF 'timesynclaw43.MacMixes'. -/
def macMixesCard : Claim7 := { stood := { row := macMixesRow, standIns := [], harness := (true, "8291895b15ea5a510b60ba188001a3de1baec4475be113820a017cb11908a8e8"), looks := false }, kinds := [], alts := [], laidByText := true, laidKinds := [.data], laidTests := true, laidLooks := .later }
def MacMixesCardSaid : Prop := Claim7.holds Tryd.pinned (.plain (OpenSpec.ofChange macMixesSpec)) macMixesCard

/-- THE TIED CARD OF 'timesynclaw43.MacShort'. -/
def macShortCard : Claim7 := { stood := { row := macShortRow, standIns := [], harness := (true, "8291895b15ea5a510b60ba188001a3de1baec4475be113820a017cb11908a8e8"), looks := false }, kinds := [], alts := [], laidByText := true, laidKinds := [.data], laidTests := true, laidLooks := .later }
def MacShortCardSaid : Prop := Claim7.holds Tryd.pinned (.plain (OpenSpec.ofChange macShortSpec)) macShortCard

/-- THE TIED CARD OF 'timesynclaw43.MacKeys'. -/
def macKeysCard : Claim7 := { stood := { row := macKeysRow, standIns := [], harness := (true, "8291895b15ea5a510b60ba188001a3de1baec4475be113820a017cb11908a8e8"), looks := false }, kinds := [], alts := [], laidByText := true, laidKinds := [.data], laidTests := true, laidLooks := .later }
def MacKeysCardSaid : Prop := Claim7.holds Tryd.pinned (.plain (OpenSpec.ofChange macKeysSpec)) macKeysCard

/-- THE SECOND FORM's CARD OF 'timesynclaw43.MacTags'. -/
def macTagsUptoCard : Claim7 := { stood := { row := macTagsUptoRow, standIns := [], harness := (true, "8291895b15ea5a510b60ba188001a3de1baec4475be113820a017cb11908a8e8"), looks := false }, kinds := [], alts := [], laidByText := true, laidKinds := [.data], laidTests := true, laidLooks := .later }
def MacTagsUptoCardSaid : Prop := Claim7.holds Tryd.pinned (.plain (OpenSpec.upto macTagsSpec)) macTagsUptoCard

/-- THE SECOND FORM's CARD OF 'timesynclaw43.MacDerives'. -/
def macDerivesUptoCard : Claim7 := { stood := { row := macDerivesUptoRow, standIns := [], harness := (true, "8291895b15ea5a510b60ba188001a3de1baec4475be113820a017cb11908a8e8"), looks := false }, kinds := [], alts := [], laidByText := true, laidKinds := [.data], laidTests := true, laidLooks := .later }
def MacDerivesUptoCardSaid : Prop := Claim7.holds Tryd.pinned (.plain (OpenSpec.upto macDerivesSpec)) macDerivesUptoCard

/-- THE SECOND FORM's CARD OF 'timesynclaw43.MacFolds'. -/
def macFoldsUptoCard : Claim7 := { stood := { row := macFoldsUptoRow, standIns := [], harness := (true, "8291895b15ea5a510b60ba188001a3de1baec4475be113820a017cb11908a8e8"), looks := false }, kinds := [], alts := [], laidByText := true, laidKinds := [.data], laidTests := true, laidLooks := .later }
def MacFoldsUptoCardSaid : Prop := Claim7.holds Tryd.pinned (.plain (OpenSpec.upto macFoldsSpec)) macFoldsUptoCard

/-- THE SECOND FORM's CARD OF 'timesynclaw43.MacMixes'. -/
def macMixesUptoCard : Claim7 := { stood := { row := macMixesUptoRow, standIns := [], harness := (true, "8291895b15ea5a510b60ba188001a3de1baec4475be113820a017cb11908a8e8"), looks := false }, kinds := [], alts := [], laidByText := true, laidKinds := [.data], laidTests := true, laidLooks := .later }
def MacMixesUptoCardSaid : Prop := Claim7.holds Tryd.pinned (.plain (OpenSpec.upto macMixesSpec)) macMixesUptoCard

/-- THE SECOND FORM's CARD OF 'timesynclaw43.MacShort'. -/
def macShortUptoCard : Claim7 := { stood := { row := macShortUptoRow, standIns := [], harness := (true, "8291895b15ea5a510b60ba188001a3de1baec4475be113820a017cb11908a8e8"), looks := false }, kinds := [], alts := [], laidByText := true, laidKinds := [.data], laidTests := true, laidLooks := .later }
def MacShortUptoCardSaid : Prop := Claim7.holds Tryd.pinned (.plain (OpenSpec.upto macShortSpec)) macShortUptoCard

/-- THE SECOND FORM's CARD OF 'timesynclaw43.MacKeys'. -/
def macKeysUptoCard : Claim7 := { stood := { row := macKeysUptoRow, standIns := [], harness := (true, "8291895b15ea5a510b60ba188001a3de1baec4475be113820a017cb11908a8e8"), looks := false }, kinds := [], alts := [], laidByText := true, laidKinds := [.data], laidTests := true, laidLooks := .later }
def MacKeysUptoCardSaid : Prop := Claim7.holds Tryd.pinned (.plain (OpenSpec.upto macKeysSpec)) macKeysUptoCard
end Rows
end Go.Proofs.YtomlcfkendmjeaaDoor
