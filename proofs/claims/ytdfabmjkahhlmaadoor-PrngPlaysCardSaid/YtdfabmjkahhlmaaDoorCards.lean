/-
  DERIVED. GIVEN WITH THE SEED: THE CARDS: each row of YtdfabmjkahhlmaaDoorRows.lean that lists a variable, with what it lists TIED to the program's text (the seventh form; the later family's looks); each row that meets fmt, with fmt's text TOLD by the authors' own Lean function (tested against real Go, not proved from fmt's source: count such statements apart). THE CARD IS WHAT COUNTS. Prove the row's statement (the work); the ties are given (YtdfabmjkahhlmaaDoorTie.lean); close each card by the builder's one call (the guide's Derived/Test/ToyasCard.lean, 'card_holds'). Laid BY PROGRAM, IN A SANDBOX (cutbox-door.mjs). By AI agents, Wed Nov 11 2026. No macro, syntax, notation, axiom, sorry.
-/
import Derived.Test.YtdfabmjkahhlmaaDoorRows
import GoSem.ClaimSeven
namespace Go.Proofs.YtdfabmjkahhlmaaDoor
namespace Rows

/-- THE TIED CARD OF 'timesynclaw08.PrngMixes'. -/
def prngMixesCard : Claim7 := { stood := { row := prngMixesRow, standIns := [], harness := (true, "830ce8f449667379c9c93a2640a299c1db8d8dbb694524b3929540ade91b8121"), looks := false }, kinds := [], alts := [], laidByText := true, laidKinds := [.data], laidTests := true, laidLooks := .later }
def PrngMixesCardSaid : Prop := Claim7.holds Tryd.pinned (.plain (OpenSpec.ofChange prngMixesSpec)) prngMixesCard

/-- THE TIED CARD OF 'timesynclaw08.PrngNth'. -/
def prngNthCard : Claim7 := { stood := { row := prngNthRow, standIns := [], harness := (true, "830ce8f449667379c9c93a2640a299c1db8d8dbb694524b3929540ade91b8121"), looks := false }, kinds := [], alts := [], laidByText := true, laidKinds := [.data], laidTests := true, laidLooks := .later }
def PrngNthCardSaid : Prop := Claim7.holds Tryd.pinned (.plain (OpenSpec.ofChange prngNthSpec)) prngNthCard

/-- THE TIED CARD OF 'timesynclaw08.PrngBijective'. -/
def prngBijectiveCard : Claim7 := { stood := { row := prngBijectiveRow, standIns := [], harness := (true, "830ce8f449667379c9c93a2640a299c1db8d8dbb694524b3929540ade91b8121"), looks := false }, kinds := [], alts := [], laidByText := true, laidKinds := [.data], laidTests := true, laidLooks := .later }
def PrngBijectiveCardSaid : Prop := Claim7.holds Tryd.pinned (.plain (OpenSpec.ofChange prngBijectiveSpec)) prngBijectiveCard

/-- THE TIED CARD OF 'timesynclaw08.PrngWithin'. -/
def prngWithinCard : Claim7 := { stood := { row := prngWithinRow, standIns := [], harness := (true, "830ce8f449667379c9c93a2640a299c1db8d8dbb694524b3929540ade91b8121"), looks := false }, kinds := [], alts := [], laidByText := true, laidKinds := [.data], laidTests := true, laidLooks := .later }
def PrngWithinCardSaid : Prop := Claim7.holds Tryd.pinned (.plain (OpenSpec.ofChange prngWithinSpec)) prngWithinCard

/-- THE TIED CARD OF 'timesynclaw08.PrngPerms'. -/
def prngPermsCard : Claim7 := { stood := { row := prngPermsRow, standIns := [], harness := (true, "830ce8f449667379c9c93a2640a299c1db8d8dbb694524b3929540ade91b8121"), looks := false }, kinds := [], alts := [], laidByText := true, laidKinds := [.data], laidTests := true, laidLooks := .later }
def PrngPermsCardSaid : Prop := Claim7.holds Tryd.pinned (.plain (OpenSpec.ofChange prngPermsSpec)) prngPermsCard

/-- THE TIED CARD OF 'timesynclaw08.PrngPlays'. -/
def prngPlaysCard : Claim7 := { stood := { row := prngPlaysRow, standIns := [], harness := (true, "830ce8f449667379c9c93a2640a299c1db8d8dbb694524b3929540ade91b8121"), looks := false }, kinds := [], alts := [], laidByText := true, laidKinds := [.data], laidTests := true, laidLooks := .later }
def PrngPlaysCardSaid : Prop := Claim7.holds Tryd.pinned (.plain (OpenSpec.ofChange prngPlaysSpec)) prngPlaysCard

/-- THE TIED CARD OF 'timesynclaw08.PrngApart'. -/
def prngApartCard : Claim7 := { stood := { row := prngApartRow, standIns := [], harness := (true, "830ce8f449667379c9c93a2640a299c1db8d8dbb694524b3929540ade91b8121"), looks := false }, kinds := [], alts := [], laidByText := true, laidKinds := [.data], laidTests := true, laidLooks := .later }
def PrngApartCardSaid : Prop := Claim7.holds Tryd.pinned (.plain (OpenSpec.ofChange prngApartSpec)) prngApartCard

/-- THE TIED CARD OF 'timesynclaw08.PrngNobody'. -/
def prngNobodyCard : Claim7 := { stood := { row := prngNobodyRow, standIns := [], harness := (true, "830ce8f449667379c9c93a2640a299c1db8d8dbb694524b3929540ade91b8121"), looks := false }, kinds := [], alts := [], laidByText := true, laidKinds := [.data], laidTests := true, laidLooks := .later }
def PrngNobodyCardSaid : Prop := Claim7.holds Tryd.pinned (.plain (OpenSpec.ofChange prngNobodySpec)) prngNobodyCard

/-- THE SECOND FORM's CARD OF 'timesynclaw08.PrngMixes'. -/
def prngMixesUptoCard : Claim7 := { stood := { row := prngMixesUptoRow, standIns := [], harness := (true, "830ce8f449667379c9c93a2640a299c1db8d8dbb694524b3929540ade91b8121"), looks := false }, kinds := [], alts := [], laidByText := true, laidKinds := [.data], laidTests := true, laidLooks := .later }
def PrngMixesUptoCardSaid : Prop := Claim7.holds Tryd.pinned (.plain (OpenSpec.upto prngMixesSpec)) prngMixesUptoCard

/-- THE SECOND FORM's CARD OF 'timesynclaw08.PrngNth'. -/
def prngNthUptoCard : Claim7 := { stood := { row := prngNthUptoRow, standIns := [], harness := (true, "830ce8f449667379c9c93a2640a299c1db8d8dbb694524b3929540ade91b8121"), looks := false }, kinds := [], alts := [], laidByText := true, laidKinds := [.data], laidTests := true, laidLooks := .later }
def PrngNthUptoCardSaid : Prop := Claim7.holds Tryd.pinned (.plain (OpenSpec.upto prngNthSpec)) prngNthUptoCard

/-- THE SECOND FORM's CARD OF 'timesynclaw08.PrngBijective'. -/
def prngBijectiveUptoCard : Claim7 := { stood := { row := prngBijectiveUptoRow, standIns := [], harness := (true, "830ce8f449667379c9c93a2640a299c1db8d8dbb694524b3929540ade91b8121"), looks := false }, kinds := [], alts := [], laidByText := true, laidKinds := [.data], laidTests := true, laidLooks := .later }
def PrngBijectiveUptoCardSaid : Prop := Claim7.holds Tryd.pinned (.plain (OpenSpec.upto prngBijectiveSpec)) prngBijectiveUptoCard

/-- THE SECOND FORM's CARD OF 'timesynclaw08.PrngWithin'. -/
def prngWithinUptoCard : Claim7 := { stood := { row := prngWithinUptoRow, standIns := [], harness := (true, "830ce8f449667379c9c93a2640a299c1db8d8dbb694524b3929540ade91b8121"), looks := false }, kinds := [], alts := [], laidByText := true, laidKinds := [.data], laidTests := true, laidLooks := .later }
def PrngWithinUptoCardSaid : Prop := Claim7.holds Tryd.pinned (.plain (OpenSpec.upto prngWithinSpec)) prngWithinUptoCard

/-- THE SECOND FORM's CARD OF 'timesynclaw08.PrngPerms'. -/
def prngPermsUptoCard : Claim7 := { stood := { row := prngPermsUptoRow, standIns := [], harness := (true, "830ce8f449667379c9c93a2640a299c1db8d8dbb694524b3929540ade91b8121"), looks := false }, kinds := [], alts := [], laidByText := true, laidKinds := [.data], laidTests := true, laidLooks := .later }
def PrngPermsUptoCardSaid : Prop := Claim7.holds Tryd.pinned (.plain (OpenSpec.upto prngPermsSpec)) prngPermsUptoCard

/-- THE SECOND FORM's CARD OF 'timesynclaw08.PrngPlays'. -/
def prngPlaysUptoCard : Claim7 := { stood := { row := prngPlaysUptoRow, standIns := [], harness := (true, "830ce8f449667379c9c93a2640a299c1db8d8dbb694524b3929540ade91b8121"), looks := false }, kinds := [], alts := [], laidByText := true, laidKinds := [.data], laidTests := true, laidLooks := .later }
def PrngPlaysUptoCardSaid : Prop := Claim7.holds Tryd.pinned (.plain (OpenSpec.upto prngPlaysSpec)) prngPlaysUptoCard

/-- THE SECOND FORM's CARD OF 'timesynclaw08.PrngApart'. -/
def prngApartUptoCard : Claim7 := { stood := { row := prngApartUptoRow, standIns := [], harness := (true, "830ce8f449667379c9c93a2640a299c1db8d8dbb694524b3929540ade91b8121"), looks := false }, kinds := [], alts := [], laidByText := true, laidKinds := [.data], laidTests := true, laidLooks := .later }
def PrngApartUptoCardSaid : Prop := Claim7.holds Tryd.pinned (.plain (OpenSpec.upto prngApartSpec)) prngApartUptoCard

/-- THE SECOND FORM's CARD OF 'timesynclaw08.PrngNobody'. -/
def prngNobodyUptoCard : Claim7 := { stood := { row := prngNobodyUptoRow, standIns := [], harness := (true, "830ce8f449667379c9c93a2640a299c1db8d8dbb694524b3929540ade91b8121"), looks := false }, kinds := [], alts := [], laidByText := true, laidKinds := [.data], laidTests := true, laidLooks := .later }
def PrngNobodyUptoCardSaid : Prop := Claim7.holds Tryd.pinned (.plain (OpenSpec.upto prngNobodySpec)) prngNobodyUptoCard
end Rows
end Go.Proofs.YtdfabmjkahhlmaaDoor
