/-
  DERIVED. GIVEN WITH THE SEED: THE CARDS: each row of YtmegiodajkeahaaDoorRows.lean that lists a variable, with what it lists TIED to the program's text (the seventh form; the later family's looks); each row that meets fmt, with fmt's text TOLD by the authors' own Lean function (tested against real Go, not proved from fmt's source: count such statements apart). THE CARD IS WHAT COUNTS. Prove the row's statement (the work); the ties are given (YtmegiodajkeahaaDoorTie.lean); close each card by the builder's one call (the guide's Derived/Test/ToyasCard.lean, 'card_holds'). Laid BY PROGRAM, IN A SANDBOX (cutbox-door.mjs). By AI agents, Wed Nov 11 2026. No macro, syntax, notation, axiom, sorry.
-/
import Derived.Test.YtmegiodajkeahaaDoorRows
import GoSem.ClaimSeven
namespace Go.Proofs.YtmegiodajkeahaaDoor
namespace Rows

/-- THE TIED CARD OF 'timesynclaw46.ChainMakes'. -/
def chainMakesCard : Claim7 := { stood := { row := chainMakesRow, standIns := [], harness := (true, "ac1d67962ff0575d6e1caad4a6ff576cb76a0054965bef7553c4b5ad14badad4"), looks := false }, kinds := [], alts := [], laidByText := true, laidKinds := [.data, .data], laidTests := true, laidLooks := .later }
def ChainMakesCardSaid : Prop := Claim7.holds Tryd.pinned (.plain (OpenSpec.ofChange chainMakesSpec)) chainMakesCard

/-- THE TIED CARD OF 'timesynclaw46.ChainRuns'. -/
def chainRunsCard : Claim7 := { stood := { row := chainRunsRow, standIns := [], harness := (true, "ac1d67962ff0575d6e1caad4a6ff576cb76a0054965bef7553c4b5ad14badad4"), looks := false }, kinds := [], alts := [], laidByText := true, laidKinds := [.data, .data], laidTests := true, laidLooks := .later }
def ChainRunsCardSaid : Prop := Claim7.holds Tryd.pinned (.plain (OpenSpec.ofChange chainRunsSpec)) chainRunsCard

/-- THE TIED CARD OF 'timesynclaw46.ChainDerives'. -/
def chainDerivesCard : Claim7 := { stood := { row := chainDerivesRow, standIns := [], harness := (true, "ac1d67962ff0575d6e1caad4a6ff576cb76a0054965bef7553c4b5ad14badad4"), looks := false }, kinds := [], alts := [], laidByText := true, laidKinds := [.data, .data], laidTests := true, laidLooks := .later }
def ChainDerivesCardSaid : Prop := Claim7.holds Tryd.pinned (.plain (OpenSpec.ofChange chainDerivesSpec)) chainDerivesCard

/-- THE TIED CARD OF 'timesynclaw46.ChainIntervals'. -/
def chainIntervalsCard : Claim7 := { stood := { row := chainIntervalsRow, standIns := [], harness := (true, "ac1d67962ff0575d6e1caad4a6ff576cb76a0054965bef7553c4b5ad14badad4"), looks := false }, kinds := [], alts := [], laidByText := true, laidKinds := [.data, .data], laidTests := true, laidLooks := .later }
def ChainIntervalsCardSaid : Prop := Claim7.holds Tryd.pinned (.plain (OpenSpec.ofChange chainIntervalsSpec)) chainIntervalsCard

/-- THE TIED CARD OF 'timesynclaw46.ChainComplete'. -/
def chainCompleteCard : Claim7 := { stood := { row := chainCompleteRow, standIns := [], harness := (true, "ac1d67962ff0575d6e1caad4a6ff576cb76a0054965bef7553c4b5ad14badad4"), looks := false }, kinds := [], alts := [], laidByText := true, laidKinds := [.data, .data], laidTests := true, laidLooks := .later }
def ChainCompleteCardSaid : Prop := Claim7.holds Tryd.pinned (.plain (OpenSpec.ofChange chainCompleteSpec)) chainCompleteCard

/-- THE TIED CARD OF 'timesynclaw46.ChainLosses'. -/
def chainLossesCard : Claim7 := { stood := { row := chainLossesRow, standIns := [], harness := (true, "ac1d67962ff0575d6e1caad4a6ff576cb76a0054965bef7553c4b5ad14badad4"), looks := false }, kinds := [], alts := [], laidByText := true, laidKinds := [.data, .data], laidTests := true, laidLooks := .later }
def ChainLossesCardSaid : Prop := Claim7.holds Tryd.pinned (.plain (OpenSpec.ofChange chainLossesSpec)) chainLossesCard

/-- THE TIED CARD OF 'timesynclaw46.ChainSound'. -/
def chainSoundCard : Claim7 := { stood := { row := chainSoundRow, standIns := [], harness := (true, "ac1d67962ff0575d6e1caad4a6ff576cb76a0054965bef7553c4b5ad14badad4"), looks := false }, kinds := [], alts := [], laidByText := true, laidKinds := [.data, .data], laidTests := true, laidLooks := .later }
def ChainSoundCardSaid : Prop := Claim7.holds Tryd.pinned (.plain (OpenSpec.ofChange chainSoundSpec)) chainSoundCard

/-- THE TIED CARD OF 'timesynclaw46.ChainNobody'. -/
def chainNobodyCard : Claim7 := { stood := { row := chainNobodyRow, standIns := [], harness := (true, "ac1d67962ff0575d6e1caad4a6ff576cb76a0054965bef7553c4b5ad14badad4"), looks := false }, kinds := [], alts := [], laidByText := true, laidKinds := [.data, .data], laidTests := true, laidLooks := .later }
def ChainNobodyCardSaid : Prop := Claim7.holds Tryd.pinned (.plain (OpenSpec.ofChange chainNobodySpec)) chainNobodyCard

/-- THE TIED CARD OF 'timesynctop.TopBroadcast'. -/
def topBroadcastCard : Claim7 := { stood := { row := topBroadcastRow, standIns := [], harness := (true, "ac1d67962ff0575d6e1caad4a6ff576cb76a0054965bef7553c4b5ad14badad4"), looks := false }, kinds := [], alts := [], laidByText := true, laidKinds := [.data], laidTests := true, laidLooks := .later }
def TopBroadcastCardSaid : Prop := Claim7.holds Tryd.pinned (.plain (OpenSpec.ofChange topBroadcastSpec)) topBroadcastCard

/-- THE SECOND FORM's CARD OF 'timesynclaw46.ChainMakes'. -/
def chainMakesUptoCard : Claim7 := { stood := { row := chainMakesUptoRow, standIns := [], harness := (true, "ac1d67962ff0575d6e1caad4a6ff576cb76a0054965bef7553c4b5ad14badad4"), looks := false }, kinds := [], alts := [], laidByText := true, laidKinds := [.data, .data], laidTests := true, laidLooks := .later }
def ChainMakesUptoCardSaid : Prop := Claim7.holds Tryd.pinned (.plain (OpenSpec.upto chainMakesSpec)) chainMakesUptoCard

/-- THE SECOND FORM's CARD OF 'timesynclaw46.ChainRuns'. -/
def chainRunsUptoCard : Claim7 := { stood := { row := chainRunsUptoRow, standIns := [], harness := (true, "ac1d67962ff0575d6e1caad4a6ff576cb76a0054965bef7553c4b5ad14badad4"), looks := false }, kinds := [], alts := [], laidByText := true, laidKinds := [.data, .data], laidTests := true, laidLooks := .later }
def ChainRunsUptoCardSaid : Prop := Claim7.holds Tryd.pinned (.plain (OpenSpec.upto chainRunsSpec)) chainRunsUptoCard

/-- THE SECOND FORM's CARD OF 'timesynclaw46.ChainDerives'. -/
def chainDerivesUptoCard : Claim7 := { stood := { row := chainDerivesUptoRow, standIns := [], harness := (true, "ac1d67962ff0575d6e1caad4a6ff576cb76a0054965bef7553c4b5ad14badad4"), looks := false }, kinds := [], alts := [], laidByText := true, laidKinds := [.data, .data], laidTests := true, laidLooks := .later }
def ChainDerivesUptoCardSaid : Prop := Claim7.holds Tryd.pinned (.plain (OpenSpec.upto chainDerivesSpec)) chainDerivesUptoCard

/-- THE SECOND FORM's CARD OF 'timesynclaw46.ChainIntervals'. -/
def chainIntervalsUptoCard : Claim7 := { stood := { row := chainIntervalsUptoRow, standIns := [], harness := (true, "ac1d67962ff0575d6e1caad4a6ff576cb76a0054965bef7553c4b5ad14badad4"), looks := false }, kinds := [], alts := [], laidByText := true, laidKinds := [.data, .data], laidTests := true, laidLooks := .later }
def ChainIntervalsUptoCardSaid : Prop := Claim7.holds Tryd.pinned (.plain (OpenSpec.upto chainIntervalsSpec)) chainIntervalsUptoCard

/-- THE SECOND FORM's CARD OF 'timesynclaw46.ChainComplete'. -/
def chainCompleteUptoCard : Claim7 := { stood := { row := chainCompleteUptoRow, standIns := [], harness := (true, "ac1d67962ff0575d6e1caad4a6ff576cb76a0054965bef7553c4b5ad14badad4"), looks := false }, kinds := [], alts := [], laidByText := true, laidKinds := [.data, .data], laidTests := true, laidLooks := .later }
def ChainCompleteUptoCardSaid : Prop := Claim7.holds Tryd.pinned (.plain (OpenSpec.upto chainCompleteSpec)) chainCompleteUptoCard

/-- THE SECOND FORM's CARD OF 'timesynclaw46.ChainLosses'. -/
def chainLossesUptoCard : Claim7 := { stood := { row := chainLossesUptoRow, standIns := [], harness := (true, "ac1d67962ff0575d6e1caad4a6ff576cb76a0054965bef7553c4b5ad14badad4"), looks := false }, kinds := [], alts := [], laidByText := true, laidKinds := [.data, .data], laidTests := true, laidLooks := .later }
def ChainLossesUptoCardSaid : Prop := Claim7.holds Tryd.pinned (.plain (OpenSpec.upto chainLossesSpec)) chainLossesUptoCard

/-- THE SECOND FORM's CARD OF 'timesynclaw46.ChainSound'. -/
def chainSoundUptoCard : Claim7 := { stood := { row := chainSoundUptoRow, standIns := [], harness := (true, "ac1d67962ff0575d6e1caad4a6ff576cb76a0054965bef7553c4b5ad14badad4"), looks := false }, kinds := [], alts := [], laidByText := true, laidKinds := [.data, .data], laidTests := true, laidLooks := .later }
def ChainSoundUptoCardSaid : Prop := Claim7.holds Tryd.pinned (.plain (OpenSpec.upto chainSoundSpec)) chainSoundUptoCard

/-- THE SECOND FORM's CARD OF 'timesynclaw46.ChainNobody'. -/
def chainNobodyUptoCard : Claim7 := { stood := { row := chainNobodyUptoRow, standIns := [], harness := (true, "ac1d67962ff0575d6e1caad4a6ff576cb76a0054965bef7553c4b5ad14badad4"), looks := false }, kinds := [], alts := [], laidByText := true, laidKinds := [.data, .data], laidTests := true, laidLooks := .later }
def ChainNobodyUptoCardSaid : Prop := Claim7.holds Tryd.pinned (.plain (OpenSpec.upto chainNobodySpec)) chainNobodyUptoCard

/-- THE SECOND FORM's CARD OF 'timesynctop.TopBroadcast'. -/
def topBroadcastUptoCard : Claim7 := { stood := { row := topBroadcastUptoRow, standIns := [], harness := (true, "ac1d67962ff0575d6e1caad4a6ff576cb76a0054965bef7553c4b5ad14badad4"), looks := false }, kinds := [], alts := [], laidByText := true, laidKinds := [.data], laidTests := true, laidLooks := .later }
def TopBroadcastUptoCardSaid : Prop := Claim7.holds Tryd.pinned (.plain (OpenSpec.upto topBroadcastSpec)) topBroadcastUptoCard
end Rows
end Go.Proofs.YtmegiodajkeahaaDoor
