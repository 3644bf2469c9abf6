/-
  NARROWER THAN 'FOR EVERY INPUT', by the rows' own cells (each row's printed sentence says how): LinkChecks: laid · LinkDelays: laid · LinkBounds: laid · LinkArrives: laid · LinkWithin: laid · LinkLosses: laid · LinkSources: laid · TopDeliveries: laid.
  DERIVED. THE GIVEN ROWS OF THIS SEAT. 8 by the template 'for every input the law returns true; each argument reads behind the call as it read before'; 0 by the template 'total and deterministic' (their statements: YtjeojnlkjecojaaDoorTotals.lean).
  GIVEN WITH THE SEED: the statements are not yours to turn. If you find one false, say at which input.
  Laid BY PROGRAM, IN A SANDBOX (cutbox-rows.mjs): the forced cells as the released guide's own fill.sh prints them over the translation 8f79e93604704ec7… (all of the seat's roots in one cut). By AI agents, Wed Nov 11 2026. No macro, syntax, notation, axiom, sorry.
-/
import Derived.Test.YtjeojnlkjecojaaDoorChecked
import GoSem.Claim
import GoSem.ClaimJoined
import GoSem.ClaimMapViews
import Derived.JoinedTies
import Derived.KernelRfl
namespace Go.Proofs.YtjeojnlkjecojaaDoor
/- THE CELL 'sum', in the pinned program and in every row, IS THE sha256 OF THE DUMP (.gsa) THAT YtjeojnlkjecojaaDoorProg.lean LOADS. Nothing in Lean hashes anything: it is a label: what it is worth is what the hold of that sum in a sandbox is worth. -/
noncomputable def Tryd.pinned : Pinned := { name := "ytjeojnlkjecojaadoor", sum := "8f79e93604704ec798fef00831d356303c305ffc593c2ff42f10c4a5bda689ec", checked := Tryd.checked }
namespace Rows
def none {H : Type} : Left H := { results := [], args := [] }

/- WHAT THE LISTED PACKAGE-LEVEL VARIABLES READ AS WHEN THE CALL BEGINS. Each datum BY PROGRAM (the guide's laid-datum.mjs) off the statement by which the dump's own 'gosem.cut.vars' lays the variable. In a bare row this is a premise. The card (YtjeojnlkjecojaaDoorCards.lean) ties it to the program's text. -/
def laid_timesync_prng_rounds {H : Type} : DataW H := .agg [.agg [.lit (.int .u64 30), .lit (.int .u64 13787848793156543929)], .agg [.lit (.int .u64 27), .lit (.int .u64 10723151780598845931)], .agg [.lit (.int .u64 31), .lit (.int .u64 1)]]

/-- 'timesynclaw16.LinkChecks': WHATEVER THE INPUT: true; the input reads as it did. -/
def linkChecksSpec : ChangeSpec := { name := "linkChecks", fn := fun _ => fun
  | [d] => { results := [.lit (.bool true)], args := [d] }
  | _ => none }
def linkChecksRow : OpenClaim := { program := "ytjeojnlkjecojaadoor", sum := "8f79e93604704ec798fef00831d356303c305ffc593c2ff42f10c4a5bda689ec", func := "timesync/timesynclaw16.LinkChecks", spec := "linkChecks", named := ["timesync/prng.rounds"], apart := false, laid := [("timesync/prng.rounds", laid_timesync_prng_rounds)] }
def LinkChecksSaid : Prop := linkChecksRow.holds Tryd.pinned (OpenSpec.ofChange linkChecksSpec)

/-- ITS FALSE NEIGHBOUR: 'it returns false'. Refute it at one input. -/
def linkChecksWrong : ChangeSpec := { name := "linkChecks", fn := fun _ => fun
  | [d] => { results := [.lit (.bool false)], args := [d] }
  | _ => none }
def LinkChecksWrongFalsely : Prop := linkChecksRow.holds Tryd.pinned (OpenSpec.ofChange linkChecksWrong)

/-- 'timesynclaw16.LinkDelays': WHATEVER THE INPUT: true; the input reads as it did. -/
def linkDelaysSpec : ChangeSpec := { name := "linkDelays", fn := fun _ => fun
  | [d1, d2, d3] => { results := [.lit (.bool true)], args := [d1, d2, d3] }
  | _ => none }
def linkDelaysRow : OpenClaim := { program := "ytjeojnlkjecojaadoor", sum := "8f79e93604704ec798fef00831d356303c305ffc593c2ff42f10c4a5bda689ec", func := "timesync/timesynclaw16.LinkDelays", spec := "linkDelays", named := ["timesync/prng.rounds"], apart := false, laid := [("timesync/prng.rounds", laid_timesync_prng_rounds)] }
def LinkDelaysSaid : Prop := linkDelaysRow.holds Tryd.pinned (OpenSpec.ofChange linkDelaysSpec)

/-- ITS FALSE NEIGHBOUR: 'it returns false'. Refute it at one input. -/
def linkDelaysWrong : ChangeSpec := { name := "linkDelays", fn := fun _ => fun
  | [d1, d2, d3] => { results := [.lit (.bool false)], args := [d1, d2, d3] }
  | _ => none }
def LinkDelaysWrongFalsely : Prop := linkDelaysRow.holds Tryd.pinned (OpenSpec.ofChange linkDelaysWrong)

/-- 'timesynclaw16.LinkBounds': WHATEVER THE INPUT: true; the input reads as it did. -/
def linkBoundsSpec : ChangeSpec := { name := "linkBounds", fn := fun _ => fun
  | [d1, d2, d3] => { results := [.lit (.bool true)], args := [d1, d2, d3] }
  | _ => none }
def linkBoundsRow : OpenClaim := { program := "ytjeojnlkjecojaadoor", sum := "8f79e93604704ec798fef00831d356303c305ffc593c2ff42f10c4a5bda689ec", func := "timesync/timesynclaw16.LinkBounds", spec := "linkBounds", named := ["timesync/prng.rounds"], apart := false, laid := [("timesync/prng.rounds", laid_timesync_prng_rounds)] }
def LinkBoundsSaid : Prop := linkBoundsRow.holds Tryd.pinned (OpenSpec.ofChange linkBoundsSpec)

/-- ITS FALSE NEIGHBOUR: 'it returns false'. Refute it at one input. -/
def linkBoundsWrong : ChangeSpec := { name := "linkBounds", fn := fun _ => fun
  | [d1, d2, d3] => { results := [.lit (.bool false)], args := [d1, d2, d3] }
  | _ => none }
def LinkBoundsWrongFalsely : Prop := linkBoundsRow.holds Tryd.pinned (OpenSpec.ofChange linkBoundsWrong)

/-- 'timesynclaw16.LinkArrives': WHATEVER THE INPUT: true; the input reads as it did. -/
def linkArrivesSpec : ChangeSpec := { name := "linkArrives", fn := fun _ => fun
  | [d1, d2] => { results := [.lit (.bool true)], args := [d1, d2] }
  | _ => none }
def linkArrivesRow : OpenClaim := { program := "ytjeojnlkjecojaadoor", sum := "8f79e93604704ec798fef00831d356303c305ffc593c2ff42f10c4a5bda689ec", func := "timesync/timesynclaw16.LinkArrives", spec := "linkArrives", named := ["timesync/prng.rounds"], apart := false, laid := [("timesync/prng.rounds", laid_timesync_prng_rounds)] }
def LinkArrivesSaid : Prop := linkArrivesRow.holds Tryd.pinned (OpenSpec.ofChange linkArrivesSpec)

/-- ITS FALSE NEIGHBOUR: 'it returns false'. Refute it at one input. -/
def linkArrivesWrong : ChangeSpec := { name := "linkArrives", fn := fun _ => fun
  | [d1, d2] => { results := [.lit (.bool false)], args := [d1, d2] }
  | _ => none }
def LinkArrivesWrongFalsely : Prop := linkArrivesRow.holds Tryd.pinned (OpenSpec.ofChange linkArrivesWrong)

/-- 'timesynclaw16.LinkWithin': WHATEVER THE INPUT: true; the input reads as it did. -/
def linkWithinSpec : ChangeSpec := { name := "linkWithin", fn := fun _ => fun
  | [d1, d2] => { results := [.lit (.bool true)], args := [d1, d2] }
  | _ => none }
def linkWithinRow : OpenClaim := { program := "ytjeojnlkjecojaadoor", sum := "8f79e93604704ec798fef00831d356303c305ffc593c2ff42f10c4a5bda689ec", func := "timesync/timesynclaw16.LinkWithin", spec := "linkWithin", named := ["timesync/prng.rounds"], apart := false, laid := [("timesync/prng.rounds", laid_timesync_prng_rounds)] }
def LinkWithinSaid : Prop := linkWithinRow.holds Tryd.pinned (OpenSpec.ofChange linkWithinSpec)

/-- ITS FALSE NEIGHBOUR: 'it returns false'. Refute it at one input. -/
def linkWithinWrong : ChangeSpec := { name := "linkWithin", fn := fun _ => fun
  | [d1, d2] => { results := [.lit (.bool false)], args := [d1, d2] }
  | _ => none }
def LinkWithinWrongFalsely : Prop := linkWithinRow.holds Tryd.pinned (OpenSpec.ofChange linkWithinWrong)

/-- 'timesynclaw16.LinkLosses': WHATEVER THE INPUT: true; the input reads as it did. -/
def linkLossesSpec : ChangeSpec := { name := "linkLosses", fn := fun _ => fun
  | [d1, d2, d3] => { results := [.lit (.bool true)], args := [d1, d2, d3] }
  | _ => none }
def linkLossesRow : OpenClaim := { program := "ytjeojnlkjecojaadoor", sum := "8f79e93604704ec798fef00831d356303c305ffc593c2ff42f10c4a5bda689ec", func := "timesync/timesynclaw16.LinkLosses", spec := "linkLosses", named := ["timesync/prng.rounds"], apart := false, laid := [("timesync/prng.rounds", laid_timesync_prng_rounds)] }
def LinkLossesSaid : Prop := linkLossesRow.holds Tryd.pinned (OpenSpec.ofChange linkLossesSpec)

/-- ITS FALSE NEIGHBOUR: 'it returns false'. Refute it at one input. -/
def linkLossesWrong : ChangeSpec := { name := "linkLosses", fn := fun _ => fun
  | [d1, d2, d3] => { results := [.lit (.bool false)], args := [d1, d2, d3] }
  | _ => none }
def LinkLossesWrongFalsely : Prop := linkLossesRow.holds Tryd.pinned (OpenSpec.ofChange linkLossesWrong)

/-- 'timesynclaw16.LinkSources': WHATEVER THE INPUT: true; the input reads as it did. -/
def linkSourcesSpec : ChangeSpec := { name := "linkSources", fn := fun _ => fun
  | [d1, d2] => { results := [.lit (.bool true)], args := [d1, d2] }
  | _ => none }
def linkSourcesRow : OpenClaim := { program := "ytjeojnlkjecojaadoor", sum := "8f79e93604704ec798fef00831d356303c305ffc593c2ff42f10c4a5bda689ec", func := "timesync/timesynclaw16.LinkSources", spec := "linkSources", named := ["timesync/prng.rounds"], apart := false, laid := [("timesync/prng.rounds", laid_timesync_prng_rounds)] }
def LinkSourcesSaid : Prop := linkSourcesRow.holds Tryd.pinned (OpenSpec.ofChange linkSourcesSpec)

/-- ITS FALSE NEIGHBOUR: 'it returns false'. Refute it at one input. -/
def linkSourcesWrong : ChangeSpec := { name := "linkSources", fn := fun _ => fun
  | [d1, d2] => { results := [.lit (.bool false)], args := [d1, d2] }
  | _ => none }
def LinkSourcesWrongFalsely : Prop := linkSourcesRow.holds Tryd.pinned (OpenSpec.ofChange linkSourcesWrong)

/-- 'timesynctop.TopDeliveries': WHATEVER THE INPUT: true; the input reads as it did. -/
def topDeliveriesSpec : ChangeSpec := { name := "topDeliveries", fn := fun _ => fun
  | [d1, d2, d3] => { results := [.lit (.bool true)], args := [d1, d2, d3] }
  | _ => none }
def topDeliveriesRow : OpenClaim := { program := "ytjeojnlkjecojaadoor", sum := "8f79e93604704ec798fef00831d356303c305ffc593c2ff42f10c4a5bda689ec", func := "timesync/timesynctop.TopDeliveries", spec := "topDeliveries", unfollowed := true, recurses := true, named := ["timesync/prng.rounds"], apart := false, laid := [("timesync/prng.rounds", laid_timesync_prng_rounds)] }
def TopDeliveriesSaid : Prop := topDeliveriesRow.holds Tryd.pinned (OpenSpec.ofChange topDeliveriesSpec)

/-- ITS FALSE NEIGHBOUR: 'it returns false'. Refute it at one input. -/
def topDeliveriesWrong : ChangeSpec := { name := "topDeliveries", fn := fun _ => fun
  | [d1, d2, d3] => { results := [.lit (.bool false)], args := [d1, d2, d3] }
  | _ => none }
def TopDeliveriesWrongFalsely : Prop := topDeliveriesRow.holds Tryd.pinned (OpenSpec.ofChange topDeliveriesWrong)

/- THE SECOND FORM. 'bulk': how many values and letters a reading holds, each counted each time it is reached (what is shared counts as often as it is met; a slice's spare places count too). A statement '..UptoSaid' is the law's where the arguments, and the package variables that the reading takes, are together of bulk at most 1048576: NARROWER than '..Said'. Prove '..Said' where nothing that the law and all that it calls make is longer than what came in: it says more and counts as full. Else prove '..UptoSaid'. A law counts once. -/
mutual
def uptoBulk {H : Type} : DataW H → Nat
  | .lit (.string bytes) => bytes.length + 1
  | .lit _ => 1
  | .nil => 1
  | .ptr d => uptoBulk d + 1
  | .slice elems spare => uptoBulkAll elems + uptoBulkAll spare + 1
  | .agg parts => uptoBulkAll parts + 1
  | .iface _ d => uptoBulk d + 1
  | .map entries => uptoBulkEntries entries + 1
  | .held _ => 1
def uptoBulkAll {H : Type} : List (DataW H) → Nat
  | [] => 0
  | d :: r => uptoBulk d + uptoBulkAll r
def uptoBulkEntries {H : Type} : List (Lit × DataW H) → Nat
  | [] => 0
  | x :: r => uptoBulkEntry x + uptoBulkEntries r
def uptoBulkEntry {H : Type} : Lit × DataW H → Nat
  | (.string bytes, d) => bytes.length + uptoBulk d + 1
  | (_, d) => uptoBulk d + 1
 end
def uptoSmall : (H : Type) → List (DataW H) → Bool := fun _ ds => decide (uptoBulkAll ds ≤ 1048576)
def OpenSpec.upto (s : _root_.Go.ChangeSpec) : _root_.Go.OpenSpec := { _root_.Go.OpenSpec.ofChange s with cond := some uptoSmall }

/-- 'timesynclaw16.LinkChecks', WHERE WHAT IT READS IS OF BULK AT MOST 1048576: true; the input reads as it did. -/
def linkChecksUptoRow : OpenClaim := { program := "ytjeojnlkjecojaadoor", sum := "8f79e93604704ec798fef00831d356303c305ffc593c2ff42f10c4a5bda689ec", func := "timesync/timesynclaw16.LinkChecks", spec := "linkChecks", named := ["timesync/prng.rounds"], apart := false, laid := [("timesync/prng.rounds", laid_timesync_prng_rounds)], narrowed := true }
def LinkChecksUptoSaid : Prop := linkChecksUptoRow.holds Tryd.pinned (OpenSpec.upto linkChecksSpec)

/-- 'timesynclaw16.LinkDelays', WHERE WHAT IT READS IS OF BULK AT MOST 1048576: true; the input reads as it did. -/
def linkDelaysUptoRow : OpenClaim := { program := "ytjeojnlkjecojaadoor", sum := "8f79e93604704ec798fef00831d356303c305ffc593c2ff42f10c4a5bda689ec", func := "timesync/timesynclaw16.LinkDelays", spec := "linkDelays", named := ["timesync/prng.rounds"], apart := false, laid := [("timesync/prng.rounds", laid_timesync_prng_rounds)], narrowed := true }
def LinkDelaysUptoSaid : Prop := linkDelaysUptoRow.holds Tryd.pinned (OpenSpec.upto linkDelaysSpec)

/-- 'timesynclaw16.LinkBounds', WHERE WHAT IT READS IS OF BULK AT MOST 1048576: true; the input reads as it did. -/
def linkBoundsUptoRow : OpenClaim := { program := "ytjeojnlkjecojaadoor", sum := "8f79e93604704ec798fef00831d356303c305ffc593c2ff42f10c4a5bda689ec", func := "timesync/timesynclaw16.LinkBounds", spec := "linkBounds", named := ["timesync/prng.rounds"], apart := false, laid := [("timesync/prng.rounds", laid_timesync_prng_rounds)], narrowed := true }
def LinkBoundsUptoSaid : Prop := linkBoundsUptoRow.holds Tryd.pinned (OpenSpec.upto linkBoundsSpec)

/-- 'timesynclaw16.LinkArrives', WHERE WHAT IT READS IS OF BULK AT MOST 1048576: true; the input reads as it did. -/
def linkArrivesUptoRow : OpenClaim := { program := "ytjeojnlkjecojaadoor", sum := "8f79e93604704ec798fef00831d356303c305ffc593c2ff42f10c4a5bda689ec", func := "timesync/timesynclaw16.LinkArrives", spec := "linkArrives", named := ["timesync/prng.rounds"], apart := false, laid := [("timesync/prng.rounds", laid_timesync_prng_rounds)], narrowed := true }
def LinkArrivesUptoSaid : Prop := linkArrivesUptoRow.holds Tryd.pinned (OpenSpec.upto linkArrivesSpec)

/-- 'timesynclaw16.LinkWithin', WHERE WHAT IT READS IS OF BULK AT MOST 1048576: true; the input reads as it did. -/
def linkWithinUptoRow : OpenClaim := { program := "ytjeojnlkjecojaadoor", sum := "8f79e93604704ec798fef00831d356303c305ffc593c2ff42f10c4a5bda689ec", func := "timesync/timesynclaw16.LinkWithin", spec := "linkWithin", named := ["timesync/prng.rounds"], apart := false, laid := [("timesync/prng.rounds", laid_timesync_prng_rounds)], narrowed := true }
def LinkWithinUptoSaid : Prop := linkWithinUptoRow.holds Tryd.pinned (OpenSpec.upto linkWithinSpec)

/-- 'timesynclaw16.LinkLosses', WHERE WHAT IT READS IS OF BULK AT MOST 1048576: true; the input reads as it did. -/
def linkLossesUptoRow : OpenClaim := { program := "ytjeojnlkjecojaadoor", sum := "8f79e93604704ec798fef00831d356303c305ffc593c2ff42f10c4a5bda689ec", func := "timesync/timesynclaw16.LinkLosses", spec := "linkLosses", named := ["timesync/prng.rounds"], apart := false, laid := [("timesync/prng.rounds", laid_timesync_prng_rounds)], narrowed := true }
def LinkLossesUptoSaid : Prop := linkLossesUptoRow.holds Tryd.pinned (OpenSpec.upto linkLossesSpec)

/-- 'timesynclaw16.LinkSources', WHERE WHAT IT READS IS OF BULK AT MOST 1048576: true; the input reads as it did. -/
def linkSourcesUptoRow : OpenClaim := { program := "ytjeojnlkjecojaadoor", sum := "8f79e93604704ec798fef00831d356303c305ffc593c2ff42f10c4a5bda689ec", func := "timesync/timesynclaw16.LinkSources", spec := "linkSources", named := ["timesync/prng.rounds"], apart := false, laid := [("timesync/prng.rounds", laid_timesync_prng_rounds)], narrowed := true }
def LinkSourcesUptoSaid : Prop := linkSourcesUptoRow.holds Tryd.pinned (OpenSpec.upto linkSourcesSpec)

/-- 'timesynctop.TopDeliveries', WHERE WHAT IT READS IS OF BULK AT MOST 1048576: true; the input reads as it did. -/
def topDeliveriesUptoRow : OpenClaim := { program := "ytjeojnlkjecojaadoor", sum := "8f79e93604704ec798fef00831d356303c305ffc593c2ff42f10c4a5bda689ec", func := "timesync/timesynctop.TopDeliveries", spec := "topDeliveries", unfollowed := true, recurses := true, named := ["timesync/prng.rounds"], apart := false, laid := [("timesync/prng.rounds", laid_timesync_prng_rounds)], narrowed := true }
def TopDeliveriesUptoSaid : Prop := topDeliveriesUptoRow.holds Tryd.pinned (OpenSpec.upto topDeliveriesSpec)

end Rows
end Go.Proofs.YtjeojnlkjecojaaDoor
