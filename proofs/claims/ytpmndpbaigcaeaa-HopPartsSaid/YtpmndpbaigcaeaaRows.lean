/-
  No cell of these rows narrows 'for every input' (looked for: loops, veiled, ifaces, maps, wideKeys, modest, calm, conditions, laid).
  DERIVED. THE GIVEN ROWS OF THIS SEAT. 7 by the template 'for every input the law returns true; each argument reads behind the call as it read before'; 0 by the template 'total and deterministic' (their statements: YtpmndpbaigcaeaaTotals.lean).
  GIVEN WITH THE SEED: the statements are not yours to turn. If you find one false, say at which input.
  Laid BY PROGRAM, IN A SANDBOX (cutbox-rows.mjs): the forced cells as the released guide's own fill.sh prints them over the translation 39ba18389356f4d6… (all of the seat's roots in one cut). By AI agents, Wed Nov 11 2026. No macro, syntax, notation, axiom, sorry.
-/
import Derived.Test.YtpmndpbaigcaeaaChecked
import GoSem.Claim
import GoSem.ClaimJoined
import GoSem.ClaimMapViews
import Derived.JoinedTies
import Derived.KernelRfl
namespace Go.Proofs.Ytpmndpbaigcaeaa
/- THE CELL 'sum', in the pinned program and in every row, IS THE sha256 OF THE DUMP (.gsa) THAT YtpmndpbaigcaeaaProg.lean LOADS. Nothing in Lean hashes anything: it is a label: what it is worth is what the hold of that sum in a sandbox is worth. -/
noncomputable def Try.pinned : Pinned := { name := "ytpmndpbaigcaeaa", sum := "39ba18389356f4d6931b5ae93e8f25c0b9ded83065f10405da4c36eb0aed4f61", checked := Try.checked }
namespace Rows
def none {H : Type} : Left H := { results := [], args := [] }

/-- 'timesynclaw17.HopPasses': WHATEVER THE INPUT: true; the input reads as it did. -/
def hopPassesSpec : ChangeSpec := { name := "hopPasses", fn := fun _ => fun
  | [d1, d2] => { results := [.lit (.bool true)], args := [d1, d2] }
  | _ => none }
def hopPassesRow : OpenClaim := { program := "ytpmndpbaigcaeaa", sum := "39ba18389356f4d6931b5ae93e8f25c0b9ded83065f10405da4c36eb0aed4f61", func := "timesync/timesynclaw17.HopPasses", spec := "hopPasses", unfollowed := true, recurses := true, apart := false }
def HopPassesSaid : Prop := hopPassesRow.holds Try.pinned (OpenSpec.ofChange hopPassesSpec)

/-- ITS FALSE NEIGHBOUR: 'it returns false'. Refute it at one input. -/
def hopPassesWrong : ChangeSpec := { name := "hopPasses", fn := fun _ => fun
  | [d1, d2] => { results := [.lit (.bool false)], args := [d1, d2] }
  | _ => none }
def HopPassesWrongFalsely : Prop := hopPassesRow.holds Try.pinned (OpenSpec.ofChange hopPassesWrong)

/-- 'timesynclaw17.HopBusies': WHATEVER THE INPUT: true; the input reads as it did. -/
def hopBusiesSpec : ChangeSpec := { name := "hopBusies", fn := fun _ => fun
  | [d1, d2] => { results := [.lit (.bool true)], args := [d1, d2] }
  | _ => none }
def hopBusiesRow : OpenClaim := { program := "ytpmndpbaigcaeaa", sum := "39ba18389356f4d6931b5ae93e8f25c0b9ded83065f10405da4c36eb0aed4f61", func := "timesync/timesynclaw17.HopBusies", spec := "hopBusies", unfollowed := true, recurses := true, apart := false }
def HopBusiesSaid : Prop := hopBusiesRow.holds Try.pinned (OpenSpec.ofChange hopBusiesSpec)

/-- ITS FALSE NEIGHBOUR: 'it returns false'. Refute it at one input. -/
def hopBusiesWrong : ChangeSpec := { name := "hopBusies", fn := fun _ => fun
  | [d1, d2] => { results := [.lit (.bool false)], args := [d1, d2] }
  | _ => none }
def HopBusiesWrongFalsely : Prop := hopBusiesRow.holds Try.pinned (OpenSpec.ofChange hopBusiesWrong)

/-- 'timesynclaw17.HopBacklogs': WHATEVER THE INPUT: true; the input reads as it did. -/
def hopBacklogsSpec : ChangeSpec := { name := "hopBacklogs", fn := fun _ => fun
  | [d1, d2, d3] => { results := [.lit (.bool true)], args := [d1, d2, d3] }
  | _ => none }
def hopBacklogsRow : OpenClaim := { program := "ytpmndpbaigcaeaa", sum := "39ba18389356f4d6931b5ae93e8f25c0b9ded83065f10405da4c36eb0aed4f61", func := "timesync/timesynclaw17.HopBacklogs", spec := "hopBacklogs", unfollowed := true, recurses := true, apart := false }
def HopBacklogsSaid : Prop := hopBacklogsRow.holds Try.pinned (OpenSpec.ofChange hopBacklogsSpec)

/-- ITS FALSE NEIGHBOUR: 'it returns false'. Refute it at one input. -/
def hopBacklogsWrong : ChangeSpec := { name := "hopBacklogs", fn := fun _ => fun
  | [d1, d2, d3] => { results := [.lit (.bool false)], args := [d1, d2, d3] }
  | _ => none }
def HopBacklogsWrongFalsely : Prop := hopBacklogsRow.holds Try.pinned (OpenSpec.ofChange hopBacklogsWrong)

/-- 'timesynclaw17.HopChains': WHATEVER THE INPUT: true; the input reads as it did. -/
def hopChainsSpec : ChangeSpec := { name := "hopChains", fn := fun _ => fun
  | [d1, d2] => { results := [.lit (.bool true)], args := [d1, d2] }
  | _ => none }
def hopChainsRow : OpenClaim := { program := "ytpmndpbaigcaeaa", sum := "39ba18389356f4d6931b5ae93e8f25c0b9ded83065f10405da4c36eb0aed4f61", func := "timesync/timesynclaw17.HopChains", spec := "hopChains", unfollowed := true, recurses := true, apart := false }
def HopChainsSaid : Prop := hopChainsRow.holds Try.pinned (OpenSpec.ofChange hopChainsSpec)

/-- ITS FALSE NEIGHBOUR: 'it returns false'. Refute it at one input. -/
def hopChainsWrong : ChangeSpec := { name := "hopChains", fn := fun _ => fun
  | [d1, d2] => { results := [.lit (.bool false)], args := [d1, d2] }
  | _ => none }
def HopChainsWrongFalsely : Prop := hopChainsRow.holds Try.pinned (OpenSpec.ofChange hopChainsWrong)

/-- 'timesynclaw17.HopServes': WHATEVER THE INPUT: true; the input reads as it did. -/
def hopServesSpec : ChangeSpec := { name := "hopServes", fn := fun _ => fun
  | [d1, d2] => { results := [.lit (.bool true)], args := [d1, d2] }
  | _ => none }
def hopServesRow : OpenClaim := { program := "ytpmndpbaigcaeaa", sum := "39ba18389356f4d6931b5ae93e8f25c0b9ded83065f10405da4c36eb0aed4f61", func := "timesync/timesynclaw17.HopServes", spec := "hopServes", unfollowed := true, recurses := true, apart := false }
def HopServesSaid : Prop := hopServesRow.holds Try.pinned (OpenSpec.ofChange hopServesSpec)

/-- ITS FALSE NEIGHBOUR: 'it returns false'. Refute it at one input. -/
def hopServesWrong : ChangeSpec := { name := "hopServes", fn := fun _ => fun
  | [d1, d2] => { results := [.lit (.bool false)], args := [d1, d2] }
  | _ => none }
def HopServesWrongFalsely : Prop := hopServesRow.holds Try.pinned (OpenSpec.ofChange hopServesWrong)

/-- 'timesynclaw17.HopCounts': WHATEVER THE INPUT: true; the input reads as it did. -/
def hopCountsSpec : ChangeSpec := { name := "hopCounts", fn := fun _ => fun
  | [d1, d2, d3] => { results := [.lit (.bool true)], args := [d1, d2, d3] }
  | _ => none }
def hopCountsRow : OpenClaim := { program := "ytpmndpbaigcaeaa", sum := "39ba18389356f4d6931b5ae93e8f25c0b9ded83065f10405da4c36eb0aed4f61", func := "timesync/timesynclaw17.HopCounts", spec := "hopCounts", unfollowed := true, recurses := true, apart := false }
def HopCountsSaid : Prop := hopCountsRow.holds Try.pinned (OpenSpec.ofChange hopCountsSpec)

/-- ITS FALSE NEIGHBOUR: 'it returns false'. Refute it at one input. -/
def hopCountsWrong : ChangeSpec := { name := "hopCounts", fn := fun _ => fun
  | [d1, d2, d3] => { results := [.lit (.bool false)], args := [d1, d2, d3] }
  | _ => none }
def HopCountsWrongFalsely : Prop := hopCountsRow.holds Try.pinned (OpenSpec.ofChange hopCountsWrong)

/-- 'timesynclaw17.HopParts': WHATEVER THE INPUT: true; the input reads as it did. -/
def hopPartsSpec : ChangeSpec := { name := "hopParts", fn := fun _ => fun
  | [d1, d2, d3] => { results := [.lit (.bool true)], args := [d1, d2, d3] }
  | _ => none }
def hopPartsRow : OpenClaim := { program := "ytpmndpbaigcaeaa", sum := "39ba18389356f4d6931b5ae93e8f25c0b9ded83065f10405da4c36eb0aed4f61", func := "timesync/timesynclaw17.HopParts", spec := "hopParts", unfollowed := true, recurses := true, apart := false }
def HopPartsSaid : Prop := hopPartsRow.holds Try.pinned (OpenSpec.ofChange hopPartsSpec)

/-- ITS FALSE NEIGHBOUR: 'it returns false'. Refute it at one input. -/
def hopPartsWrong : ChangeSpec := { name := "hopParts", fn := fun _ => fun
  | [d1, d2, d3] => { results := [.lit (.bool false)], args := [d1, d2, d3] }
  | _ => none }
def HopPartsWrongFalsely : Prop := hopPartsRow.holds Try.pinned (OpenSpec.ofChange hopPartsWrong)

/- THE SECOND FORM. 'bulk': how many values and letters a reading holds, each counted each time it is reached (what is shared counts as often as it is met; a slice's spare places count too). A statement '..UptoSaid' is the law's where the arguments, and the package variables that the reading takes, are together of bulk at most 1048576: NARROWER than '..Said'. Prove '..Said' where nothing that the law and all that it calls make is longer than what came in: it says more and counts as full. Else prove '..UptoSaid'. A law counts once. -/
mutual
def uptoBulk {H : Type} : DataW H → Nat
  | .lit (.string bytes) => bytes.length + 1
  | .lit _ => 1
  | .nil => 1
  | .ptr d => uptoBulk d + 1
  | .slice elems spare => uptoBulkAll elems + uptoBulkAll spare + 1
  | .agg parts => uptoBulkAll parts + 1
  | .iface _ d => uptoBulk d + 1
  | .map entries => uptoBulkEntries entries + 1
  | .held _ => 1
def uptoBulkAll {H : Type} : List (DataW H) → Nat
  | [] => 0
  | d :: r => uptoBulk d + uptoBulkAll r
def uptoBulkEntries {H : Type} : List (Lit × DataW H) → Nat
  | [] => 0
  | x :: r => uptoBulkEntry x + uptoBulkEntries r
def uptoBulkEntry {H : Type} : Lit × DataW H → Nat
  | (.string bytes, d) => bytes.length + uptoBulk d + 1
  | (_, d) => uptoBulk d + 1
 end
def uptoSmall : (H : Type) → List (DataW H) → Bool := fun _ ds => decide (uptoBulkAll ds ≤ 1048576)
def OpenSpec.upto (s : _root_.Go.ChangeSpec) : _root_.Go.OpenSpec := { _root_.Go.OpenSpec.ofChange s with cond := some uptoSmall }

/-- 'timesynclaw17.HopPasses', WHERE WHAT IT READS IS OF BULK AT MOST 1048576: true; the input reads as it did. -/
def hopPassesUptoRow : OpenClaim := { program := "ytpmndpbaigcaeaa", sum := "39ba18389356f4d6931b5ae93e8f25c0b9ded83065f10405da4c36eb0aed4f61", func := "timesync/timesynclaw17.HopPasses", spec := "hopPasses", unfollowed := true, recurses := true, apart := false, narrowed := true }
def HopPassesUptoSaid : Prop := hopPassesUptoRow.holds Try.pinned (OpenSpec.upto hopPassesSpec)

/-- 'timesynclaw17.HopBusies', WHERE WHAT IT READS IS OF BULK AT MOST 1048576: true; the input reads as it did. -/
def hopBusiesUptoRow : OpenClaim := { program := "ytpmndpbaigcaeaa", sum := "39ba18389356f4d6931b5ae93e8f25c0b9ded83065f10405da4c36eb0aed4f61", func := "timesync/timesynclaw17.HopBusies", spec := "hopBusies", unfollowed := true, recurses := true, apart := false, narrowed := true }
def HopBusiesUptoSaid : Prop := hopBusiesUptoRow.holds Try.pinned (OpenSpec.upto hopBusiesSpec)

/-- 'timesynclaw17.HopBacklogs', WHERE WHAT IT READS IS OF BULK AT MOST 1048576: true; the input reads as it did. -/
def hopBacklogsUptoRow : OpenClaim := { program := "ytpmndpbaigcaeaa", sum := "39ba18389356f4d6931b5ae93e8f25c0b9ded83065f10405da4c36eb0aed4f61", func := "timesync/timesynclaw17.HopBacklogs", spec := "hopBacklogs", unfollowed := true, recurses := true, apart := false, narrowed := true }
def HopBacklogsUptoSaid : Prop := hopBacklogsUptoRow.holds Try.pinned (OpenSpec.upto hopBacklogsSpec)

/-- 'timesynclaw17.HopChains', WHERE WHAT IT READS IS OF BULK AT MOST 1048576: true; the input reads as it did. -/
def hopChainsUptoRow : OpenClaim := { program := "ytpmndpbaigcaeaa", sum := "39ba18389356f4d6931b5ae93e8f25c0b9ded83065f10405da4c36eb0aed4f61", func := "timesync/timesynclaw17.HopChains", spec := "hopChains", unfollowed := true, recurses := true, apart := false, narrowed := true }
def HopChainsUptoSaid : Prop := hopChainsUptoRow.holds Try.pinned (OpenSpec.upto hopChainsSpec)

/-- 'timesynclaw17.HopServes', WHERE WHAT IT READS IS OF BULK AT MOST 1048576: true; the input reads as it did. -/
def hopServesUptoRow : OpenClaim := { program := "ytpmndpbaigcaeaa", sum := "39ba18389356f4d6931b5ae93e8f25c0b9ded83065f10405da4c36eb0aed4f61", func := "timesync/timesynclaw17.HopServes", spec := "hopServes", unfollowed := true, recurses := true, apart := false, narrowed := true }
def HopServesUptoSaid : Prop := hopServesUptoRow.holds Try.pinned (OpenSpec.upto hopServesSpec)

/-- 'timesynclaw17.HopCounts', WHERE WHAT IT READS IS OF BULK AT MOST 1048576: true; the input reads as it did. -/
def hopCountsUptoRow : OpenClaim := { program := "ytpmndpbaigcaeaa", sum := "39ba18389356f4d6931b5ae93e8f25c0b9ded83065f10405da4c36eb0aed4f61", func := "timesync/timesynclaw17.HopCounts", spec := "hopCounts", unfollowed := true, recurses := true, apart := false, narrowed := true }
def HopCountsUptoSaid : Prop := hopCountsUptoRow.holds Try.pinned (OpenSpec.upto hopCountsSpec)

/-- 'timesynclaw17.HopParts', WHERE WHAT IT READS IS OF BULK AT MOST 1048576: true; the input reads as it did. -/
def hopPartsUptoRow : OpenClaim := { program := "ytpmndpbaigcaeaa", sum := "39ba18389356f4d6931b5ae93e8f25c0b9ded83065f10405da4c36eb0aed4f61", func := "timesync/timesynclaw17.HopParts", spec := "hopParts", unfollowed := true, recurses := true, apart := false, narrowed := true }
def HopPartsUptoSaid : Prop := hopPartsUptoRow.holds Try.pinned (OpenSpec.upto hopPartsSpec)

end Rows
end Go.Proofs.Ytpmndpbaigcaeaa
