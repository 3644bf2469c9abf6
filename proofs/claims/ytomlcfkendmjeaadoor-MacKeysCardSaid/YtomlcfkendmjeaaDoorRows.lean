/-
  NARROWER THAN 'FOR EVERY INPUT', by the rows' own cells (each row's printed sentence says how): MacTags: laid · MacDerives: laid · MacFolds: laid · MacMixes: laid · MacShort: laid · MacKeys: laid.
  DERIVED. THE GIVEN ROWS OF THIS SEAT. 6 by the template 'for every input the law returns true; each argument reads behind the call as it read before'; 0 by the template 'total and deterministic' (their statements: YtomlcfkendmjeaaDoorTotals.lean).
  GIVEN WITH THE SEED: the statements are not yours to turn. If you find one false, say at which input.
  Laid BY PROGRAM, IN A SANDBOX (cutbox-rows.mjs): the forced cells as the released guide's own fill.sh prints them over the translation ec890f57d3b6dc9c… (all of the seat's roots in one cut). By AI agents, Wed Nov 11 2026. No macro, syntax, notation, axiom, sorry.
-/
import Derived.Test.YtomlcfkendmjeaaDoorChecked
import GoSem.Claim
import GoSem.ClaimJoined
import GoSem.ClaimMapViews
import Derived.JoinedTies
import Derived.KernelRfl
namespace Go.Proofs.YtomlcfkendmjeaaDoor
/- THE CELL 'sum', in the pinned program and in every row, IS THE sha256 OF THE DUMP (.gsa) THAT YtomlcfkendmjeaaDoorProg.lean LOADS. Nothing in Lean hashes anything: it is a label: what it is worth is what the hold of that sum in a sandbox is worth. -/
noncomputable def Tryd.pinned : Pinned := { name := "ytomlcfkendmjeaadoor", sum := "ec890f57d3b6dc9c4d810965ad849ecb2a5b057a3c3f8db49fe0304a989a5474", checked := Tryd.checked }
namespace Rows
def none {H : Type} : Left H := { results := [], args := [] }

/- WHAT THE LISTED PACKAGE-LEVEL VARIABLES READ AS WHEN THE CALL BEGINS. Each datum BY PROGRAM (the guide's laid-datum.mjs) off the statement by which the dump's own 'gosem.cut.vars' lays the variable. In a bare row this is a premise. The card (YtomlcfkendmjeaaDoorCards.lean) ties it to the program's text. -/
def laid_timesync_prng_rounds {H : Type} : DataW H := .agg [.agg [.lit (.int .u64 30), .lit (.int .u64 13787848793156543929)], .agg [.lit (.int .u64 27), .lit (.int .u64 10723151780598845931)], .agg [.lit (.int .u64 31), .lit (.int .u64 1)]]

/-- 'timesynclaw43.MacTags': WHATEVER THE INPUT: true; the input reads as it did. -/
def macTagsSpec : ChangeSpec := { name := "macTags", fn := fun _ => fun
  | [d1, d2, d3] => { results := [.lit (.bool true)], args := [d1, d2, d3] }
  | _ => none }
def macTagsRow : OpenClaim := { program := "ytomlcfkendmjeaadoor", sum := "ec890f57d3b6dc9c4d810965ad849ecb2a5b057a3c3f8db49fe0304a989a5474", func := "timesync/timesynclaw43.MacTags", spec := "macTags", unfollowed := true, recurses := true, named := ["timesync/prng.rounds"], apart := false, laid := [("timesync/prng.rounds", laid_timesync_prng_rounds)] }
def MacTagsSaid : Prop := macTagsRow.holds Tryd.pinned (OpenSpec.ofChange macTagsSpec)

/-- ITS FALSE NEIGHBOUR: 'it returns false'. Refute it at one input. -/
def macTagsWrong : ChangeSpec := { name := "macTags", fn := fun _ => fun
  | [d1, d2, d3] => { results := [.lit (.bool false)], args := [d1, d2, d3] }
  | _ => none }
def MacTagsWrongFalsely : Prop := macTagsRow.holds Tryd.pinned (OpenSpec.ofChange macTagsWrong)

/-- 'timesynclaw43.MacDerives': WHATEVER THE INPUT: true; the input reads as it did. -/
def macDerivesSpec : ChangeSpec := { name := "macDerives", fn := fun _ => fun
  | [d1, d2] => { results := [.lit (.bool true)], args := [d1, d2] }
  | _ => none }
def macDerivesRow : OpenClaim := { program := "ytomlcfkendmjeaadoor", sum := "ec890f57d3b6dc9c4d810965ad849ecb2a5b057a3c3f8db49fe0304a989a5474", func := "timesync/timesynclaw43.MacDerives", spec := "macDerives", unfollowed := true, recurses := true, named := ["timesync/prng.rounds"], apart := false, laid := [("timesync/prng.rounds", laid_timesync_prng_rounds)] }
def MacDerivesSaid : Prop := macDerivesRow.holds Tryd.pinned (OpenSpec.ofChange macDerivesSpec)

/-- ITS FALSE NEIGHBOUR: 'it returns false'. Refute it at one input. -/
def macDerivesWrong : ChangeSpec := { name := "macDerives", fn := fun _ => fun
  | [d1, d2] => { results := [.lit (.bool false)], args := [d1, d2] }
  | _ => none }
def MacDerivesWrongFalsely : Prop := macDerivesRow.holds Tryd.pinned (OpenSpec.ofChange macDerivesWrong)

/-- 'timesynclaw43.MacFolds': WHATEVER THE INPUT: true; the input reads as it did. -/
def macFoldsSpec : ChangeSpec := { name := "macFolds", fn := fun _ => fun
  | [d1, d2] => { results := [.lit (.bool true)], args := [d1, d2] }
  | _ => none }
def macFoldsRow : OpenClaim := { program := "ytomlcfkendmjeaadoor", sum := "ec890f57d3b6dc9c4d810965ad849ecb2a5b057a3c3f8db49fe0304a989a5474", func := "timesync/timesynclaw43.MacFolds", spec := "macFolds", unfollowed := true, recurses := true, named := ["timesync/prng.rounds"], apart := false, laid := [("timesync/prng.rounds", laid_timesync_prng_rounds)] }
def MacFoldsSaid : Prop := macFoldsRow.holds Tryd.pinned (OpenSpec.ofChange macFoldsSpec)

/-- ITS FALSE NEIGHBOUR: 'it returns false'. Refute it at one input. -/
def macFoldsWrong : ChangeSpec := { name := "macFolds", fn := fun _ => fun
  | [d1, d2] => { results := [.lit (.bool false)], args := [d1, d2] }
  | _ => none }
def MacFoldsWrongFalsely : Prop := macFoldsRow.holds Tryd.pinned (OpenSpec.ofChange macFoldsWrong)

/-- 'timesynclaw43.MacMixes': WHATEVER THE INPUT: true; the input reads as it did. -/
def macMixesSpec : ChangeSpec := { name := "macMixes", fn := fun _ => fun
  | [d1, d2] => { results := [.lit (.bool true)], args := [d1, d2] }
  | _ => none }
def macMixesRow : OpenClaim := { program := "ytomlcfkendmjeaadoor", sum := "ec890f57d3b6dc9c4d810965ad849ecb2a5b057a3c3f8db49fe0304a989a5474", func := "timesync/timesynclaw43.MacMixes", spec := "macMixes", unfollowed := true, recurses := true, named := ["timesync/prng.rounds"], apart := false, laid := [("timesync/prng.rounds", laid_timesync_prng_rounds)] }
def MacMixesSaid : Prop := macMixesRow.holds Tryd.pinned (OpenSpec.ofChange macMixesSpec)

/-- ITS FALSE NEIGHBOUR: 'it returns false'. Refute it at one input. -/
def macMixesWrong : ChangeSpec := { name := "macMixes", fn := fun _ => fun
  | [d1, d2] => { results := [.lit (.bool false)], args := [d1, d2] }
  | _ => none }
def MacMixesWrongFalsely : Prop := macMixesRow.holds Tryd.pinned (OpenSpec.ofChange macMixesWrong)

/-- 'timesynclaw43.MacShort': WHATEVER THE INPUT: true; the input reads as it did. -/
def macShortSpec : ChangeSpec := { name := "macShort", fn := fun _ => fun
  | [d1, d2, d3] => { results := [.lit (.bool true)], args := [d1, d2, d3] }
  | _ => none }
def macShortRow : OpenClaim := { program := "ytomlcfkendmjeaadoor", sum := "ec890f57d3b6dc9c4d810965ad849ecb2a5b057a3c3f8db49fe0304a989a5474", func := "timesync/timesynclaw43.MacShort", spec := "macShort", unfollowed := true, recurses := true, named := ["timesync/prng.rounds"], apart := false, laid := [("timesync/prng.rounds", laid_timesync_prng_rounds)] }
def MacShortSaid : Prop := macShortRow.holds Tryd.pinned (OpenSpec.ofChange macShortSpec)

/-- ITS FALSE NEIGHBOUR: 'it returns false'. Refute it at one input. -/
def macShortWrong : ChangeSpec := { name := "macShort", fn := fun _ => fun
  | [d1, d2, d3] => { results := [.lit (.bool false)], args := [d1, d2, d3] }
  | _ => none }
def MacShortWrongFalsely : Prop := macShortRow.holds Tryd.pinned (OpenSpec.ofChange macShortWrong)

/-- 'timesynclaw43.MacKeys': WHATEVER THE INPUT: true; the input reads as it did. -/
def macKeysSpec : ChangeSpec := { name := "macKeys", fn := fun _ => fun
  | [d1, d2, d3] => { results := [.lit (.bool true)], args := [d1, d2, d3] }
  | _ => none }
def macKeysRow : OpenClaim := { program := "ytomlcfkendmjeaadoor", sum := "ec890f57d3b6dc9c4d810965ad849ecb2a5b057a3c3f8db49fe0304a989a5474", func := "timesync/timesynclaw43.MacKeys", spec := "macKeys", unfollowed := true, recurses := true, named := ["timesync/prng.rounds"], apart := false, laid := [("timesync/prng.rounds", laid_timesync_prng_rounds)] }
def MacKeysSaid : Prop := macKeysRow.holds Tryd.pinned (OpenSpec.ofChange macKeysSpec)

/-- ITS FALSE NEIGHBOUR: 'it returns false'. Refute it at one input. -/
def macKeysWrong : ChangeSpec := { name := "macKeys", fn := fun _ => fun
  | [d1, d2, d3] => { results := [.lit (.bool false)], args := [d1, d2, d3] }
  | _ => none }
def MacKeysWrongFalsely : Prop := macKeysRow.holds Tryd.pinned (OpenSpec.ofChange macKeysWrong)

/- THE SECOND FORM. 'bulk': how many values and letters a reading holds, each counted each time it is reached (what is shared counts as often as it is met; a slice's spare places count too). A statement '..UptoSaid' is the law's where the arguments, and the package variables that the reading takes, are together of bulk at most 1048576: NARROWER than '..Said'. Prove '..Said' where nothing that the law and all that it calls make is longer than what came in: it says more and counts as full. Else prove '..UptoSaid'. A law counts once. -/
mutual
def uptoBulk {H : Type} : DataW H → Nat
  | .lit (.string bytes) => bytes.length + 1
  | .lit _ => 1
  | .nil => 1
  | .ptr d => uptoBulk d + 1
  | .slice elems spare => uptoBulkAll elems + uptoBulkAll spare + 1
  | .agg parts => uptoBulkAll parts + 1
  | .iface _ d => uptoBulk d + 1
  | .map entries => uptoBulkEntries entries + 1
  | .held _ => 1
def uptoBulkAll {H : Type} : List (DataW H) → Nat
  | [] => 0
  | d :: r => uptoBulk d + uptoBulkAll r
def uptoBulkEntries {H : Type} : List (Lit × DataW H) → Nat
  | [] => 0
  | x :: r => uptoBulkEntry x + uptoBulkEntries r
def uptoBulkEntry {H : Type} : Lit × DataW H → Nat
  | (.string bytes, d) => bytes.length + uptoBulk d + 1
  | (_, d) => uptoBulk d + 1
 end
def uptoSmall : (H : Type) → List (DataW H) → Bool := fun _ ds => decide (uptoBulkAll ds ≤ 1048576)
def OpenSpec.upto (s : _root_.Go.ChangeSpec) : _root_.Go.OpenSpec := { _root_.Go.OpenSpec.ofChange s with cond := some uptoSmall }

/-- 'timesynclaw43.MacTags', WHERE WHAT IT READS IS OF BULK AT MOST 1048576: true; the input reads as it did. -/
def macTagsUptoRow : OpenClaim := { program := "ytomlcfkendmjeaadoor", sum := "ec890f57d3b6dc9c4d810965ad849ecb2a5b057a3c3f8db49fe0304a989a5474", func := "timesync/timesynclaw43.MacTags", spec := "macTags", unfollowed := true, recurses := true, named := ["timesync/prng.rounds"], apart := false, laid := [("timesync/prng.rounds", laid_timesync_prng_rounds)], narrowed := true }
def MacTagsUptoSaid : Prop := macTagsUptoRow.holds Tryd.pinned (OpenSpec.upto macTagsSpec)

/-- 'timesynclaw43.MacDerives', WHERE WHAT IT READS IS OF BULK AT MOST 1048576: true; the input reads as it did. -/
def macDerivesUptoRow : OpenClaim := { program := "ytomlcfkendmjeaadoor", sum := "ec890f57d3b6dc9c4d810965ad849ecb2a5b057a3c3f8db49fe0304a989a5474", func := "timesync/timesynclaw43.MacDerives", spec := "macDerives", unfollowed := true, recurses := true, named := ["timesync/prng.rounds"], apart := false, laid := [("timesync/prng.rounds", laid_timesync_prng_rounds)], narrowed := true }
def MacDerivesUptoSaid : Prop := macDerivesUptoRow.holds Tryd.pinned (OpenSpec.upto macDerivesSpec)

/-- 'timesynclaw43.MacFolds', WHERE WHAT IT READS IS OF BULK AT MOST 1048576: true; the input reads as it did. -/
def macFoldsUptoRow : OpenClaim := { program := "ytomlcfkendmjeaadoor", sum := "ec890f57d3b6dc9c4d810965ad849ecb2a5b057a3c3f8db49fe0304a989a5474", func := "timesync/timesynclaw43.MacFolds", spec := "macFolds", unfollowed := true, recurses := true, named := ["timesync/prng.rounds"], apart := false, laid := [("timesync/prng.rounds", laid_timesync_prng_rounds)], narrowed := true }
def MacFoldsUptoSaid : Prop := macFoldsUptoRow.holds Tryd.pinned (OpenSpec.upto macFoldsSpec)

/-- 'timesynclaw43.MacMixes', WHERE WHAT IT READS IS OF BULK AT MOST 1048576: true; the input reads as it did. -/
def macMixesUptoRow : OpenClaim := { program := "ytomlcfkendmjeaadoor", sum := "ec890f57d3b6dc9c4d810965ad849ecb2a5b057a3c3f8db49fe0304a989a5474", func := "timesync/timesynclaw43.MacMixes", spec := "macMixes", unfollowed := true, recurses := true, named := ["timesync/prng.rounds"], apart := false, laid := [("timesync/prng.rounds", laid_timesync_prng_rounds)], narrowed := true }
def MacMixesUptoSaid : Prop := macMixesUptoRow.holds Tryd.pinned (OpenSpec.upto macMixesSpec)

/-- 'timesynclaw43.MacShort', WHERE WHAT IT READS IS OF BULK AT MOST 1048576: true; the input reads as it did. -/
def macShortUptoRow : OpenClaim := { program := "ytomlcfkendmjeaadoor", sum := "ec890f57d3b6dc9c4d810965ad849ecb2a5b057a3c3f8db49fe0304a989a5474", func := "timesync/timesynclaw43.MacShort", spec := "macShort", unfollowed := true, recurses := true, named := ["timesync/prng.rounds"], apart := false, laid := [("timesync/prng.rounds", laid_timesync_prng_rounds)], narrowed := true }
def MacShortUptoSaid : Prop := macShortUptoRow.holds Tryd.pinned (OpenSpec.upto macShortSpec)

/-- 'timesynclaw43.MacKeys', WHERE WHAT IT READS IS OF BULK AT MOST 1048576: true; the input reads as it did. -/
def macKeysUptoRow : OpenClaim := { program := "ytomlcfkendmjeaadoor", sum := "ec890f57d3b6dc9c4d810965ad849ecb2a5b057a3c3f8db49fe0304a989a5474", func := "timesync/timesynclaw43.MacKeys", spec := "macKeys", unfollowed := true, recurses := true, named := ["timesync/prng.rounds"], apart := false, laid := [("timesync/prng.rounds", laid_timesync_prng_rounds)], narrowed := true }
def MacKeysUptoSaid : Prop := macKeysUptoRow.holds Tryd.pinned (OpenSpec.upto macKeysSpec)

end Rows
end Go.Proofs.YtomlcfkendmjeaaDoor
