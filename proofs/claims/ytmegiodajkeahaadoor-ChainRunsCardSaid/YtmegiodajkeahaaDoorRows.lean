/-
  NARROWER THAN 'FOR EVERY INPUT', by the rows' own cells (each row's printed sentence says how): ChainMakes: laid · ChainRuns: laid · ChainDerives: laid · ChainIntervals: laid · ChainComplete: laid · ChainLosses: laid · ChainSound: laid · ChainNobody: laid · TopBroadcast: laid.
  DERIVED. THE GIVEN ROWS OF THIS SEAT. 9 by the template 'for every input the law returns true; each argument reads behind the call as it read before'; 0 by the template 'total and deterministic' (their statements: YtmegiodajkeahaaDoorTotals.lean).
  GIVEN WITH THE SEED: the statements are not yours to turn. If you find one false, say at which input.
  Laid BY PROGRAM, IN A SANDBOX (cutbox-rows.mjs): the forced cells as the released guide's own fill.sh prints them over the translation dba7e3601704afa2… (all of the seat's roots in one cut). By AI agents, Wed Nov 11 2026. No macro, syntax, notation, axiom, sorry.
-/
import Derived.Test.YtmegiodajkeahaaDoorChecked
import GoSem.Claim
import GoSem.ClaimJoined
import GoSem.ClaimMapViews
import Derived.JoinedTies
import Derived.KernelRfl
namespace Go.Proofs.YtmegiodajkeahaaDoor
/- THE CELL 'sum', in the pinned program and in every row, IS THE sha256 OF THE DUMP (.gsa) THAT YtmegiodajkeahaaDoorProg.lean LOADS. Nothing in Lean hashes anything: it is a label: what it is worth is what the hold of that sum in a sandbox is worth. -/
noncomputable def Tryd.pinned : Pinned := { name := "ytmegiodajkeahaadoor", sum := "dba7e3601704afa220d69ee10c0ed8a1093707b3e2eec754680d9ef5462c648a", checked := Tryd.checked }
namespace Rows
def none {H : Type} : Left H := { results := [], args := [] }

/- WHAT THE LISTED PACKAGE-LEVEL VARIABLES READ AS WHEN THE CALL BEGINS. Each datum BY PROGRAM (the guide's laid-datum.mjs) off the statement by which the dump's own 'gosem.cut.vars' lays the variable. In a bare row this is a premise. The card (YtmegiodajkeahaaDoorCards.lean) ties it to the program's text. -/
def laid_timesync_prng_rounds {H : Type} : DataW H := .agg [.agg [.lit (.int .u64 30), .lit (.int .u64 13787848793156543929)], .agg [.lit (.int .u64 27), .lit (.int .u64 10723151780598845931)], .agg [.lit (.int .u64 31), .lit (.int .u64 1)]]
def laid_timesync_timesynclaw46_conf {H : Type} : DataW H := .agg [.lit (.int .i64 1000), .lit (.int .i64 100), .lit (.int .i64 2), .lit (.int .i64 10)]

/-- 'timesynclaw46.ChainMakes': WHATEVER THE INPUT: true; the input reads as it did. -/
def chainMakesSpec : ChangeSpec := { name := "chainMakes", fn := fun _ => fun
  | [d1, d2, d3] => { results := [.lit (.bool true)], args := [d1, d2, d3] }
  | _ => none }
def chainMakesRow : OpenClaim := { program := "ytmegiodajkeahaadoor", sum := "dba7e3601704afa220d69ee10c0ed8a1093707b3e2eec754680d9ef5462c648a", func := "timesync/timesynclaw46.ChainMakes", spec := "chainMakes", unfollowed := true, recurses := true, named := ["timesync/prng.rounds", "timesync/timesynclaw46.conf"], apart := false, laid := [("timesync/prng.rounds", laid_timesync_prng_rounds), ("timesync/timesynclaw46.conf", laid_timesync_timesynclaw46_conf)] }
def ChainMakesSaid : Prop := chainMakesRow.holds Tryd.pinned (OpenSpec.ofChange chainMakesSpec)

/-- ITS FALSE NEIGHBOUR: 'it returns false'. Refute it at one input. -/
def chainMakesWrong : ChangeSpec := { name := "chainMakes", fn := fun _ => fun
  | [d1, d2, d3] => { results := [.lit (.bool false)], args := [d1, d2, d3] }
  | _ => none }
def ChainMakesWrongFalsely : Prop := chainMakesRow.holds Tryd.pinned (OpenSpec.ofChange chainMakesWrong)

/-- 'timesynclaw46.ChainRuns': WHATEVER THE INPUT: true; the input reads as it did. -/
def chainRunsSpec : ChangeSpec := { name := "chainRuns", fn := fun _ => fun
  | [d1, d2, d3] => { results := [.lit (.bool true)], args := [d1, d2, d3] }
  | _ => none }
def chainRunsRow : OpenClaim := { program := "ytmegiodajkeahaadoor", sum := "dba7e3601704afa220d69ee10c0ed8a1093707b3e2eec754680d9ef5462c648a", func := "timesync/timesynclaw46.ChainRuns", spec := "chainRuns", unfollowed := true, recurses := true, named := ["timesync/timesynclaw46.conf", "timesync/prng.rounds"], apart := false, laid := [("timesync/prng.rounds", laid_timesync_prng_rounds), ("timesync/timesynclaw46.conf", laid_timesync_timesynclaw46_conf)] }
def ChainRunsSaid : Prop := chainRunsRow.holds Tryd.pinned (OpenSpec.ofChange chainRunsSpec)

/-- ITS FALSE NEIGHBOUR: 'it returns false'. Refute it at one input. -/
def chainRunsWrong : ChangeSpec := { name := "chainRuns", fn := fun _ => fun
  | [d1, d2, d3] => { results := [.lit (.bool false)], args := [d1, d2, d3] }
  | _ => none }
def ChainRunsWrongFalsely : Prop := chainRunsRow.holds Tryd.pinned (OpenSpec.ofChange chainRunsWrong)

/-- 'timesynclaw46.ChainDerives': WHATEVER THE INPUT: true; the input reads as it did. -/
def chainDerivesSpec : ChangeSpec := { name := "chainDerives", fn := fun _ => fun
  | [d1, d2] => { results := [.lit (.bool true)], args := [d1, d2] }
  | _ => none }
def chainDerivesRow : OpenClaim := { program := "ytmegiodajkeahaadoor", sum := "dba7e3601704afa220d69ee10c0ed8a1093707b3e2eec754680d9ef5462c648a", func := "timesync/timesynclaw46.ChainDerives", spec := "chainDerives", unfollowed := true, recurses := true, named := ["timesync/prng.rounds", "timesync/timesynclaw46.conf"], apart := false, laid := [("timesync/prng.rounds", laid_timesync_prng_rounds), ("timesync/timesynclaw46.conf", laid_timesync_timesynclaw46_conf)] }
def ChainDerivesSaid : Prop := chainDerivesRow.holds Tryd.pinned (OpenSpec.ofChange chainDerivesSpec)

/-- ITS FALSE NEIGHBOUR: 'it returns false'. Refute it at one input. -/
def chainDerivesWrong : ChangeSpec := { name := "chainDerives", fn := fun _ => fun
  | [d1, d2] => { results := [.lit (.bool false)], args := [d1, d2] }
  | _ => none }
def ChainDerivesWrongFalsely : Prop := chainDerivesRow.holds Tryd.pinned (OpenSpec.ofChange chainDerivesWrong)

/-- 'timesynclaw46.ChainIntervals': WHATEVER THE INPUT: true; the input reads as it did. -/
def chainIntervalsSpec : ChangeSpec := { name := "chainIntervals", fn := fun _ => fun
  | [d1, d2] => { results := [.lit (.bool true)], args := [d1, d2] }
  | _ => none }
def chainIntervalsRow : OpenClaim := { program := "ytmegiodajkeahaadoor", sum := "dba7e3601704afa220d69ee10c0ed8a1093707b3e2eec754680d9ef5462c648a", func := "timesync/timesynclaw46.ChainIntervals", spec := "chainIntervals", unfollowed := true, recurses := true, named := ["timesync/timesynclaw46.conf", "timesync/prng.rounds"], apart := false, laid := [("timesync/prng.rounds", laid_timesync_prng_rounds), ("timesync/timesynclaw46.conf", laid_timesync_timesynclaw46_conf)] }
def ChainIntervalsSaid : Prop := chainIntervalsRow.holds Tryd.pinned (OpenSpec.ofChange chainIntervalsSpec)

/-- ITS FALSE NEIGHBOUR: 'it returns false'. Refute it at one input. -/
def chainIntervalsWrong : ChangeSpec := { name := "chainIntervals", fn := fun _ => fun
  | [d1, d2] => { results := [.lit (.bool false)], args := [d1, d2] }
  | _ => none }
def ChainIntervalsWrongFalsely : Prop := chainIntervalsRow.holds Tryd.pinned (OpenSpec.ofChange chainIntervalsWrong)

/-- 'timesynclaw46.ChainComplete': WHATEVER THE INPUT: true; the input reads as it did. -/
def chainCompleteSpec : ChangeSpec := { name := "chainComplete", fn := fun _ => fun
  | [d1, d2, d3] => { results := [.lit (.bool true)], args := [d1, d2, d3] }
  | _ => none }
def chainCompleteRow : OpenClaim := { program := "ytmegiodajkeahaadoor", sum := "dba7e3601704afa220d69ee10c0ed8a1093707b3e2eec754680d9ef5462c648a", func := "timesync/timesynclaw46.ChainComplete", spec := "chainComplete", unfollowed := true, recurses := true, named := ["timesync/timesynclaw46.conf", "timesync/prng.rounds"], apart := false, laid := [("timesync/prng.rounds", laid_timesync_prng_rounds), ("timesync/timesynclaw46.conf", laid_timesync_timesynclaw46_conf)] }
def ChainCompleteSaid : Prop := chainCompleteRow.holds Tryd.pinned (OpenSpec.ofChange chainCompleteSpec)

/-- ITS FALSE NEIGHBOUR: 'it returns false'. Refute it at one input. -/
def chainCompleteWrong : ChangeSpec := { name := "chainComplete", fn := fun _ => fun
  | [d1, d2, d3] => { results := [.lit (.bool false)], args := [d1, d2, d3] }
  | _ => none }
def ChainCompleteWrongFalsely : Prop := chainCompleteRow.holds Tryd.pinned (OpenSpec.ofChange chainCompleteWrong)

/-- 'timesynclaw46.ChainLosses': WHATEVER THE INPUT: true; the input reads as it did. -/
def chainLossesSpec : ChangeSpec := { name := "chainLosses", fn := fun _ => fun
  | [d1, d2, d3] => { results := [.lit (.bool true)], args := [d1, d2, d3] }
  | _ => none }
def chainLossesRow : OpenClaim := { program := "ytmegiodajkeahaadoor", sum := "dba7e3601704afa220d69ee10c0ed8a1093707b3e2eec754680d9ef5462c648a", func := "timesync/timesynclaw46.ChainLosses", spec := "chainLosses", unfollowed := true, recurses := true, named := ["timesync/timesynclaw46.conf", "timesync/prng.rounds"], apart := false, laid := [("timesync/prng.rounds", laid_timesync_prng_rounds), ("timesync/timesynclaw46.conf", laid_timesync_timesynclaw46_conf)] }
def ChainLossesSaid : Prop := chainLossesRow.holds Tryd.pinned (OpenSpec.ofChange chainLossesSpec)

/-- ITS FALSE NEIGHBOUR: 'it returns false'. Refute it at one input. -/
def chainLossesWrong : ChangeSpec := { name := "chainLosses", fn := fun _ => fun
  | [d1, d2, d3] => { results := [.lit (.bool false)], args := [d1, d2, d3] }
  | _ => none }
def ChainLossesWrongFalsely : Prop := chainLossesRow.holds Tryd.pinned (OpenSpec.ofChange chainLossesWrong)

/-- 'timesynclaw46.ChainSound': WHATEVER THE INPUT: true; the input reads as it did. -/
def chainSoundSpec : ChangeSpec := { name := "chainSound", fn := fun _ => fun
  | [d1, d2, d3] => { results := [.lit (.bool true)], args := [d1, d2, d3] }
  | _ => none }
def chainSoundRow : OpenClaim := { program := "ytmegiodajkeahaadoor", sum := "dba7e3601704afa220d69ee10c0ed8a1093707b3e2eec754680d9ef5462c648a", func := "timesync/timesynclaw46.ChainSound", spec := "chainSound", unfollowed := true, recurses := true, named := ["timesync/timesynclaw46.conf", "timesync/prng.rounds"], apart := false, laid := [("timesync/prng.rounds", laid_timesync_prng_rounds), ("timesync/timesynclaw46.conf", laid_timesync_timesynclaw46_conf)] }
def ChainSoundSaid : Prop := chainSoundRow.holds Tryd.pinned (OpenSpec.ofChange chainSoundSpec)

/-- ITS FALSE NEIGHBOUR: 'it returns false'. Refute it at one input. -/
def chainSoundWrong : ChangeSpec := { name := "chainSound", fn := fun _ => fun
  | [d1, d2, d3] => { results := [.lit (.bool false)], args := [d1, d2, d3] }
  | _ => none }
def ChainSoundWrongFalsely : Prop := chainSoundRow.holds Tryd.pinned (OpenSpec.ofChange chainSoundWrong)

/-- 'timesynclaw46.ChainNobody': WHATEVER THE INPUT: true; the input reads as it did. -/
def chainNobodySpec : ChangeSpec := { name := "chainNobody", fn := fun _ => fun
  | [d1, d2, d3] => { results := [.lit (.bool true)], args := [d1, d2, d3] }
  | _ => none }
def chainNobodyRow : OpenClaim := { program := "ytmegiodajkeahaadoor", sum := "dba7e3601704afa220d69ee10c0ed8a1093707b3e2eec754680d9ef5462c648a", func := "timesync/timesynclaw46.ChainNobody", spec := "chainNobody", unfollowed := true, recurses := true, named := ["timesync/timesynclaw46.conf", "timesync/prng.rounds"], apart := false, laid := [("timesync/prng.rounds", laid_timesync_prng_rounds), ("timesync/timesynclaw46.conf", laid_timesync_timesynclaw46_conf)] }
def ChainNobodySaid : Prop := chainNobodyRow.holds Tryd.pinned (OpenSpec.ofChange chainNobodySpec)

/-- ITS FALSE NEIGHBOUR: 'it returns false'. Refute it at one input. -/
def chainNobodyWrong : ChangeSpec := { name := "chainNobody", fn := fun _ => fun
  | [d1, d2, d3] => { results := [.lit (.bool false)], args := [d1, d2, d3] }
  | _ => none }
def ChainNobodyWrongFalsely : Prop := chainNobodyRow.holds Tryd.pinned (OpenSpec.ofChange chainNobodyWrong)

/-- 'timesynctop.TopBroadcast': WHATEVER THE INPUT: true; the input reads as it did. -/
def topBroadcastSpec : ChangeSpec := { name := "topBroadcast", fn := fun _ => fun
  | [d1, d2, d3] => { results := [.lit (.bool true)], args := [d1, d2, d3] }
  | _ => none }
def topBroadcastRow : OpenClaim := { program := "ytmegiodajkeahaadoor", sum := "dba7e3601704afa220d69ee10c0ed8a1093707b3e2eec754680d9ef5462c648a", func := "timesync/timesynctop.TopBroadcast", spec := "topBroadcast", unfollowed := true, recurses := true, named := ["timesync/prng.rounds"], apart := false, laid := [("timesync/prng.rounds", laid_timesync_prng_rounds)] }
def TopBroadcastSaid : Prop := topBroadcastRow.holds Tryd.pinned (OpenSpec.ofChange topBroadcastSpec)

/-- ITS FALSE NEIGHBOUR: 'it returns false'. Refute it at one input. -/
def topBroadcastWrong : ChangeSpec := { name := "topBroadcast", fn := fun _ => fun
  | [d1, d2, d3] => { results := [.lit (.bool false)], args := [d1, d2, d3] }
  | _ => none }
def TopBroadcastWrongFalsely : Prop := topBroadcastRow.holds Tryd.pinned (OpenSpec.ofChange topBroadcastWrong)

/- THE SECOND FORM. 'bulk': how many values and letters a reading holds, each counted each time it is reached (what is shared counts as often as it is met; a slice's spare places count too). A statement '..UptoSaid' is the law's where the arguments, and the package variables that the reading takes, are together of bulk at most 1048576: NARROWER than '..Said'. Prove '..Said' where nothing that the law and all that it calls make is longer than what came in: it says more and counts as full. Else prove '..UptoSaid'. A law counts once. -/
mutual
def uptoBulk {H : Type} : DataW H → Nat
  | .lit (.string bytes) => bytes.length + 1
  | .lit _ => 1
  | .nil => 1
  | .ptr d => uptoBulk d + 1
  | .slice elems spare => uptoBulkAll elems + uptoBulkAll spare + 1
  | .agg parts => uptoBulkAll parts + 1
  | .iface _ d => uptoBulk d + 1
  | .map entries => uptoBulkEntries entries + 1
  | .held _ => 1
def uptoBulkAll {H : Type} : List (DataW H) → Nat
  | [] => 0
  | d :: r => uptoBulk d + uptoBulkAll r
def uptoBulkEntries {H : Type} : List (Lit × DataW H) → Nat
  | [] => 0
  | x :: r => uptoBulkEntry x + uptoBulkEntries r
def uptoBulkEntry {H : Type} : Lit × DataW H → Nat
  | (.string bytes, d) => bytes.length + uptoBulk d + 1
  | (_, d) => uptoBulk d + 1
 end
def uptoSmall : (H : Type) → List (DataW H) → Bool := fun _ ds => decide (uptoBulkAll ds ≤ 1048576)
def OpenSpec.upto (s : _root_.Go.ChangeSpec) : _root_.Go.OpenSpec := { _root_.Go.OpenSpec.ofChange s with cond := some uptoSmall }

/-- 'timesynclaw46.ChainMakes', WHERE WHAT IT READS IS OF BULK AT MOST 1048576: true; the input reads as it did. -/
def chainMakesUptoRow : OpenClaim := { program := "ytmegiodajkeahaadoor", sum := "dba7e3601704afa220d69ee10c0ed8a1093707b3e2eec754680d9ef5462c648a", func := "timesync/timesynclaw46.ChainMakes", spec := "chainMakes", unfollowed := true, recurses := true, named := ["timesync/prng.rounds", "timesync/timesynclaw46.conf"], apart := false, laid := [("timesync/prng.rounds", laid_timesync_prng_rounds), ("timesync/timesynclaw46.conf", laid_timesync_timesynclaw46_conf)], narrowed := true }
def ChainMakesUptoSaid : Prop := chainMakesUptoRow.holds Tryd.pinned (OpenSpec.upto chainMakesSpec)

/-- 'timesynclaw46.ChainRuns', WHERE WHAT IT READS IS OF BULK AT MOST 1048576: true; the input reads as it did. -/
def chainRunsUptoRow : OpenClaim := { program := "ytmegiodajkeahaadoor", sum := "dba7e3601704afa220d69ee10c0ed8a1093707b3e2eec754680d9ef5462c648a", func := "timesync/timesynclaw46.ChainRuns", spec := "chainRuns", unfollowed := true, recurses := true, named := ["timesync/timesynclaw46.conf", "timesync/prng.rounds"], apart := false, laid := [("timesync/prng.rounds", laid_timesync_prng_rounds), ("timesync/timesynclaw46.conf", laid_timesync_timesynclaw46_conf)], narrowed := true }
def ChainRunsUptoSaid : Prop := chainRunsUptoRow.holds Tryd.pinned (OpenSpec.upto chainRunsSpec)

/-- 'timesynclaw46.ChainDerives', WHERE WHAT IT READS IS OF BULK AT MOST 1048576: true; the input reads as it did. -/
def chainDerivesUptoRow : OpenClaim := { program := "ytmegiodajkeahaadoor", sum := "dba7e3601704afa220d69ee10c0ed8a1093707b3e2eec754680d9ef5462c648a", func := "timesync/timesynclaw46.ChainDerives", spec := "chainDerives", unfollowed := true, recurses := true, named := ["timesync/prng.rounds", "timesync/timesynclaw46.conf"], apart := false, laid := [("timesync/prng.rounds", laid_timesync_prng_rounds), ("timesync/timesynclaw46.conf", laid_timesync_timesynclaw46_conf)], narrowed := true }
def ChainDerivesUptoSaid : Prop := chainDerivesUptoRow.holds Tryd.pinned (OpenSpec.upto chainDerivesSpec)

/-- 'timesynclaw46.ChainIntervals', WHERE WHAT IT READS IS OF BULK AT MOST 1048576: true; the input reads as it did. -/
def chainIntervalsUptoRow : OpenClaim := { program := "ytmegiodajkeahaadoor", sum := "dba7e3601704afa220d69ee10c0ed8a1093707b3e2eec754680d9ef5462c648a", func := "timesync/timesynclaw46.ChainIntervals", spec := "chainIntervals", unfollowed := true, recurses := true, named := ["timesync/timesynclaw46.conf", "timesync/prng.rounds"], apart := false, laid := [("timesync/prng.rounds", laid_timesync_prng_rounds), ("timesync/timesynclaw46.conf", laid_timesync_timesynclaw46_conf)], narrowed := true }
def ChainIntervalsUptoSaid : Prop := chainIntervalsUptoRow.holds Tryd.pinned (OpenSpec.upto chainIntervalsSpec)

/-- 'timesynclaw46.ChainComplete', WHERE WHAT IT READS IS OF BULK AT MOST 1048576: true; the input reads as it did. -/
def chainCompleteUptoRow : OpenClaim := { program := "ytmegiodajkeahaadoor", sum := "dba7e3601704afa220d69ee10c0ed8a1093707b3e2eec754680d9ef5462c648a", func := "timesync/timesynclaw46.ChainComplete", spec := "chainComplete", unfollowed := true, recurses := true, named := ["timesync/timesynclaw46.conf", "timesync/prng.rounds"], apart := false, laid := [("timesync/prng.rounds", laid_timesync_prng_rounds), ("timesync/timesynclaw46.conf", laid_timesync_timesynclaw46_conf)], narrowed := true }
def ChainCompleteUptoSaid : Prop := chainCompleteUptoRow.holds Tryd.pinned (OpenSpec.upto chainCompleteSpec)

/-- 'timesynclaw46.ChainLosses', WHERE WHAT IT READS IS OF BULK AT MOST 1048576: true; the input reads as it did. -/
def chainLossesUptoRow : OpenClaim := { program := "ytmegiodajkeahaadoor", sum := "dba7e3601704afa220d69ee10c0ed8a1093707b3e2eec754680d9ef5462c648a", func := "timesync/timesynclaw46.ChainLosses", spec := "chainLosses", unfollowed := true, recurses := true, named := ["timesync/timesynclaw46.conf", "timesync/prng.rounds"], apart := false, laid := [("timesync/prng.rounds", laid_timesync_prng_rounds), ("timesync/timesynclaw46.conf", laid_timesync_timesynclaw46_conf)], narrowed := true }
def ChainLossesUptoSaid : Prop := chainLossesUptoRow.holds Tryd.pinned (OpenSpec.upto chainLossesSpec)

/-- 'timesynclaw46.ChainSound', WHERE WHAT IT READS IS OF BULK AT MOST 1048576: true; the input reads as it did. -/
def chainSoundUptoRow : OpenClaim := { program := "ytmegiodajkeahaadoor", sum := "dba7e3601704afa220d69ee10c0ed8a1093707b3e2eec754680d9ef5462c648a", func := "timesync/timesynclaw46.ChainSound", spec := "chainSound", unfollowed := true, recurses := true, named := ["timesync/timesynclaw46.conf", "timesync/prng.rounds"], apart := false, laid := [("timesync/prng.rounds", laid_timesync_prng_rounds), ("timesync/timesynclaw46.conf", laid_timesync_timesynclaw46_conf)], narrowed := true }
def ChainSoundUptoSaid : Prop := chainSoundUptoRow.holds Tryd.pinned (OpenSpec.upto chainSoundSpec)

/-- 'timesynclaw46.ChainNobody', WHERE WHAT IT READS IS OF BULK AT MOST 1048576: true; the input reads as it did. -/
def chainNobodyUptoRow : OpenClaim := { program := "ytmegiodajkeahaadoor", sum := "dba7e3601704afa220d69ee10c0ed8a1093707b3e2eec754680d9ef5462c648a", func := "timesync/timesynclaw46.ChainNobody", spec := "chainNobody", unfollowed := true, recurses := true, named := ["timesync/timesynclaw46.conf", "timesync/prng.rounds"], apart := false, laid := [("timesync/prng.rounds", laid_timesync_prng_rounds), ("timesync/timesynclaw46.conf", laid_timesync_timesynclaw46_conf)], narrowed := true }
def ChainNobodyUptoSaid : Prop := chainNobodyUptoRow.holds Tryd.pinned (OpenSpec.upto chainNobodySpec)

/-- 'timesynctop.TopBroadcast', WHERE WHAT IT READS IS OF BULK AT MOST 1048576: true; the input reads as it did. -/
def topBroadcastUptoRow : OpenClaim := { program := "ytmegiodajkeahaadoor", sum := "dba7e3601704afa220d69ee10c0ed8a1093707b3e2eec754680d9ef5462c648a", func := "timesync/timesynctop.TopBroadcast", spec := "topBroadcast", unfollowed := true, recurses := true, named := ["timesync/prng.rounds"], apart := false, laid := [("timesync/prng.rounds", laid_timesync_prng_rounds)], narrowed := true }
def TopBroadcastUptoSaid : Prop := topBroadcastUptoRow.holds Tryd.pinned (OpenSpec.upto topBroadcastSpec)

end Rows
end Go.Proofs.YtmegiodajkeahaaDoor
