/-
  NARROWER THAN 'FOR EVERY INPUT', by the rows' own cells (each row's printed sentence says how): PrngMixes: laid · PrngNth: laid · PrngBijective: laid · PrngWithin: laid · PrngPerms: laid · PrngPlays: laid · PrngApart: laid · PrngNobody: laid.
  DERIVED. THE GIVEN ROWS OF THIS SEAT. 8 by the template 'for every input the law returns true; each argument reads behind the call as it read before'; 0 by the template 'total and deterministic' (their statements: YtdfabmjkahhlmaaDoorTotals.lean).
  GIVEN WITH THE SEED: the statements are not yours to turn. If you find one false, say at which input.
  Laid BY PROGRAM, IN A SANDBOX (cutbox-rows.mjs): the forced cells as the released guide's own fill.sh prints them over the translation 727433a80b4785ec… (all of the seat's roots in one cut). By AI agents, Wed Nov 11 2026. No macro, syntax, notation, axiom, sorry.
-/
import Derived.Test.YtdfabmjkahhlmaaDoorChecked
import GoSem.Claim
import GoSem.ClaimJoined
import GoSem.ClaimMapViews
import Derived.JoinedTies
import Derived.KernelRfl
namespace Go.Proofs.YtdfabmjkahhlmaaDoor
/- THE CELL 'sum', in the pinned program and in every row, IS THE sha256 OF THE DUMP (.gsa) THAT YtdfabmjkahhlmaaDoorProg.lean LOADS. Nothing in Lean hashes anything: it is a label: what it is worth is what the hold of that sum in a sandbox is worth. -/
noncomputable def Tryd.pinned : Pinned := { name := "ytdfabmjkahhlmaadoor", sum := "727433a80b4785ec3192611467436c0f7e0e5fd00caf8deb14fb9db3190e7c34", checked := Tryd.checked }
namespace Rows
def none {H : Type} : Left H := { results := [], args := [] }

/- WHAT THE LISTED PACKAGE-LEVEL VARIABLES READ AS WHEN THE CALL BEGINS. Each datum BY PROGRAM (the guide's laid-datum.mjs) off the statement by which the dump's own 'gosem.cut.vars' lays the variable. In a bare row this is a premise. The card (YtdfabmjkahhlmaaDoorCards.lean) ties it to the program's text. -/
def laid_timesync_prng_rounds {H : Type} : DataW H := .agg [.agg [.lit (.int .u64 30), .lit (.int .u64 13787848793156543929)], .agg [.lit (.int .u64 27), .lit (.int .u64 10723151780598845931)], .agg [.lit (.int .u64 31), .lit (.int .u64 1)]]

/-- 'timesynclaw08.PrngMixes': WHATEVER THE INPUT: true; the input reads as it did. -/
def prngMixesSpec : ChangeSpec := { name := "prngMixes", fn := fun _ => fun
  | [d1, d2] => { results := [.lit (.bool true)], args := [d1, d2] }
  | _ => none }
def prngMixesRow : OpenClaim := { program := "ytdfabmjkahhlmaadoor", sum := "727433a80b4785ec3192611467436c0f7e0e5fd00caf8deb14fb9db3190e7c34", func := "timesync/timesynclaw08.PrngMixes", spec := "prngMixes", unfollowed := true, recurses := true, named := ["timesync/prng.rounds"], apart := false, laid := [("timesync/prng.rounds", laid_timesync_prng_rounds)] }
def PrngMixesSaid : Prop := prngMixesRow.holds Tryd.pinned (OpenSpec.ofChange prngMixesSpec)

/-- ITS FALSE NEIGHBOUR: 'it returns false'. Refute it at one input. -/
def prngMixesWrong : ChangeSpec := { name := "prngMixes", fn := fun _ => fun
  | [d1, d2] => { results := [.lit (.bool false)], args := [d1, d2] }
  | _ => none }
def PrngMixesWrongFalsely : Prop := prngMixesRow.holds Tryd.pinned (OpenSpec.ofChange prngMixesWrong)

/-- 'timesynclaw08.PrngNth': WHATEVER THE INPUT: true; the input reads as it did. -/
def prngNthSpec : ChangeSpec := { name := "prngNth", fn := fun _ => fun
  | [d1, d2] => { results := [.lit (.bool true)], args := [d1, d2] }
  | _ => none }
def prngNthRow : OpenClaim := { program := "ytdfabmjkahhlmaadoor", sum := "727433a80b4785ec3192611467436c0f7e0e5fd00caf8deb14fb9db3190e7c34", func := "timesync/timesynclaw08.PrngNth", spec := "prngNth", unfollowed := true, recurses := true, named := ["timesync/prng.rounds"], apart := false, laid := [("timesync/prng.rounds", laid_timesync_prng_rounds)] }
def PrngNthSaid : Prop := prngNthRow.holds Tryd.pinned (OpenSpec.ofChange prngNthSpec)

/-- ITS FALSE NEIGHBOUR: 'it returns false'. Refute it at one input. -/
def prngNthWrong : ChangeSpec := { name := "prngNth", fn := fun _ => fun
  | [d1, d2] => { results := [.lit (.bool false)], args := [d1, d2] }
  | _ => none }
def PrngNthWrongFalsely : Prop := prngNthRow.holds Tryd.pinned (OpenSpec.ofChange prngNthWrong)

/-- 'timesynclaw08.PrngBijective': WHATEVER THE INPUT: true; the input reads as it did. -/
def prngBijectiveSpec : ChangeSpec := { name := "prngBijective", fn := fun _ => fun
  | [d1, d2, d3] => { results := [.lit (.bool true)], args := [d1, d2, d3] }
  | _ => none }
def prngBijectiveRow : OpenClaim := { program := "ytdfabmjkahhlmaadoor", sum := "727433a80b4785ec3192611467436c0f7e0e5fd00caf8deb14fb9db3190e7c34", func := "timesync/timesynclaw08.PrngBijective", spec := "prngBijective", unfollowed := true, recurses := true, named := ["timesync/prng.rounds"], apart := false, laid := [("timesync/prng.rounds", laid_timesync_prng_rounds)] }
def PrngBijectiveSaid : Prop := prngBijectiveRow.holds Tryd.pinned (OpenSpec.ofChange prngBijectiveSpec)

/-- ITS FALSE NEIGHBOUR: 'it returns false'. Refute it at one input. -/
def prngBijectiveWrong : ChangeSpec := { name := "prngBijective", fn := fun _ => fun
  | [d1, d2, d3] => { results := [.lit (.bool false)], args := [d1, d2, d3] }
  | _ => none }
def PrngBijectiveWrongFalsely : Prop := prngBijectiveRow.holds Tryd.pinned (OpenSpec.ofChange prngBijectiveWrong)

/-- 'timesynclaw08.PrngWithin': WHATEVER THE INPUT: true; the input reads as it did. -/
def prngWithinSpec : ChangeSpec := { name := "prngWithin", fn := fun _ => fun
  | [d1, d2, d3, d4] => { results := [.lit (.bool true)], args := [d1, d2, d3, d4] }
  | _ => none }
def prngWithinRow : OpenClaim := { program := "ytdfabmjkahhlmaadoor", sum := "727433a80b4785ec3192611467436c0f7e0e5fd00caf8deb14fb9db3190e7c34", func := "timesync/timesynclaw08.PrngWithin", spec := "prngWithin", unfollowed := true, recurses := true, named := ["timesync/prng.rounds"], apart := false, laid := [("timesync/prng.rounds", laid_timesync_prng_rounds)] }
def PrngWithinSaid : Prop := prngWithinRow.holds Tryd.pinned (OpenSpec.ofChange prngWithinSpec)

/-- ITS FALSE NEIGHBOUR: 'it returns false'. Refute it at one input. -/
def prngWithinWrong : ChangeSpec := { name := "prngWithin", fn := fun _ => fun
  | [d1, d2, d3, d4] => { results := [.lit (.bool false)], args := [d1, d2, d3, d4] }
  | _ => none }
def PrngWithinWrongFalsely : Prop := prngWithinRow.holds Tryd.pinned (OpenSpec.ofChange prngWithinWrong)

/-- 'timesynclaw08.PrngPerms': WHATEVER THE INPUT: true; the input reads as it did. -/
def prngPermsSpec : ChangeSpec := { name := "prngPerms", fn := fun _ => fun
  | [d1, d2] => { results := [.lit (.bool true)], args := [d1, d2] }
  | _ => none }
def prngPermsRow : OpenClaim := { program := "ytdfabmjkahhlmaadoor", sum := "727433a80b4785ec3192611467436c0f7e0e5fd00caf8deb14fb9db3190e7c34", func := "timesync/timesynclaw08.PrngPerms", spec := "prngPerms", unfollowed := true, recurses := true, named := ["timesync/prng.rounds"], apart := false, laid := [("timesync/prng.rounds", laid_timesync_prng_rounds)] }
def PrngPermsSaid : Prop := prngPermsRow.holds Tryd.pinned (OpenSpec.ofChange prngPermsSpec)

/-- ITS FALSE NEIGHBOUR: 'it returns false'. Refute it at one input. -/
def prngPermsWrong : ChangeSpec := { name := "prngPerms", fn := fun _ => fun
  | [d1, d2] => { results := [.lit (.bool false)], args := [d1, d2] }
  | _ => none }
def PrngPermsWrongFalsely : Prop := prngPermsRow.holds Tryd.pinned (OpenSpec.ofChange prngPermsWrong)

/-- 'timesynclaw08.PrngPlays': WHATEVER THE INPUT: true; the input reads as it did. -/
def prngPlaysSpec : ChangeSpec := { name := "prngPlays", fn := fun _ => fun
  | [d1, d2] => { results := [.lit (.bool true)], args := [d1, d2] }
  | _ => none }
def prngPlaysRow : OpenClaim := { program := "ytdfabmjkahhlmaadoor", sum := "727433a80b4785ec3192611467436c0f7e0e5fd00caf8deb14fb9db3190e7c34", func := "timesync/timesynclaw08.PrngPlays", spec := "prngPlays", unfollowed := true, recurses := true, named := ["timesync/prng.rounds"], apart := false, laid := [("timesync/prng.rounds", laid_timesync_prng_rounds)] }
def PrngPlaysSaid : Prop := prngPlaysRow.holds Tryd.pinned (OpenSpec.ofChange prngPlaysSpec)

/-- ITS FALSE NEIGHBOUR: 'it returns false'. Refute it at one input. -/
def prngPlaysWrong : ChangeSpec := { name := "prngPlays", fn := fun _ => fun
  | [d1, d2] => { results := [.lit (.bool false)], args := [d1, d2] }
  | _ => none }
def PrngPlaysWrongFalsely : Prop := prngPlaysRow.holds Tryd.pinned (OpenSpec.ofChange prngPlaysWrong)

/-- 'timesynclaw08.PrngApart': WHATEVER THE INPUT: true; the input reads as it did. -/
def prngApartSpec : ChangeSpec := { name := "prngApart", fn := fun _ => fun
  | [d1, d2, d3] => { results := [.lit (.bool true)], args := [d1, d2, d3] }
  | _ => none }
def prngApartRow : OpenClaim := { program := "ytdfabmjkahhlmaadoor", sum := "727433a80b4785ec3192611467436c0f7e0e5fd00caf8deb14fb9db3190e7c34", func := "timesync/timesynclaw08.PrngApart", spec := "prngApart", unfollowed := true, recurses := true, named := ["timesync/prng.rounds"], apart := false, laid := [("timesync/prng.rounds", laid_timesync_prng_rounds)] }
def PrngApartSaid : Prop := prngApartRow.holds Tryd.pinned (OpenSpec.ofChange prngApartSpec)

/-- ITS FALSE NEIGHBOUR: 'it returns false'. Refute it at one input. -/
def prngApartWrong : ChangeSpec := { name := "prngApart", fn := fun _ => fun
  | [d1, d2, d3] => { results := [.lit (.bool false)], args := [d1, d2, d3] }
  | _ => none }
def PrngApartWrongFalsely : Prop := prngApartRow.holds Tryd.pinned (OpenSpec.ofChange prngApartWrong)

/-- 'timesynclaw08.PrngNobody': WHATEVER THE INPUT: true; the input reads as it did. -/
def prngNobodySpec : ChangeSpec := { name := "prngNobody", fn := fun _ => fun
  | [d1, d2] => { results := [.lit (.bool true)], args := [d1, d2] }
  | _ => none }
def prngNobodyRow : OpenClaim := { program := "ytdfabmjkahhlmaadoor", sum := "727433a80b4785ec3192611467436c0f7e0e5fd00caf8deb14fb9db3190e7c34", func := "timesync/timesynclaw08.PrngNobody", spec := "prngNobody", unfollowed := true, recurses := true, named := ["timesync/prng.rounds"], apart := false, laid := [("timesync/prng.rounds", laid_timesync_prng_rounds)] }
def PrngNobodySaid : Prop := prngNobodyRow.holds Tryd.pinned (OpenSpec.ofChange prngNobodySpec)

/-- ITS FALSE NEIGHBOUR: 'it returns false'. Refute it at one input. -/
def prngNobodyWrong : ChangeSpec := { name := "prngNobody", fn := fun _ => fun
  | [d1, d2] => { results := [.lit (.bool false)], args := [d1, d2] }
  | _ => none }
def PrngNobodyWrongFalsely : Prop := prngNobodyRow.holds Tryd.pinned (OpenSpec.ofChange prngNobodyWrong)

/- THE SECOND FORM. 'bulk': how many values and letters a reading holds, each counted each time it is reached (what is shared counts as often as it is met; a slice's spare places count too). A statement '..UptoSaid' is the law's where the arguments, and the package variables that the reading takes, are together of bulk at most 1048576: NARROWER than '..Said'. Prove '..Said' where nothing that the law and all that it calls make is longer than what came in: it says more and counts as full. Else prove '..UptoSaid'. A law counts once. -/
mutual
def uptoBulk {H : Type} : DataW H → Nat
  | .lit (.string bytes) => bytes.length + 1
  | .lit _ => 1
  | .nil => 1
  | .ptr d => uptoBulk d + 1
  | .slice elems spare => uptoBulkAll elems + uptoBulkAll spare + 1
  | .agg parts => uptoBulkAll parts + 1
  | .iface _ d => uptoBulk d + 1
  | .map entries => uptoBulkEntries entries + 1
  | .held _ => 1
def uptoBulkAll {H : Type} : List (DataW H) → Nat
  | [] => 0
  | d :: r => uptoBulk d + uptoBulkAll r
def uptoBulkEntries {H : Type} : List (Lit × DataW H) → Nat
  | [] => 0
  | x :: r => uptoBulkEntry x + uptoBulkEntries r
def uptoBulkEntry {H : Type} : Lit × DataW H → Nat
  | (.string bytes, d) => bytes.length + uptoBulk d + 1
  | (_, d) => uptoBulk d + 1
 end
def uptoSmall : (H : Type) → List (DataW H) → Bool := fun _ ds => decide (uptoBulkAll ds ≤ 1048576)
def OpenSpec.upto (s : _root_.Go.ChangeSpec) : _root_.Go.OpenSpec := { _root_.Go.OpenSpec.ofChange s with cond := some uptoSmall }

/-- 'timesynclaw08.PrngMixes', WHERE WHAT IT READS IS OF BULK AT MOST 1048576: true; the input reads as it did. -/
def prngMixesUptoRow : OpenClaim := { program := "ytdfabmjkahhlmaadoor", sum := "727433a80b4785ec3192611467436c0f7e0e5fd00caf8deb14fb9db3190e7c34", func := "timesync/timesynclaw08.PrngMixes", spec := "prngMixes", unfollowed := true, recurses := true, named := ["timesync/prng.rounds"], apart := false, laid := [("timesync/prng.rounds", laid_timesync_prng_rounds)], narrowed := true }
def PrngMixesUptoSaid : Prop := prngMixesUptoRow.holds Tryd.pinned (OpenSpec.upto prngMixesSpec)

/-- 'timesynclaw08.PrngNth', WHERE WHAT IT READS IS OF BULK AT MOST 1048576: true; the input reads as it did. -/
def prngNthUptoRow : OpenClaim := { program := "ytdfabmjkahhlmaadoor", sum := "727433a80b4785ec3192611467436c0f7e0e5fd00caf8deb14fb9db3190e7c34", func := "timesync/timesynclaw08.PrngNth", spec := "prngNth", unfollowed := true, recurses := true, named := ["timesync/prng.rounds"], apart := false, laid := [("timesync/prng.rounds", laid_timesync_prng_rounds)], narrowed := true }
def PrngNthUptoSaid : Prop := prngNthUptoRow.holds Tryd.pinned (OpenSpec.upto prngNthSpec)

/-- 'timesynclaw08.PrngBijective', WHERE WHAT IT READS IS OF BULK AT MOST 1048576: true; the input reads as it did. -/
def prngBijectiveUptoRow : OpenClaim := { program := "ytdfabmjkahhlmaadoor", sum := "727433a80b4785ec3192611467436c0f7e0e5fd00caf8deb14fb9db3190e7c34", func := "timesync/timesynclaw08.PrngBijective", spec := "prngBijective", unfollowed := true, recurses := true, named := ["timesync/prng.rounds"], apart := false, laid := [("timesync/prng.rounds", laid_timesync_prng_rounds)], narrowed := true }
def PrngBijectiveUptoSaid : Prop := prngBijectiveUptoRow.holds Tryd.pinned (OpenSpec.upto prngBijectiveSpec)

/-- 'timesynclaw08.PrngWithin', WHERE WHAT IT READS IS OF BULK AT MOST 1048576: true; the input reads as it did. -/
def prngWithinUptoRow : OpenClaim := { program := "ytdfabmjkahhlmaadoor", sum := "727433a80b4785ec3192611467436c0f7e0e5fd00caf8deb14fb9db3190e7c34", func := "timesync/timesynclaw08.PrngWithin", spec := "prngWithin", unfollowed := true, recurses := true, named := ["timesync/prng.rounds"], apart := false, laid := [("timesync/prng.rounds", laid_timesync_prng_rounds)], narrowed := true }
def PrngWithinUptoSaid : Prop := prngWithinUptoRow.holds Tryd.pinned (OpenSpec.upto prngWithinSpec)

/-- 'timesynclaw08.PrngPerms', WHERE WHAT IT READS IS OF BULK AT MOST 1048576: true; the input reads as it did. -/
def prngPermsUptoRow : OpenClaim := { program := "ytdfabmjkahhlmaadoor", sum := "727433a80b4785ec3192611467436c0f7e0e5fd00caf8deb14fb9db3190e7c34", func := "timesync/timesynclaw08.PrngPerms", spec := "prngPerms", unfollowed := true, recurses := true, named := ["timesync/prng.rounds"], apart := false, laid := [("timesync/prng.rounds", laid_timesync_prng_rounds)], narrowed := true }
def PrngPermsUptoSaid : Prop := prngPermsUptoRow.holds Tryd.pinned (OpenSpec.upto prngPermsSpec)

/-- 'timesynclaw08.PrngPlays', WHERE WHAT IT READS IS OF BULK AT MOST 1048576: true; the input reads as it did. -/
def prngPlaysUptoRow : OpenClaim := { program := "ytdfabmjkahhlmaadoor", sum := "727433a80b4785ec3192611467436c0f7e0e5fd00caf8deb14fb9db3190e7c34", func := "timesync/timesynclaw08.PrngPlays", spec := "prngPlays", unfollowed := true, recurses := true, named := ["timesync/prng.rounds"], apart := false, laid := [("timesync/prng.rounds", laid_timesync_prng_rounds)], narrowed := true }
def PrngPlaysUptoSaid : Prop := prngPlaysUptoRow.holds Tryd.pinned (OpenSpec.upto prngPlaysSpec)

/-- 'timesynclaw08.PrngApart', WHERE WHAT IT READS IS OF BULK AT MOST 1048576: true; the input reads as it did. -/
def prngApartUptoRow : OpenClaim := { program := "ytdfabmjkahhlmaadoor", sum := "727433a80b4785ec3192611467436c0f7e0e5fd00caf8deb14fb9db3190e7c34", func := "timesync/timesynclaw08.PrngApart", spec := "prngApart", unfollowed := true, recurses := true, named := ["timesync/prng.rounds"], apart := false, laid := [("timesync/prng.rounds", laid_timesync_prng_rounds)], narrowed := true }
def PrngApartUptoSaid : Prop := prngApartUptoRow.holds Tryd.pinned (OpenSpec.upto prngApartSpec)

/-- 'timesynclaw08.PrngNobody', WHERE WHAT IT READS IS OF BULK AT MOST 1048576: true; the input reads as it did. -/
def prngNobodyUptoRow : OpenClaim := { program := "ytdfabmjkahhlmaadoor", sum := "727433a80b4785ec3192611467436c0f7e0e5fd00caf8deb14fb9db3190e7c34", func := "timesync/timesynclaw08.PrngNobody", spec := "prngNobody", unfollowed := true, recurses := true, named := ["timesync/prng.rounds"], apart := false, laid := [("timesync/prng.rounds", laid_timesync_prng_rounds)], narrowed := true }
def PrngNobodyUptoSaid : Prop := prngNobodyUptoRow.holds Tryd.pinned (OpenSpec.upto prngNobodySpec)

end Rows
end Go.Proofs.YtdfabmjkahhlmaaDoor
