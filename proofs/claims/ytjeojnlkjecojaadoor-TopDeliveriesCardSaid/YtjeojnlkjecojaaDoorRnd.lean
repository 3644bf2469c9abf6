/- What the condition on timesync/prng.rounds gives a walk: the variable's block holds just the six numbers of the program's text. -/
import Derived.Test.YtjeojnlkjecojaaDoorRows
import Derived.Test.YtjeojnlkjecojaaDoorMem
import Derived.LaidMore
import Derived.Stop.Joined
namespace Go.Proofs.YtjeojnlkjecojaaDoor
open Go Go.RowKit Go.ChangeShapes Go.WideShapes Go.ChangeAt

def rcells : Array Value := #[.int .u64 30, .int .u64 13787848793156543929, .int .u64 27, .int .u64 10723151780598845931, .int .u64 31, .int .u64 1]
/-- The rounds of Mix lie where they lie, as the text lays them. -/
def Rnd (w : World) : Prop := ∃ t fr, w.heap[0]? = some (.cells rcells t fr)
theorem Rnd.lt {w : World} (h : Rnd w) : 0 < w.heap.size := by
  obtain ⟨t, fr, h⟩ := h
  rcases Nat.lt_or_ge 0 w.heap.size with h1 | h1
  · exact h1
  · rw [Array.getElem?_eq_none h1] at h; cases h
theorem Rnd.next {w w' : World} (h : Rnd w) (hb : Below w.heap.size w w') : Rnd w' := by
  have hl := h.lt
  obtain ⟨t, fr, h⟩ := h
  exact ⟨t, fr, (hb.block _ hl).trans h⟩
theorem Rnd.below {B : Nat} {w w' : World} (h : Rnd w) (hb : Below B w w') (hB : 0 < B) : Rnd w' := by
  obtain ⟨t, fr, h⟩ := h
  exact ⟨t, fr, (hb.block _ hB).trans h⟩

theorem gRounds : Tryd.prog.globalNamed "timesync/prng.rounds" = some 0 := by kernel_rfl
theorem tRounds : (Tryd.prog.globals[0]?).map (·.type) = some 67 := by kernel_rfl
theorem cRound : Tryd.prog.cellsOf 66 = 2 := by kernel_rfl
theorem cRounds : Tryd.prog.cellsOf 67 = 6 := by kernel_rfl
theorem cUint : Tryd.prog.cellsOf 64 = 1 := by kernel_rfl
theorem cU64 : Tryd.prog.cellsOf 23 = 1 := by kernel_rfl

abbrev laid1 {H : Type} : List (String × DataW H) := [("timesync/prng.rounds", Rows.laid_timesync_prng_rounds)]

theorem round_of {H : Type} {enc : TypeId × Value → H} {w : World} {base : Nat} {sp : Nat → Bool} {held : Bool} {fuel : Nat} {cs : List Value} {d : DataW H} {p : List MemPlace} {a b : Int}
    (h : DataW.trod enc Tryd.prog w base sp held fuel 66 cs = some (d, p)) (hd : d = .agg [.lit (.int .u64 a), .lit (.int .u64 b)]) : cs = [.int .u64 a, .int .u64 b] := by
  obtain ⟨y0, y1, n, hx, hl, h0, h1⟩ := trod_struct2 Tryd.underlying66 h
  rw [cRound] at hl
  match cs, hl with
  | [c0, c1], _ =>
    simp only [cUint, cU64, List.drop_zero, List.take_succ_cons, List.take_zero, List.drop_succ_cons] at h0 h1
    obtain ⟨x0, e0, rfl, _⟩ := DataW.trod_int Tryd.underlying64 h0
    obtain ⟨x1, e1, rfl, _⟩ := DataW.trod_int Tryd.underlying23 h1
    simp only [Prod.mk.injEq, hd, DataW.agg.injEq, List.cons.injEq, DataW.lit.injEq, Lit.int.injEq] at hx
    simp at e0 e1
    simp [e0, e1, hx.1.1.2, hx.1.2.1.2]

theorem rnd_of_laid {W : World} (h : laidMetH Tryd.prog laid1 W) : Rnd W := by
  rw [MakeChecks.laidMetH_plain _ _ _ (by kernel_rfl)] at h
  obtain ⟨ps, ⟨g0, t0, cs0, f0, p0, q0, hg0, ht0, hv0, hd0, _, _⟩, _, _⟩ := h
  obtain rfl := Option.some.inj (gRounds.symm.trans hg0)
  obtain rfl := Option.some.inj (tRounds.symm.trans ht0)
  obtain ⟨xs, m, _, hx, hl, hn, hel⟩ := DataW.trod_array Tryd.underlying67 hd0
  have e0 := hel 0 (by decide)
  have e1 := hel 1 (by decide)
  have e2 := hel 2 (by decide)
  rw [cRounds] at hl
  rw [cRound] at e0 e1 e2
  match xs, hn with
  | [(d0, r0), (d1, r1), (d2, r2)], _ =>
    simp only [Prod.mk.injEq, Rows.laid_timesync_prng_rounds, DataW.agg.injEq, List.map_cons, List.map_nil, List.cons.injEq] at hx
    have k0 := round_of (a := 30) (b := 13787848793156543929) e0 hx.1.1.symm
    have k1 := round_of (a := 27) (b := 10723151780598845931) e1 hx.1.2.1.symm
    have k2 := round_of (a := 31) (b := 1) e2 hx.1.2.2.1.symm
    have hcs : cs0 = rcells := by
      obtain ⟨l⟩ := cs0
      match l, hl with
      | [c0, c1, c2, c3, c4, c5], _ =>
        simp at k0 k1 k2
        simp [rcells, k0, k1, k2]
    subst hcs
    unfold World.var? at hv0
    rw [gRounds] at hv0
    simp only [Option.bind_some] at hv0
    split at hv0
    · rename_i cs t fr he
      obtain rfl := Option.some.inj hv0
      exact ⟨t, fr, he⟩
    · cases hv0

/-- The start that the door leaves meets the condition. -/
theorem door_met (os : Os) (args : Array Value) : laidMetH Tryd.prog laid1 ((World.doorLaid Tryd.prog 17 os).forCall (fun _ _ => 0) ⟨#[], args, []⟩).memory :=
  laidMetH_of_parts3 (fuel := 8) (laidMet_of_run' 8 (by kernel_rfl) (by kernel_rfl)) (by kernel_rfl) (by kernel_rfl)
theorem own : ownKnob Tryd.prog.godebug = none := by kernel_rfl
theorem laidOut : laidOutB Tryd.prog = true := by kernel_rfl
end Go.Proofs.YtjeojnlkjecojaaDoor
