/- What the conditions on timesync/prng.rounds and timesync/timesynclaw46.conf give a walk. -/
import Derived.Test.YtmegiodajkeahaaDoorRnd
import Derived.Test.YtmegiodajkeahaaDoorChC2
import Derived.Lib.SmallJoins
namespace Go.Proofs.YtmegiodajkeahaaDoor
open Go Go.RowKit Go.ChangeShapes Go.WideShapes Go.ChangeAt
/-- The configuration of the examples lies where it lies. -/
def CfG (w : World) : Prop := ∃ t fr, w.heap[0]? = some (.cells (cfCells 1000 100 2 10) t fr)
theorem CfG.lt {w : World} (h : CfG w) : 0 < w.heap.size := by
  obtain ⟨t, fr, h⟩ := h
  rcases Nat.lt_or_ge 0 w.heap.size with h1 | h1
  · exact h1
  · rw [Array.getElem?_eq_none h1] at h; cases h
theorem CfG.next {w w' : World} (h : CfG w) (hb : Below w.heap.size w w') : CfG w' := by
  have hl := h.lt
  obtain ⟨t, fr, h⟩ := h
  exact ⟨t, fr, (hb.block _ hl).trans h⟩
theorem CfG.cells {w : World} (h : CfG w) : (w.cell? ⟨0, 0, none⟩ = some (.int .i64 1000)) ∧ (w.cell? ⟨0, 1, none⟩ = some (.int .i64 100)) ∧ (w.cell? ⟨0, 2, none⟩ = some (.int .i64 2)) ∧ (w.cell? ⟨0, 3, none⟩ = some (.int .i64 10)) := by
  obtain ⟨t, fr, h⟩ := h
  unfold cfCells at h
  refine ⟨?_, ?_, ?_, ?_⟩ <;> simp [World.cell?, h]
abbrev laid2 {H : Type} : List (String × DataW H) := [("timesync/prng.rounds", Rows.laid_timesync_prng_rounds), ("timesync/timesynclaw46.conf", Rows.laid_timesync_timesynclaw46_conf)]
theorem gConf : Tryd.prog.globalNamed "timesync/timesynclaw46.conf" = some 0 := by kernel_rfl
theorem tConf : (Tryd.prog.globals[0]?).map (·.type) = some 23 := by kernel_rfl
theorem cConf : Tryd.prog.cellsOf 23 = 4 := by kernel_rfl
theorem cI : Tryd.prog.cellsOf 3 = 1 := by kernel_rfl
theorem both_of_laid {W : World} (h : laidMetH Tryd.prog laid2 W) : Rnd W ∧ CfG W := by
  rw [MakeChecks.laidMetH_plain _ _ _ (by kernel_rfl)] at h
  obtain ⟨ps, ⟨g0, t0, cs0, f0, p0, q0, hg0, ht0, hv0, hd0, hrest, hps⟩, hnd, hcl⟩ := h
  subst hps
  constructor
  · refine rnd_of_laid ?_
    rw [MakeChecks.laidMetH_plain _ _ _ (by kernel_rfl)]
    have hnd' : (MemPlace.row ⟨g0, 0, none⟩ cs0.size ++ p0 ++ ([] : List MemPlace)).Nodup := by
      rw [List.append_nil]
      exact (List.nodup_append.1 hnd).1
    exact ⟨_, ⟨g0, t0, cs0, f0, p0, [], hg0, ht0, hv0, hd0, rfl, rfl⟩, hnd', fun b off hm => hcl b off (by
      rw [List.append_nil] at hm
      exact List.mem_append_left _ hm)⟩
  · obtain ⟨g1, t1, cs1, f1, p1, q1, hg1, ht1, hv1, hd1, _, _⟩ := hrest
    obtain rfl := Option.some.inj (gConf.symm.trans hg1)
    obtain rfl := Option.some.inj (tConf.symm.trans ht1)
    obtain ⟨y0, y1, y2, y3, n, hx, hl, e0, e1, e2, e3⟩ := Go.Joins.trod_struct4 Tryd.underlying23 hd1
    rw [cConf] at hl
    obtain ⟨l⟩ := cs1
    match l, hl with
    | [c0, c1, c2, c3], _ =>
      have e0' : DataW.trod _ Tryd.prog W 0 _ false n 3 (List.take (Tryd.prog.cellsOf 3) (List.drop 0 [c0, c1, c2, c3])) = some y0 := e0
      have e1' : DataW.trod _ Tryd.prog W 0 _ false n 3 (List.take (Tryd.prog.cellsOf 3) (List.drop 1 [c0, c1, c2, c3])) = some y1 := e1
      have e2' : DataW.trod _ Tryd.prog W 0 _ false n 3 (List.take (Tryd.prog.cellsOf 3) (List.drop 2 [c0, c1, c2, c3])) = some y2 := e2
      have e3' : DataW.trod _ Tryd.prog W 0 _ false n 3 (List.take (Tryd.prog.cellsOf 3) (List.drop 3 [c0, c1, c2, c3])) = some y3 := e3
      rw [cI] at e0' e1' e2' e3'
      simp only [List.drop_zero, List.take_succ_cons, List.take_zero, List.drop_succ_cons] at e0' e1' e2' e3'
      obtain ⟨x0, z0, rfl, _⟩ := DataW.trod_int Tryd.underlying3 e0'
      obtain ⟨x1, z1, rfl, _⟩ := DataW.trod_int Tryd.underlying3 e1'
      obtain ⟨x2, z2, rfl, _⟩ := DataW.trod_int Tryd.underlying3 e2'
      obtain ⟨x3, z3, rfl, _⟩ := DataW.trod_int Tryd.underlying3 e3'
      simp only [Prod.mk.injEq, Rows.laid_timesync_timesynclaw46_conf, DataW.agg.injEq, List.cons.injEq, DataW.lit.injEq, Lit.int.injEq] at hx
      simp at z0 z1 z2 z3
      have hcs : (⟨[c0, c1, c2, c3]⟩ : Array Value) = cfCells 1000 100 2 10 := by
        unfold cfCells
        simp [z0, z1, z2, z3, ← hx.1.1.2, ← hx.1.2.1.2, ← hx.1.2.2.1.2, ← hx.1.2.2.2.1.2]
      rw [hcs] at hv1
      unfold World.var? at hv1
      rw [gConf] at hv1
      simp only [Option.bind_some] at hv1
      split at hv1
      · rename_i cs t fr he
        obtain rfl := Option.some.inj hv1
        exact ⟨t, fr, he⟩
      · cases hv1
theorem door_met2 (os : Os) (args : Array Value) : laidMetH Tryd.prog laid2 ((World.doorLaid Tryd.prog 17 os).forCall (fun _ _ => 0) ⟨#[], args, []⟩).memory :=
  laidMetH_of_parts3 (fuel := 8) (laidMet_of_run' 8 (by kernel_rfl) (by kernel_rfl)) (by kernel_rfl) (by kernel_rfl)
end Go.Proofs.YtmegiodajkeahaaDoor
