/- Opening a configuration that came in by value. -/
import Derived.Test.YtmegiodajkeahaaDoorOpen
import Derived.Test.YtmegiodajkeahaaDoorChC3
namespace Go.Proofs.YtmegiodajkeahaaDoor
open Go Go.ChangeShapes Go.WideShapes Go.ChangeAt Go.RowKit
theorem open_conf {H : Type} {enc : TypeId × Value → H} {W : World} {r : Reach} {b0 base : Nat} {sp : Nat → Bool} {held : Bool} {v : Value} {d : DataW H} {p : List MemPlace}
    (hv : Value.okWide Tryd.prog W r b0 23 v) (h : DataW.Trod enc Tryd.prog W base sp held 23 v d p) :
    ∃ a b c e, v = .agg (cfCells a b c e) ∧ (Lit.int .i64 a).wf = true ∧ (Lit.int .i64 b).wf = true ∧ (Lit.int .i64 c).wf = true ∧ (Lit.int .i64 e).wf = true := by
  obtain ⟨cs, rfl, hsz, _⟩ : ∃ cs, v = .agg cs ∧ cs.size = Tryd.prog.cellsOf 23 ∧ Row.okWide Tryd.prog W r b0 23 cs := by
    simpa [Value.okWide, Tryd.underlying23] using hv
  rw [cConf] at hsz
  obtain ⟨l⟩ := cs
  match l, hsz with
  | [c0, c1, c2, c3], _ =>
    obtain ⟨fuel, hf⟩ := h
    obtain ⟨y0, y1, y2, y3, n, hx, hl, e0, e1, e2, e3⟩ := Go.Joins.trod_struct4 Tryd.underlying23 hf
    simp only [Value.cells] at e0 e1 e2 e3
    have e0' : DataW.trod enc Tryd.prog W base sp held n 3 (List.take (Tryd.prog.cellsOf 3) (List.drop 0 [c0, c1, c2, c3])) = some y0 := e0
    have e1' : DataW.trod enc Tryd.prog W base sp held n 3 (List.take (Tryd.prog.cellsOf 3) (List.drop 1 [c0, c1, c2, c3])) = some y1 := e1
    have e2' : DataW.trod enc Tryd.prog W base sp held n 3 (List.take (Tryd.prog.cellsOf 3) (List.drop 2 [c0, c1, c2, c3])) = some y2 := e2
    have e3' : DataW.trod enc Tryd.prog W base sp held n 3 (List.take (Tryd.prog.cellsOf 3) (List.drop 3 [c0, c1, c2, c3])) = some y3 := e3
    rw [cI] at e0' e1' e2' e3'
    simp only [List.drop_zero, List.take_succ_cons, List.take_zero, List.drop_succ_cons] at e0' e1' e2' e3'
    obtain ⟨x0, z0, rfl, w0⟩ := DataW.trod_int Tryd.underlying3 e0'
    obtain ⟨x1, z1, rfl, w1⟩ := DataW.trod_int Tryd.underlying3 e1'
    obtain ⟨x2, z2, rfl, w2⟩ := DataW.trod_int Tryd.underlying3 e2'
    obtain ⟨x3, z3, rfl, w3⟩ := DataW.trod_int Tryd.underlying3 e3'
    simp at z0 z1 z2 z3
    subst z0 z1 z2 z3
    exact ⟨x0, x1, x2, x3, rfl, w0, w1, w2, w3⟩
end Go.Proofs.YtmegiodajkeahaaDoor
