/- Opening a key that came in by value. -/
import Derived.Test.YtmegiodajkeahaaDoorOpen
import Derived.Test.YtmegiodajkeahaaDoorRnd
namespace Go.Proofs.YtmegiodajkeahaaDoor
open Go Go.ChangeShapes Go.WideShapes Go.ChangeAt Go.RowKit
theorem cKey : Tryd.prog.cellsOf 37 = 2 := by kernel_rfl
theorem open_key {H : Type} {enc : TypeId × Value → H} {W : World} {r : Reach} {b0 base : Nat} {sp : Nat → Bool} {held : Bool} {v : Value} {d : DataW H} {p : List MemPlace}
    (hv : Value.okWide Tryd.prog W r b0 37 v) (h : DataW.Trod enc Tryd.prog W base sp held 37 v d p) :
    ∃ k0 k1, v = .agg #[.int .u64 k0, .int .u64 k1] ∧ (Lit.int .u64 k0).wf = true ∧ (Lit.int .u64 k1).wf = true := by
  obtain ⟨cs, rfl, hsz, _⟩ : ∃ cs, v = .agg cs ∧ cs.size = Tryd.prog.cellsOf 37 ∧ Row.okWide Tryd.prog W r b0 37 cs := by
    simpa [Value.okWide, Tryd.underlying37] using hv
  rw [cKey] at hsz
  obtain ⟨l⟩ := cs
  match l, hsz with
  | [c0, c1], _ =>
    obtain ⟨fuel, hf⟩ := h
    obtain ⟨xs, m, _, _, _, hn, hel⟩ := DataW.trod_array Tryd.underlying37 hf
    have e0 := hel 0 (by decide)
    have e1 := hel 1 (by decide)
    rw [cU64] at e0 e1
    match xs, hn with
    | [x0, x1], _ =>
      simp only [Value.cells, List.drop_zero, Nat.zero_mul, Nat.one_mul, List.take_succ_cons, List.take_zero, List.drop_succ_cons, List.getElem?_cons_zero, List.getElem?_cons_succ] at e0 e1
      obtain ⟨a, q0, _, w0⟩ := DataW.trod_int Tryd.underlying24 e0
      obtain ⟨b, q1, _, w1⟩ := DataW.trod_int Tryd.underlying24 e1
      simp at q0 q1
      subst q0 q1
      exact ⟨a, b, rfl, w0, w1⟩
end Go.Proofs.YtmegiodajkeahaaDoor
