/- Opening a slice of slices of integers that came in: its length is within its capacity. -/
import Derived.Test.YtpmndpbaigcaeaaHopOp
namespace Go.Proofs.Ytpmndpbaigcaeaa
open Go Go.ChangeShapes Go.WideShapes Go.ChangeAt Go.RowKit
theorem open_slicesC {H : Type} {enc : TypeId × Value → H} {W : World} {r : Reach} {b0 base : Nat} {sp : Nat → Bool} {held : Bool} {v : Value} {d : DataW H} {p : List MemPlace}
    (hv : Value.okWide Try.prog W r b0 36 v) (h : DataW.Trod enc Try.prog W base sp held 36 v d p) :
    ∃ (A : Option Addr) (c : Nat) (ss : List (List Int)), v = .slice A ss.length c ∧ IsSS W A ss ∧ ss.length ≤ c := by
  obtain ⟨A, c, ss, rfl, hS⟩ := open_slices hv h
  refine ⟨A, c, ss, rfl, hS, ?_⟩
  obtain ⟨fuel, hf⟩ := h
  rcases DataW.trod_slice Try.underlying36 hf with ⟨hcs, _⟩ | ⟨a, len', cap', elems, rest, n, _, hcs, _, _, hl, _, _, _, _, _⟩
  · simp [Value.cells] at hcs
    obtain ⟨_, h1, _⟩ := hcs
    rw [h1]; simp
  · simp [Value.cells] at hcs
    obtain ⟨_, h1, h2⟩ := hcs
    rw [h1, h2]; exact hl
end Go.Proofs.Ytpmndpbaigcaeaa
