/- Opening a slice of bools that came in. -/
import Derived.Test.YtmegiodajkeahaaDoorOpen
import Derived.Test.YtmegiodajkeahaaDoorChC3
import Derived.Deep.Grids
namespace Go.Proofs.YtmegiodajkeahaaDoor
open Go Go.ChangeShapes Go.WideShapes Go.ChangeAt Go.RowKit
/-- The slice at A reads as these bools. -/
def IsBl (w : World) (A : Option Addr) (bs : List Bool) : Prop :=
  bs = [] ∨ ∃ b off, A = some ⟨b, off, none⟩ ∧ b < w.heap.size ∧ ∀ i x, bs[i]? = some x → w.cell? ⟨b, off + i, none⟩ = some (.bool x)
theorem IsBl.row {w : World} {A : Option Addr} {bs : List Bool} (h : IsBl w A bs) : bs.length = 0 ∨ ∃ b off, A = some ⟨b, off, none⟩ ∧ b < w.heap.size ∧ ∀ i x, bs[i]? = some x → w.cell? ⟨b, off + i, none⟩ = some (.bool x) := by
  rcases h with h | h
  · left; rw [h]; rfl
  · exact .inr h
theorem open_bl {H : Type} {enc : TypeId × Value → H} {P : Program} {W : World} {r : Reach} {b0 base : Nat} {held : Bool} {T E : TypeId} {v : Value} {d : DataW H} {p : List MemPlace}
    (hT : P.underlying T = some (.slice E)) (hE : P.underlying E = some .bool) (hc : P.cellsOf E = 1) (hv : Value.okWide P W r b0 T v) (h : DataW.Trod enc P W base (fun _ => true) held T v d p) :
    ∃ A c bs, v = .slice A bs.length c ∧ IsBl W A bs ∧ bs.length ≤ maxLen := by
  obtain ⟨a0, len, cap, rfl⟩ := okWide_slice hT hv
  obtain ⟨fuel, hf⟩ := h
  rcases Go.Deep.open_bools hT hE hc hf with ⟨hcs, _⟩ | ⟨x, l, c, B, hcs, _, hl, hm, _, hcell⟩
  · simp [Value.cells] at hcs
    obtain ⟨rfl, rfl, rfl⟩ := hcs
    exact ⟨none, 0, [], rfl, .inl rfl, Nat.zero_le _⟩
  · simp [Value.cells] at hcs
    obtain ⟨rfl, rfl, rfl⟩ := hcs
    have hlen : ((List.range len).map B).length = len := by simp
    refine ⟨some x, cap, (List.range len).map B, by rw [hlen], ?_, by rw [hlen]; omega⟩
    by_cases h0 : len = 0
    · left; rw [h0]; rfl
    · right
      obtain ⟨b, off, spot⟩ := x
      have h1 := hcell 0 (by omega)
      have hspot : spot = none := by simpa [Addr.add] using World.cell?_spot h1
      subst hspot
      refine ⟨b, off, rfl, by have := block_lt_of_cell h1; simpa [add_none] using this, fun i y hy => ?_⟩
      have hi : i < len := by
        have := (List.getElem?_eq_some_iff.1 hy).1
        omega
      have h2 := hcell i (by omega)
      rw [add_none] at h2
      rw [h2]
      rw [List.getElem?_map, List.getElem?_range hi] at hy
      simpa using hy
end Go.Proofs.YtmegiodajkeahaaDoor
