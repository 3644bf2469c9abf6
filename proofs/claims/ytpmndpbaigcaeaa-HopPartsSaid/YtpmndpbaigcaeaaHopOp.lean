/- Opening a slice of slices of integers that came in. -/
import Derived.Test.YtpmndpbaigcaeaaOpen
import Derived.Test.YtpmndpbaigcaeaaHopC9
namespace Go.Proofs.Ytpmndpbaigcaeaa
open Go Go.ChangeShapes Go.WideShapes Go.ChangeAt Go.RowKit
theorem cSl : Try.prog.cellsOf 22 = 1 := by kernel_rfl
theorem cIn : Try.prog.cellsOf 3 = 1 := by kernel_rfl
/-- A cell that holds a slice of integers. -/
theorem sl_of {H : Type} {enc : TypeId × Value → H} {W : World} {base : Nat} {sp : Nat → Bool} {held : Bool} {m : Nat} {v : Value} {x : DataW H × List MemPlace}
    (h : DataW.trod enc Try.prog W base sp held m 22 [v] = some x) : ∃ A c xs, v = .slice A xs.length c ∧ IsSl W A .i64 xs := by
  rcases open_ints Try.underlying22 Try.underlying3 cIn h with ⟨hcs, _⟩ | ⟨x, l, c, zs, hcs, _, hl, hm, hz, _, hcell, _⟩
  · simp at hcs
    exact ⟨none, 0, [], hcs, .inl rfl⟩
  · simp at hcs
    subst hcs
    have hz : l ≤ zs.length := by rw [hz]; split <;> omega
    have hlen : (zs.take l).length = l := by simp; omega
    refine ⟨some x, c, zs.take l, by rw [hlen], ?_⟩
    by_cases h0 : l = 0
    · left; rw [h0]; rfl
    · right
      obtain ⟨b, off, spot⟩ := x
      have h1 := hcell 0 (by omega)
      have hspot : spot = none := by simpa [Addr.add] using World.cell?_spot h1
      subst hspot
      refine ⟨b, off, rfl, by have := block_lt_of_cell h1; simpa [add_none] using this, fun i y hy => ?_⟩
      have hi : i < l := by
        have := (List.getElem?_eq_some_iff.1 hy).1
        omega
      have h2 := hcell i (by omega)
      rw [add_none] at h2
      rw [h2]
      rw [List.getElem?_take_of_lt hi] at hy
      simp [List.getD, hy]
theorem open_slices {H : Type} {enc : TypeId × Value → H} {W : World} {r : Reach} {b0 base : Nat} {sp : Nat → Bool} {held : Bool} {v : Value} {d : DataW H} {p : List MemPlace}
    (hv : Value.okWide Try.prog W r b0 36 v) (h : DataW.Trod enc Try.prog W base sp held 36 v d p) :
    ∃ (A : Option Addr) (c : Nat) (ss : List (List Int)), v = .slice A ss.length c ∧ IsSS W A ss := by
  obtain ⟨a0, len, cap, rfl⟩ := okWide_slice Try.underlying36 hv
  obtain ⟨fuel, hf⟩ := h
  rcases DataW.trod_slice Try.underlying36 hf with ⟨hcs, _⟩ | ⟨a, len', cap', elems, rest, n, _, hcs, _, _, _, _, hlen, hel, _, _⟩
  · simp [Value.cells] at hcs
    obtain ⟨rfl, rfl, rfl⟩ := hcs
    exact ⟨none, 0, [], rfl, .inl rfl⟩
  · simp [Value.cells] at hcs
    obtain ⟨rfl, rfl, rfl⟩ := hcs
    have each : ∀ i, i < len → ∃ (x : List Int) (Ai : Option Addr) (ci : Nat), W.cell? (a.add i) = some (.slice Ai x.length ci) ∧ IsSl W Ai .i64 x := fun i hi => by
      have h1 := hel i hi
      have hi' : i < elems.length := by omega
      rw [List.getElem?_eq_getElem hi', Option.bind_eq_some_iff, cSl, Nat.mul_one] at h1
      obtain ⟨cs1, hcs1, ht1⟩ := h1
      obtain ⟨_, hl1, hcell⟩ := World.cells?_some hcs1
      match cs1, hl1 with
      | [c0], _ =>
        obtain ⟨A, c, xs, rfl, hS⟩ := sl_of ht1
        have := hcell 0 (by omega)
        exact ⟨xs, A, c, by simpa [Addr.add] using this, hS⟩
    by_cases h0 : len = 0
    · exact ⟨some a, cap, [], by rw [h0]; rfl, .inl rfl⟩
    · obtain ⟨b, off, spot⟩ := a
      obtain ⟨_, _, _, hc0, _⟩ := each 0 (by omega)
      have hspot : spot = none := by simpa [Addr.add] using World.cell?_spot hc0
      subst hspot
      have hblk := block_lt_of_cell hc0
      simp only [add_none] at hblk
      simp only [add_none] at each
      obtain ⟨f, hf⟩ : ∃ f : Nat → List Int, ∀ i, i < len → ∃ (Ai : Option Addr) (ci : Nat), W.cell? ⟨b, off + i, none⟩ = some (.slice Ai (f i).length ci) ∧ IsSl W Ai .i64 (f i) := by
        refine ⟨fun i => if h : i < len then Classical.choose (each i h) else [], fun i hi => ?_⟩
        simp only [dif_pos hi]
        exact Classical.choose_spec (each i hi)
      have hxl : ((List.range len).map f).length = len := by simp
      refine ⟨some ⟨b, off, none⟩, cap, (List.range len).map f, by rw [hxl], .inr ⟨b, off, rfl, hblk, fun i c hc => ?_⟩⟩
      have hi : i < len := by rw [← hxl]; exact (List.getElem?_eq_some_iff.1 hc).1
      have : f i = c := by simpa [hi] using hc
      rw [← this]
      exact hf i hi
end Go.Proofs.Ytpmndpbaigcaeaa
