/- Opening a slice of deeds that came in: four integers each. -/
import Derived.Test.YtdfabmjkahhlmaaDoorPlS
namespace Go.Proofs.YtdfabmjkahhlmaaDoor
open Go Go.ChangeShapes Go.WideShapes Go.ChangeAt Go.RowKit
/-- A deed. -/
structure Dd where
  on : Int
  kind : Int
  a : Int
  b : Int
def ddCells (p : Dd) : Array Value := #[.int .i64 p.on, .int .i64 p.kind, .int .i64 p.a, .int .i64 p.b]
def ddOk (p : Dd) : Prop := (-9223372036854775808 ≤ p.on ∧ p.on ≤ 9223372036854775807) ∧ (-9223372036854775808 ≤ p.kind ∧ p.kind ≤ 9223372036854775807) ∧ (-9223372036854775808 ≤ p.a ∧ p.a ≤ 9223372036854775807) ∧ (-9223372036854775808 ≤ p.b ∧ p.b ≤ 9223372036854775807)
def IsDd (w : World) (A : Option Addr) (l : List Dd) : Prop :=
  l = [] ∨ ∃ b off, A = some ⟨b, off, none⟩ ∧ b < w.heap.size ∧ ∀ i p, l[i]? = some p → (∀ j v, (ddCells p)[j]? = some v → w.cell? ⟨b, off + i * 4 + j, none⟩ = some v) ∧ ddOk p
theorem cI : Tryd.prog.cellsOf 3 = 1 := by kernel_rfl
theorem cDd : Tryd.prog.cellsOf 46 = 4 := by kernel_rfl
theorem open_dds {H : Type} {enc : TypeId × Value → H} {W : World} {r : Reach} {b0 base : Nat} {sp : Nat → Bool} {held : Bool} {v : Value} {d : DataW H} {p : List MemPlace}
    (hv : Value.okWide Tryd.prog W r b0 40 v) (h : DataW.Trod enc Tryd.prog W base sp held 40 v d p) :
    ∃ (A : Option Addr) (c : Nat) (l : List Dd), v = .slice A l.length c ∧ IsDd W A l ∧ l.length ≤ maxLen ∧ l.length ≤ c ∧ (A = none → c = 0) := by
  obtain ⟨a0, len0, cap0, rfl⟩ := okWide_slice Tryd.underlying40 hv
  obtain ⟨fuel, hf⟩ := h
  rcases DataW.trod_slice Tryd.underlying40 hf with ⟨hcs, _⟩ | ⟨a, len, cap, elems, rest, n, _, hcs, _, _, hlc, hcm, hlen, hel, _, _⟩
  · simp [Value.cells] at hcs
    obtain ⟨rfl, rfl, rfl⟩ := hcs
    exact ⟨none, 0, [], rfl, .inl rfl, Nat.zero_le _, Nat.zero_le _, fun _ => rfl⟩
  · simp [Value.cells] at hcs
    obtain ⟨rfl, rfl, rfl⟩ := hcs
    have each : ∀ i, i < len0 → ∃ q : Dd, (∀ j u, (ddCells q)[j]? = some u → W.cell? ((a.add (i * 4)).add j) = some u) ∧ ddOk q := fun i hi => by
      have h1 := hel i hi
      have hi' : i < elems.length := by omega
      rw [List.getElem?_eq_getElem hi', Option.bind_eq_some_iff, cDd] at h1
      obtain ⟨cs1, hcs1, ht1⟩ := h1
      obtain ⟨xs, m, _, _, hl6, hn, hst⟩ := DataW.trod_struct Tryd.underlying46 ht1
      obtain ⟨_, hlcs, hcell⟩ := World.cells?_some hcs1
      match cs1, hlcs with
      | [c0, c1, c2, c3], _ =>
        match xs, hn with
        | [x0, x1, x2, x3], _ =>
          have e0 : DataW.trod enc Tryd.prog W base sp held m 3 (List.take (Tryd.prog.cellsOf 3) (List.drop 0 [c0, c1, c2, c3])) = some x0 := hst 0 _ rfl
          have e1 : DataW.trod enc Tryd.prog W base sp held m 3 (List.take (Tryd.prog.cellsOf 3) (List.drop 1 [c0, c1, c2, c3])) = some x1 := hst 1 _ rfl
          have e2 : DataW.trod enc Tryd.prog W base sp held m 3 (List.take (Tryd.prog.cellsOf 3) (List.drop 2 [c0, c1, c2, c3])) = some x2 := hst 2 _ rfl
          have e3 : DataW.trod enc Tryd.prog W base sp held m 3 (List.take (Tryd.prog.cellsOf 3) (List.drop 3 [c0, c1, c2, c3])) = some x3 := hst 3 _ rfl
          rw [cI] at e0 e1 e2 e3
          simp only [List.drop_zero, List.take_succ_cons, List.take_zero, List.drop_succ_cons] at e0 e1 e2 e3
          obtain ⟨z0, q0, _, w0⟩ := DataW.trod_int Tryd.underlying3 e0
          obtain ⟨z1, q1, _, w1⟩ := DataW.trod_int Tryd.underlying3 e1
          obtain ⟨z2, q2, _, w2⟩ := DataW.trod_int Tryd.underlying3 e2
          obtain ⟨z3, q3, _, w3⟩ := DataW.trod_int Tryd.underlying3 e3
          simp at q0 q1 q2 q3
          subst q0 q1 q2 q3
          refine ⟨⟨z0, z1, z2, z3⟩, fun j u hj => ?_, bounds_i64 w0, bounds_i64 w1, bounds_i64 w2, bounds_i64 w3⟩
          have hj6 : j < 4 := by
            have := (Array.getElem?_eq_some_iff.1 hj).1
            exact this
          have hc := hcell j hj6
          rw [hc]
          unfold ddCells at hj
          simpa using hj
    by_cases h0 : len0 = 0
    · subst h0
      exact ⟨some a, cap0, [], rfl, .inl rfl, Nat.zero_le _, Nat.zero_le _, fun h => by cases h⟩
    · obtain ⟨b, off, spot⟩ := a
      obtain ⟨q, hc0, _⟩ := each 0 (by omega)
      have hc0 := hc0 0 _ rfl
      have hspot : spot = none := by simpa [Addr.add] using World.cell?_spot hc0
      subst hspot
      have hblk := block_lt_of_cell hc0
      simp only [add_none] at hblk
      simp only [add_none] at each
      let l : List Dd := (List.finRange len0).map fun i => Classical.choose (each i.1 i.2)
      have hll : l.length = len0 := by simp [l]
      refine ⟨some ⟨b, off, none⟩, cap0, l, by rw [hll], .inr ⟨b, off, rfl, hblk, fun i c hc => ?_⟩, by rw [hll]; omega, by rw [hll]; exact hlc, fun h => by cases h⟩
      have hi : i < len0 := by rw [← hll]; exact (List.getElem?_eq_some_iff.1 hc).1
      have : c = Classical.choose (each i hi) := by
        simp [l, hi] at hc
        exact hc.symm
      rw [this]
      exact Classical.choose_spec (each i hi)
end Go.Proofs.YtdfabmjkahhlmaaDoor
