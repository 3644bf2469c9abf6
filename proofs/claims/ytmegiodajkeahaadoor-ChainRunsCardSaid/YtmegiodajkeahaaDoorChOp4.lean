/- Opening a slice of calls that came in. -/
import Derived.Test.YtmegiodajkeahaaDoorChOp3
namespace Go.Proofs.YtmegiodajkeahaaDoor
open Go Go.ChangeShapes Go.WideShapes Go.ChangeAt Go.RowKit
/-- A call, and where its bytes lie. -/
structure Cl where
  kind : Int
  i : Int
  A : Option Addr
  c : Nat
  b : List Int
  lo : Int
  hi : Int
  odd : Int
def clCells (p : Cl) : Array Value := #[.int .i64 p.kind, .int .i64 p.i, .slice p.A p.b.length p.c, .int .i64 p.lo, .int .i64 p.hi, .int .u64 p.odd]
/-- The numbers of a call are such. -/
def clOk (p : Cl) : Prop := (∀ x ∈ p.b, 0 ≤ x ∧ x ≤ 255) ∧ p.b.length ≤ 9223372036854775807 ∧ (-9223372036854775808 ≤ p.i ∧ p.i ≤ 9223372036854775807) ∧ (-9223372036854775808 ≤ p.hi ∧ p.hi ≤ 9223372036854775807) ∧ (0 ≤ p.odd ∧ p.odd ≤ 18446744073709551615)
/-- The slice at A reads as these calls. -/
def IsCl (w : World) (A : Option Addr) (l : List Cl) : Prop :=
  l = [] ∨ ∃ b off, A = some ⟨b, off, none⟩ ∧ b < w.heap.size ∧ ∀ i p, l[i]? = some p → (∀ j v, (clCells p)[j]? = some v → w.cell? ⟨b, off + i * 6 + j, none⟩ = some v) ∧ IsSl w p.A .u8 p.b ∧ clOk p
theorem cIv : Tryd.prog.cellsOf 43 = 2 := by kernel_rfl
theorem cOp : Tryd.prog.cellsOf 45 = 6 := by kernel_rfl
theorem open_cls {H : Type} {enc : TypeId × Value → H} {W : World} {r : Reach} {b0 base : Nat} {sp : Nat → Bool} {held : Bool} {v : Value} {d : DataW H} {p : List MemPlace}
    (hv : Value.okWide Tryd.prog W r b0 33 v) (h : DataW.Trod enc Tryd.prog W base sp held 33 v d p) :
    ∃ (A : Option Addr) (c : Nat) (l : List Cl), v = .slice A l.length c ∧ IsCl W A l ∧ l.length ≤ maxLen := by
  obtain ⟨a0, len0, cap0, rfl⟩ := okWide_slice Tryd.underlying33 hv
  obtain ⟨fuel, hf⟩ := h
  rcases DataW.trod_slice Tryd.underlying33 hf with ⟨hcs, _⟩ | ⟨a, len, cap, elems, rest, n, _, hcs, _, _, hlc, hcm, hlen, hel, _, _⟩
  · simp [Value.cells] at hcs
    obtain ⟨rfl, rfl, rfl⟩ := hcs
    exact ⟨none, 0, [], rfl, .inl rfl, Nat.zero_le _⟩
  · simp [Value.cells] at hcs
    obtain ⟨rfl, rfl, rfl⟩ := hcs
    have each : ∀ i, i < len0 → ∃ q : Cl, (∀ j u, (clCells q)[j]? = some u → W.cell? ((a.add (i * 6)).add j) = some u) ∧ IsSl W q.A .u8 q.b ∧ clOk q := fun i hi => by
      have h1 := hel i hi
      have hi' : i < elems.length := by omega
      rw [List.getElem?_eq_getElem hi', Option.bind_eq_some_iff, cOp] at h1
      obtain ⟨cs1, hcs1, ht1⟩ := h1
      obtain ⟨xs, m, _, _, hl6, hn, hst⟩ := DataW.trod_struct Tryd.underlying45 ht1
      obtain ⟨_, hlcs, hcell⟩ := World.cells?_some hcs1
      match cs1, hlcs with
      | [c0, c1, c2, c3, c4, c5], _ =>
        match xs, hn with
        | [x0, x1, x2, x3, x4], _ =>
          have e0 : DataW.trod enc Tryd.prog W base sp held m 3 (List.take (Tryd.prog.cellsOf 3) (List.drop 0 [c0, c1, c2, c3, c4, c5])) = some x0 := hst 0 _ rfl
          have e1 : DataW.trod enc Tryd.prog W base sp held m 3 (List.take (Tryd.prog.cellsOf 3) (List.drop 1 [c0, c1, c2, c3, c4, c5])) = some x1 := hst 1 _ rfl
          have e2 : DataW.trod enc Tryd.prog W base sp held m 41 (List.take (Tryd.prog.cellsOf 41) (List.drop 2 [c0, c1, c2, c3, c4, c5])) = some x2 := hst 2 _ rfl
          have e3 : DataW.trod enc Tryd.prog W base sp held m 43 (List.take (Tryd.prog.cellsOf 43) (List.drop 3 [c0, c1, c2, c3, c4, c5])) = some x3 := hst 3 _ rfl
          have e4 : DataW.trod enc Tryd.prog W base sp held m 24 (List.take (Tryd.prog.cellsOf 24) (List.drop 5 [c0, c1, c2, c3, c4, c5])) = some x4 := hst 4 _ rfl
          rw [cI] at e0 e1
          rw [cBytes] at e2
          rw [cIv] at e3
          rw [cU64] at e4
          simp only [List.drop_zero, List.take_succ_cons, List.take_zero, List.drop_succ_cons] at e0 e1 e2 e3 e4
          obtain ⟨z0, q0, _, _⟩ := DataW.trod_int Tryd.underlying3 e0
          obtain ⟨z1, q1, _, wf1⟩ := DataW.trod_int Tryd.underlying3 e1
          obtain ⟨A, c, ys, q2, hA, hb, hy⟩ := bytes_of e2
          obtain ⟨xs3, m3, _, _, hl3, hn3, hst3⟩ := DataW.trod_struct Tryd.underlying43 e3
          match xs3, hn3 with
          | [y0, y1], _ =>
            have f0 : DataW.trod enc Tryd.prog W base sp held m3 3 (List.take (Tryd.prog.cellsOf 3) (List.drop 0 [c3, c4])) = some y0 := hst3 0 _ rfl
            have f1 : DataW.trod enc Tryd.prog W base sp held m3 3 (List.take (Tryd.prog.cellsOf 3) (List.drop 1 [c3, c4])) = some y1 := hst3 1 _ rfl
            rw [cI] at f0 f1
            simp only [List.drop_zero, List.take_succ_cons, List.take_zero, List.drop_succ_cons] at f0 f1
            obtain ⟨z3, q3, _, _⟩ := DataW.trod_int Tryd.underlying3 f0
            obtain ⟨z4, q4, _, wf4⟩ := DataW.trod_int Tryd.underlying3 f1
            obtain ⟨z5, q5, _, wf5⟩ := DataW.trod_int Tryd.underlying24 e4
            simp at q0 q1 q3 q4 q5
            subst q0 q1 q2 q3 q4 q5
            refine ⟨⟨z0, z1, A, c, ys, z3, z4, z5⟩, fun j u hj => ?_, hA, hb, hy, bounds_i64 wf1, bounds_i64 wf4, bounds_u64 wf5⟩
            have hj6 : j < 6 := by
              have := (Array.getElem?_eq_some_iff.1 hj).1
              exact this
            have hc := hcell j hj6
            rw [hc]
            unfold clCells at hj
            simpa using hj
    by_cases h0 : len0 = 0
    · subst h0
      exact ⟨some a, cap0, [], rfl, .inl rfl, Nat.zero_le _⟩
    · obtain ⟨b, off, spot⟩ := a
      obtain ⟨q, hc0, _⟩ := each 0 (by omega)
      have hc0 := hc0 0 _ rfl
      have hspot : spot = none := by simpa [Addr.add] using World.cell?_spot hc0
      subst hspot
      have hblk := block_lt_of_cell hc0
      simp only [add_none] at hblk
      simp only [add_none] at each
      let l : List Cl := (List.finRange len0).map fun i => Classical.choose (each i.1 i.2)
      have hll : l.length = len0 := by simp [l]
      refine ⟨some ⟨b, off, none⟩, cap0, l, by rw [hll], .inr ⟨b, off, rfl, hblk, fun i c hc => ?_⟩, by rw [hll]; omega⟩
      have hi : i < len0 := by rw [← hll]; exact (List.getElem?_eq_some_iff.1 hc).1
      have : c = Classical.choose (each i hi) := by
        simp [l, hi] at hc
        exact hc.symm
      rw [this]
      exact Classical.choose_spec (each i hi)
end Go.Proofs.YtmegiodajkeahaaDoor
