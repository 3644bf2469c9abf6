/- Opening a slice of packets that came in. -/
import Derived.Test.YtmegiodajkeahaaDoorChT1
import Derived.Test.YtmegiodajkeahaaDoorChC3
import Derived.Deep.Strs
namespace Go.Proofs.YtmegiodajkeahaaDoor
open Go Go.ChangeShapes Go.WideShapes Go.ChangeAt Go.RowKit
theorem cU8 : Tryd.prog.cellsOf 5 = 1 := by kernel_rfl
theorem cBytes : Tryd.prog.cellsOf 41 = 1 := by kernel_rfl
theorem cBool : Tryd.prog.cellsOf 4 = 1 := by kernel_rfl
theorem cPk : Tryd.prog.cellsOf 67 = 6 := by kernel_rfl
theorem bytes_of {H : Type} {enc : TypeId × Value → H} {W : World} {base : Nat} {sp : Nat → Bool} {held : Bool} {m : Nat} {v : Value} {x : DataW H × List MemPlace}
    (h : DataW.trod enc Tryd.prog W base sp held m 41 [v] = some x) : ∃ A c xs, v = .slice A xs.length c ∧ IsSl W A .u8 xs ∧ (∀ x ∈ xs, 0 ≤ x ∧ x ≤ 255) ∧ xs.length ≤ 9223372036854775807 := by
  rcases open_ints Tryd.underlying41 Tryd.underlying5 cU8 h with ⟨hcs, _⟩ | ⟨y, len, cap, zs, hcs, _, hl, hm, hz, _, hcell, hwz⟩
  · simp at hcs
    exact ⟨none, 0, [], hcs, .inl rfl, (fun _ h => by cases h), Nat.zero_le _⟩
  · simp at hcs
    have hz : len ≤ zs.length := by rw [hz]; split <;> omega
    have hlen : (zs.take len).length = len := by simp; omega
    refine ⟨some y, cap, zs.take len, by rw [hlen]; exact hcs, ?_, fun z hz => bounds_u8 (hwz z (List.mem_of_mem_take hz)), by rw [hlen]; unfold maxLen at hm; omega⟩
    by_cases h0 : len = 0
    · left; rw [h0]; rfl
    · right
      obtain ⟨b, off, spot⟩ := y
      have h1 := hcell 0 (by omega)
      have hspot : spot = none := by simpa [Addr.add] using World.cell?_spot h1
      subst hspot
      refine ⟨b, off, rfl, by have := block_lt_of_cell h1; simpa [add_none] using this, fun i z hy => ?_⟩
      have hi : i < len := by
        have := (List.getElem?_eq_some_iff.1 hy).1
        omega
      have h2 := hcell i (by omega)
      rw [add_none] at h2
      rw [h2]
      rw [List.getElem?_take_of_lt hi] at hy
      simp [List.getD, hy]
theorem open_pks {H : Type} {enc : TypeId × Value → H} {W : World} {r : Reach} {b0 base : Nat} {sp : Nat → Bool} {held : Bool} {v : Value} {d : DataW H} {p : List MemPlace}
    (hv : Value.okWide Tryd.prog W r b0 65 v) (h : DataW.Trod enc Tryd.prog W base sp held 65 v d p) :
    ∃ (A : Option Addr) (c : Nat) (l : List Pk), v = .slice A l.length c ∧ IsPk W A l ∧ l.length ≤ maxLen := by
  obtain ⟨a0, len0, cap0, rfl⟩ := okWide_slice Tryd.underlying65 hv
  obtain ⟨fuel, hf⟩ := h
  rcases DataW.trod_slice Tryd.underlying65 hf with ⟨hcs, _⟩ | ⟨a, len, cap, elems, rest, n, _, hcs, _, _, hlc, hcm, hlen, hel, _, _⟩
  · simp [Value.cells] at hcs
    obtain ⟨rfl, rfl, rfl⟩ := hcs
    exact ⟨none, 0, [], rfl, .inl rfl, Nat.zero_le _⟩
  · simp [Value.cells] at hcs
    obtain ⟨rfl, rfl, rfl⟩ := hcs
    have each : ∀ i, i < len0 → ∃ q : Pk, (∀ j u, (pkCells q)[j]? = some u → W.cell? ((a.add (i * 6)).add j) = some u) ∧ IsSl W q.A .u8 q.b ∧ (∀ x ∈ q.b, 0 ≤ x ∧ x ≤ 255) ∧ q.b.length ≤ 9223372036854775807 := fun i hi => by
      have h1 := hel i hi
      have hi' : i < elems.length := by omega
      rw [List.getElem?_eq_getElem hi', Option.bind_eq_some_iff, cPk] at h1
      obtain ⟨cs1, hcs1, ht1⟩ := h1
      obtain ⟨xs, m, _, _, hl6, hn, hst⟩ := DataW.trod_struct Tryd.underlying67 ht1
      obtain ⟨_, hlcs, hcell⟩ := World.cells?_some hcs1
      match cs1, hlcs with
      | [c0, c1, c2, c3, c4, c5], _ =>
        match xs, hn with
        | [x0, x1, x2, x3, x4, x5], _ =>
          have e0 : DataW.trod enc Tryd.prog W base sp held m 3 (List.take (Tryd.prog.cellsOf 3) (List.drop 0 [c0, c1, c2, c3, c4, c5])) = some x0 := hst 0 _ rfl
          have e1 : DataW.trod enc Tryd.prog W base sp held m 3 (List.take (Tryd.prog.cellsOf 3) (List.drop 1 [c0, c1, c2, c3, c4, c5])) = some x1 := hst 1 _ rfl
          have e2 : DataW.trod enc Tryd.prog W base sp held m 3 (List.take (Tryd.prog.cellsOf 3) (List.drop 2 [c0, c1, c2, c3, c4, c5])) = some x2 := hst 2 _ rfl
          have e3 : DataW.trod enc Tryd.prog W base sp held m 41 (List.take (Tryd.prog.cellsOf 41) (List.drop 3 [c0, c1, c2, c3, c4, c5])) = some x3 := hst 3 _ rfl
          have e4 : DataW.trod enc Tryd.prog W base sp held m 4 (List.take (Tryd.prog.cellsOf 4) (List.drop 4 [c0, c1, c2, c3, c4, c5])) = some x4 := hst 4 _ rfl
          have e5 : DataW.trod enc Tryd.prog W base sp held m 24 (List.take (Tryd.prog.cellsOf 24) (List.drop 5 [c0, c1, c2, c3, c4, c5])) = some x5 := hst 5 _ rfl
          rw [cI] at e0 e1 e2
          rw [cBytes] at e3
          rw [cBool] at e4
          rw [cU64] at e5
          simp only [List.drop_zero, List.take_succ_cons, List.take_zero, List.drop_succ_cons] at e0 e1 e2 e3 e4 e5
          obtain ⟨z0, q0, _, _⟩ := DataW.trod_int Tryd.underlying3 e0
          obtain ⟨z1, q1, _, _⟩ := DataW.trod_int Tryd.underlying3 e1
          obtain ⟨z2, q2, _, _⟩ := DataW.trod_int Tryd.underlying3 e2
          obtain ⟨A, c, ys, q3, hA, hb, hy⟩ := bytes_of e3
          obtain ⟨z4, q4, _⟩ := DataW.trod_bool Tryd.underlying4 e4
          obtain ⟨z5, q5, _, _⟩ := DataW.trod_int Tryd.underlying24 e5
          simp at q0 q1 q2 q4 q5
          subst q0 q1 q2 q3 q4 q5
          refine ⟨⟨z0, z1, z2, A, c, ys, z4, z5⟩, fun j u hj => ?_, hA, hb, hy⟩
          have hj6 : j < 6 := by
            have := (Array.getElem?_eq_some_iff.1 hj).1
            exact this
          have hc := hcell j hj6
          rw [hc]
          unfold pkCells at hj
          simpa using hj
    by_cases h0 : len0 = 0
    · subst h0
      exact ⟨some a, cap0, [], rfl, .inl rfl, Nat.zero_le _⟩
    · obtain ⟨b, off, spot⟩ := a
      obtain ⟨q, hc0, _⟩ := each 0 (by omega)
      have hc0 := hc0 0 _ rfl
      have hspot : spot = none := by simpa [Addr.add] using World.cell?_spot hc0
      subst hspot
      have hblk := block_lt_of_cell hc0
      simp only [add_none] at hblk
      simp only [add_none] at each
      let l : List Pk := (List.finRange len0).map fun i => Classical.choose (each i.1 i.2)
      have hll : l.length = len0 := by simp [l]
      refine ⟨some ⟨b, off, none⟩, cap0, l, by rw [hll], .inr ⟨b, off, rfl, hblk, fun i c hc => ?_⟩, by rw [hll]; omega⟩
      have hi : i < len0 := by rw [← hll]; exact (List.getElem?_eq_some_iff.1 hc).1
      have : c = Classical.choose (each i hi) := by
        simp [l, hi] at hc
        exact hc.symm
      rw [this]
      exact Classical.choose_spec (each i hi)
end Go.Proofs.YtmegiodajkeahaaDoor
