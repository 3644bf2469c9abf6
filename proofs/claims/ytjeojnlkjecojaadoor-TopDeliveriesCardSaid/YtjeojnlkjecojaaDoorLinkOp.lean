/- Opening a link, a message, a slice of messages that came in. -/
import Derived.Test.YtjeojnlkjecojaaDoorOpen
import Derived.Test.YtjeojnlkjecojaaDoorRnd
import Derived.Test.YtjeojnlkjecojaaDoorLinkM
import Derived.Deep.Strs
namespace Go.Proofs.YtjeojnlkjecojaaDoor
open Go Go.ChangeShapes Go.WideShapes Go.ChangeAt Go.RowKit
theorem cInt : Tryd.prog.cellsOf 3 = 1 := by kernel_rfl
theorem cPair : Tryd.prog.cellsOf 22 = 2 := by kernel_rfl
theorem cSlice : Tryd.prog.cellsOf 24 = 1 := by kernel_rfl
theorem cChange : Tryd.prog.cellsOf 59 = 3 := by kernel_rfl
theorem cSent : Tryd.prog.cellsOf 41 = 3 := by kernel_rfl
theorem cLink : Tryd.prog.cellsOf 26 = 7 := by kernel_rfl
/-- A slice whose elements are three integers each. -/
theorem open_threes {H : Type} {enc : TypeId × Value → H} {W : World} {base : Nat} {sp : Nat → Bool} {held : Bool} {T E : TypeId} {fuel : Nat} {cs : List Value} {x : DataW H × List MemPlace}
    (hT : Tryd.prog.underlying T = some (.slice E)) (hE : ∃ f0 f1 f2 : Field, Tryd.prog.underlying E = some (.struct #[f0, f1, f2]) ∧ f0.type = 3 ∧ f0.offset = 0 ∧ f1.type = 3 ∧ f1.offset = 1 ∧ f2.type = 3 ∧ f2.offset = 2)
    (hc : Tryd.prog.cellsOf E = 3) (h : DataW.trod enc Tryd.prog W base sp held fuel T cs = some x) :
    ∃ A c xs, cs = [.slice A xs.length c] ∧ IsCh W A xs := by
  rcases DataW.trod_slice hT h with ⟨hcs, _⟩ | ⟨a, len, cap, elems, rest, n, _, hcs, _, _, _, _, hlen, hel, _, _⟩
  · exact ⟨none, 0, [], hcs, .inl rfl⟩
  · obtain ⟨f0, f1, f2, hE, t0, o0, t1, o1, t2, o2⟩ := hE
    have each : ∀ i, i < len → ∃ c : Pl.Chg, W.cell? (a.add (i * 3)) = some (.int .i64 c.1) ∧ W.cell? ((a.add (i * 3)).add 1) = some (.int .i64 c.2.1) ∧ W.cell? ((a.add (i * 3)).add 2) = some (.int .i64 c.2.2) := fun i hi => by
      have h1 := hel i hi
      have hi' : i < elems.length := by omega
      rw [List.getElem?_eq_getElem hi', Option.bind_eq_some_iff, hc] at h1
      obtain ⟨cs1, hcs1, ht1⟩ := h1
      obtain ⟨y0, y1, y2, m, _, hl3, h0, h1, h2⟩ := Go.Deep.trod_struct3 hE ht1
      rw [t0, o0, cInt] at h0
      rw [t1, o1, cInt] at h1
      rw [t2, o2, cInt] at h2
      rw [hc] at hl3
      obtain ⟨_, _, hcell⟩ := World.cells?_some hcs1
      match cs1, hl3 with
      | [c0, c1, c2], _ =>
        simp only [List.drop_zero, List.take_succ_cons, List.take_zero, List.drop_succ_cons] at h0 h1 h2
        obtain ⟨m0, e0, _, _⟩ := DataW.trod_int Tryd.underlying3 h0
        obtain ⟨m1, e1, _, _⟩ := DataW.trod_int Tryd.underlying3 h1
        obtain ⟨m2, e2, _, _⟩ := DataW.trod_int Tryd.underlying3 h2
        simp at e0 e1 e2
        subst e0 e1 e2
        refine ⟨(m0, m1, m2), ?_, ?_, ?_⟩
        · have := hcell 0 (by omega)
          simpa [Addr.add] using this
        · exact hcell 1 (by omega)
        · exact hcell 2 (by omega)
    by_cases h0 : len = 0
    · exact ⟨some a, cap, [], by rw [hcs, h0]; rfl, .inl rfl⟩
    · obtain ⟨b, off, spot⟩ := a
      obtain ⟨c, hc0, _, _⟩ := each 0 (by omega)
      have hspot : spot = none := by simpa [Addr.add] using World.cell?_spot hc0
      subst hspot
      have hblk := block_lt_of_cell hc0
      simp only [add_none] at hblk
      simp only [add_none] at each
      let xs : List Pl.Chg := (List.finRange len).map fun i => Classical.choose (each i.1 i.2)
      have hxl : xs.length = len := by simp [xs]
      refine ⟨some ⟨b, off, none⟩, cap, xs, by rw [hcs, hxl], .inr ⟨b, off, rfl, hblk, fun i c hc => ?_⟩⟩
      have hi : i < len := by rw [← hxl]; exact (List.getElem?_eq_some_iff.1 hc).1
      have : c = Classical.choose (each i hi) := by
        simp [xs, hi] at hc
        exact hc.symm
      rw [this]
      exact Classical.choose_spec (each i hi)
theorem pair_of {H : Type} {enc : TypeId × Value → H} {W : World} {base : Nat} {sp : Nat → Bool} {held : Bool} {m : Nat} {c0 c1 : Value} {x : DataW H × List MemPlace}
    (h : DataW.trod enc Tryd.prog W base sp held m 22 [c0, c1] = some x) : ∃ a b : Int, c0 = .int .i64 a ∧ c1 = .int .i64 b := by
  obtain ⟨xs, m, _, _, _, hn, hel⟩ := DataW.trod_array Tryd.underlying22 h
  have e0 := hel 0 (by decide)
  have e1 := hel 1 (by decide)
  rw [cInt] at e0 e1
  match xs, hn with
  | [x0, x1], _ =>
    simp only [List.drop_zero, Nat.zero_mul, Nat.one_mul, List.take_succ_cons, List.take_zero, List.drop_succ_cons, List.getElem?_cons_zero, List.getElem?_cons_succ] at e0 e1
    obtain ⟨a, q0, _, _⟩ := DataW.trod_int Tryd.underlying3 e0
    obtain ⟨b, q1, _, _⟩ := DataW.trod_int Tryd.underlying3 e1
    simp at q0 q1
    exact ⟨a, b, q0, q1⟩
theorem open_link {H : Type} {enc : TypeId × Value → H} {W : World} {r : Reach} {b0 base : Nat} {sp : Nat → Bool} {held : Bool} {v : Value} {d : DataW H} {p : List MemPlace}
    (hv : Value.okWide Tryd.prog W r b0 26 v) (h : DataW.Trod enc Tryd.prog W base sp held 26 v d p) :
    ∃ (l : Pl.Lk) (A : Option Addr) (c : Nat), v = .agg (lkCells l A l.ch.length c) ∧ IsCh W A l.ch := by
  obtain ⟨cs, rfl, hsz, _⟩ : ∃ cs, v = .agg cs ∧ cs.size = Tryd.prog.cellsOf 26 ∧ Row.okWide Tryd.prog W r b0 26 cs := by
    simpa [Value.okWide, Tryd.underlying26] using hv
  rw [cLink] at hsz
  obtain ⟨l⟩ := cs
  match l, hsz with
  | [c0, c1, c2, c3, c4, c5, c6], _ =>
    obtain ⟨fuel, hf⟩ := h
    obtain ⟨xs, m, _, _, _, hn, hel⟩ := DataW.trod_struct Tryd.underlying26 hf
    match xs, hn with
    | [x0, x1, x2, x3, x4], _ =>
      have e0 : DataW.trod enc Tryd.prog W base sp held m 22 (List.take (Tryd.prog.cellsOf 22) (List.drop 0 [c0, c1, c2, c3, c4, c5, c6])) = some x0 := hel 0 _ rfl
      have e1 : DataW.trod enc Tryd.prog W base sp held m 22 (List.take (Tryd.prog.cellsOf 22) (List.drop 2 [c0, c1, c2, c3, c4, c5, c6])) = some x1 := hel 1 _ rfl
      have e2 : DataW.trod enc Tryd.prog W base sp held m 3 (List.take (Tryd.prog.cellsOf 3) (List.drop 4 [c0, c1, c2, c3, c4, c5, c6])) = some x2 := hel 2 _ rfl
      have e3 : DataW.trod enc Tryd.prog W base sp held m 23 (List.take (Tryd.prog.cellsOf 23) (List.drop 5 [c0, c1, c2, c3, c4, c5, c6])) = some x3 := hel 3 _ rfl
      have e4 : DataW.trod enc Tryd.prog W base sp held m 24 (List.take (Tryd.prog.cellsOf 24) (List.drop 6 [c0, c1, c2, c3, c4, c5, c6])) = some x4 := hel 4 _ rfl
      clear hel hf hv
      rw [cPair] at e0 e1
      rw [cInt] at e2
      rw [cU64] at e3
      rw [cSlice] at e4
      simp only [List.drop_zero, List.take_succ_cons, List.take_zero, List.drop_succ_cons] at e0 e1 e2 e3 e4
      obtain ⟨a0, a1, rfl, rfl⟩ := pair_of e0
      obtain ⟨b0, b1, rfl, rfl⟩ := pair_of e1
      obtain ⟨s0, q2, _, _⟩ := DataW.trod_int Tryd.underlying3 e2
      obtain ⟨s1, q3, _, _⟩ := DataW.trod_int Tryd.underlying23 e3
      obtain ⟨A, c, xs, q4, hxs⟩ := open_threes Tryd.underlying24 ⟨_, _, _, Tryd.underlying59, rfl, rfl, rfl, rfl, rfl, rfl⟩ cChange e4
      simp at q2 q3 q4
      subst q2 q3 q4
      exact ⟨⟨a0, a1, b0, b1, s0, s1, xs⟩, A, c, rfl, hxs⟩
theorem open_sent {H : Type} {enc : TypeId × Value → H} {W : World} {r : Reach} {b0 base : Nat} {sp : Nat → Bool} {held : Bool} {v : Value} {d : DataW H} {p : List MemPlace}
    (hv : Value.okWide Tryd.prog W r b0 41 v) (h : DataW.Trod enc Tryd.prog W base sp held 41 v d p) :
    ∃ (x y z : Int), v = .agg #[.int .i64 x, .int .i64 y, .int .i64 z] ∧ True := by
  obtain ⟨cs, rfl, hsz, _⟩ : ∃ cs, v = .agg cs ∧ cs.size = Tryd.prog.cellsOf 41 ∧ Row.okWide Tryd.prog W r b0 41 cs := by
    simpa [Value.okWide, Tryd.underlying41] using hv
  rw [cSent] at hsz
  obtain ⟨l⟩ := cs
  match l, hsz with
  | [c0, c1, c2], _ =>
    obtain ⟨fuel, hf⟩ := h
    obtain ⟨y0, y1, y2, m, _, _, h0, h1, h2⟩ := Go.Deep.trod_struct3 Tryd.underlying41 hf
    have e0 : DataW.trod enc Tryd.prog W base sp held m 3 (List.take (Tryd.prog.cellsOf 3) (List.drop 0 [c0, c1, c2])) = some y0 := h0
    have e1 : DataW.trod enc Tryd.prog W base sp held m 3 (List.take (Tryd.prog.cellsOf 3) (List.drop 1 [c0, c1, c2])) = some y1 := h1
    have e2 : DataW.trod enc Tryd.prog W base sp held m 3 (List.take (Tryd.prog.cellsOf 3) (List.drop 2 [c0, c1, c2])) = some y2 := h2
    rw [cInt] at e0 e1 e2
    simp only [List.drop_zero, List.take_succ_cons, List.take_zero, List.drop_succ_cons] at e0 e1 e2
    obtain ⟨a, q0, _, _⟩ := DataW.trod_int Tryd.underlying3 e0
    obtain ⟨b, q1, _, _⟩ := DataW.trod_int Tryd.underlying3 e1
    obtain ⟨c, q2, _, _⟩ := DataW.trod_int Tryd.underlying3 e2
    simp at q0 q1 q2
    subst q0 q1 q2
    exact ⟨a, b, c, rfl, trivial⟩
theorem open_sents {H : Type} {enc : TypeId × Value → H} {W : World} {r : Reach} {b0 base : Nat} {sp : Nat → Bool} {held : Bool} {v : Value} {d : DataW H} {p : List MemPlace}
    (hv : Value.okWide Tryd.prog W r b0 37 v) (h : DataW.Trod enc Tryd.prog W base sp held 37 v d p) :
    ∃ (A : Option Addr) (c : Nat) (xs : List Pl.Chg), v = .slice A xs.length c ∧ IsCh W A xs := by
  obtain ⟨a0, len, cap, rfl⟩ := okWide_slice Tryd.underlying37 hv
  obtain ⟨fuel, hf⟩ := h
  obtain ⟨A, c, xs, q, hxs⟩ := open_threes Tryd.underlying37 ⟨_, _, _, Tryd.underlying41, rfl, rfl, rfl, rfl, rfl, rfl⟩ cSent hf
  simp [Value.cells] at q
  obtain ⟨rfl, rfl, rfl⟩ := q
  exact ⟨_, _, xs, rfl, hxs⟩
end Go.Proofs.YtjeojnlkjecojaaDoor
