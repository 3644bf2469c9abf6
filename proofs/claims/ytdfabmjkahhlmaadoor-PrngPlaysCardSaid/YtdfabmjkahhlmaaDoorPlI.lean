/- What PrngPlays keeps from round to round. -/
import Derived.Test.YtdfabmjkahhlmaaDoorPlO
namespace Go.Proofs.YtdfabmjkahhlmaaDoor
open Go Go.RowKit
theorem IsDd.next {w w' : World} {A : Option Addr} {l : List Dd} (h : IsDd w A l) (hb : Below w.heap.size w w') : IsDd w' A l := by
  rcases h with h | ⟨b, off, h1, h2, h3⟩
  · exact .inl h
  · exact .inr ⟨b, off, h1, Nat.lt_of_lt_of_le h2 hb.size, fun i p hi => ⟨fun j v hj => (hb.cell (p := ⟨b, off + i * 4 + j, none⟩) h2).trans ((h3 i p hi).1 j v hj), (h3 i p hi).2⟩⟩
structure PlI (W : World) (sv tv : Value) (w : World) (ss ts : List Nat) (d : List (Int × Nat)) (k : Nat) : Prop where
  a : Srcs w 53 W.heap.size ss d
  b : Srcs w 62 W.heap.size ts d
  s : Ptrs w W.heap.size 27 sv ss
  t : Ptrs w W.heap.size 42 tv ts
  bel : Below W.heap.size W w
  small : ∀ (i : Nat) (p : Int × Nat), d[i]? = some p → p.2 ≤ 5000 * k
  pos : 0 < d.length
  ln : d.length ≤ k + 1
theorem PlI.next {W w w' : World} {sv tv : Value} {ss ts : List Nat} {d : List (Int × Nat)} {k : Nat} (h : PlI W sv tv w ss ts d k) (hb : Below w.heap.size w w') : PlI W sv tv w' ss ts d k :=
  ⟨h.a.next hb, h.b.next hb, h.s.next hb, h.t.next hb, bstep h.bel hb, h.small, h.pos, h.ln⟩
theorem PlI.more {W w : World} {sv tv : Value} {ss ts : List Nat} {d : List (Int × Nat)} {k : Nat} (h : PlI W sv tv w ss ts d k) : PlI W sv tv w ss ts d (k + 1) :=
  ⟨h.a, h.b, h.s, h.t, h.bel, fun i p hp => by have := h.small i p hp; omega, h.pos, by have := h.ln; omega⟩
/-- One call on a source of the program, and one on the reference's. -/
theorem PlI.step {W w w1 w2 : World} {sv tv : Value} {ss ts : List Nat} {d : List (Int × Nat)} {k j g h n m : Nat} {sd : Int} (I : PlI W sv tv w ss ts d k) (hg : ss[j]? = some g) (hh : ts[j]? = some h) (hd : d[j]? = some (sd, n))
    (o1 : Only g w w1) (s1 : Src w1 g 53 sd m) (o2 : Only h w1 w2) (s2 : Src w2 h 62 sd m) (hm : m ≤ n + 5000) : PlI W sv tv w2 ss ts (d.set j (sd, m)) (k + 1) := by
  have a0 := I.a.src j g _ hg hd
  have b0 := I.b.src j h _ hh hd
  have a1 := I.a.own hg o1 s1
  have b1 := I.b.far o1 a0 (by decide)
  have b2 : Bk w1 h 62 _ := b1.src j h _ hh hd
  refine ⟨a1.far o2 b2 (by decide), b1.own hh o2 s2, (I.s.far o1 a0 (by decide)).far o2 b2 (by decide), (I.t.far o1 a0 (by decide)).far o2 b2 (by decide), ?_, ?_, by rw [List.length_set]; exact I.pos, by rw [List.length_set]; have := I.ln; omega⟩
  · have hg1 := I.a.ge g (List.mem_of_getElem? hg)
    have hh1 := I.b.ge h (List.mem_of_getElem? hh)
    have e1 := o1.below I.bel hg1 I.bel.size
    exact o2.below e1 hh1 e1.size
  · intro i p hp
    rw [List.getElem?_set] at hp
    have hn := I.small j _ hd
    split at hp
    · split at hp
      · obtain rfl : (sd, m) = p := by injection hp
        simp only at hn ⊢
        omega
      · cases hp
    · have := I.small i p hp
      omega
theorem PlI.cells {W w : World} {sv tv : Value} {ss ts : List Nat} {d : List (Int × Nat)} {k : Nat} (I : PlI W sv tv w ss ts d k) : ∃ bS cS bT cT, sv = .slice (some ⟨bS, 0, none⟩) d.length cS ∧ tv = .slice (some ⟨bT, 0, none⟩) d.length cT ∧ bS < w.heap.size ∧ bT < w.heap.size ∧
    ∀ j, j < d.length → ∃ g h sd n, ss[j]? = some g ∧ ts[j]? = some h ∧ d[j]? = some (sd, n) ∧ w.cell? ⟨bS, j, none⟩ = some (pt g) ∧ w.cell? ⟨bT, j, none⟩ = some (pt h) ∧ Src w g 53 sd n ∧ Src w h 62 sd n ∧ W.heap.size ≤ g ∧ W.heap.size ≤ h ∧ n ≤ 5000 * k ∧ g ≠ bS ∧ g ≠ bT ∧ h ≠ bS ∧ h ≠ bT ∧ g ≠ h := by
  have ha := I.a.len
  have hb := I.b.len
  obtain ⟨bS, cS, e1, _, l1, c1⟩ := I.s.form (by have := I.pos; omega)
  obtain ⟨bT, cT, e2, _, l2, c2⟩ := I.t.form (by have := I.pos; omega)
  refine ⟨bS, cS, bT, cT, by rw [e1, ha], by rw [e2, hb], l1, l2, fun j hj => ?_⟩
  obtain ⟨g, hg⟩ : ∃ g, ss[j]? = some g := ⟨ss[j]'(by omega), List.getElem?_eq_getElem _⟩
  obtain ⟨h, hh⟩ : ∃ h, ts[j]? = some h := ⟨ts[j]'(by omega), List.getElem?_eq_getElem _⟩
  obtain ⟨⟨sd, n⟩, hd⟩ : ∃ p, d[j]? = some p := ⟨d[j]'(by omega), List.getElem?_eq_getElem _⟩
  have s1 := I.a.src j g _ hg hd
  have s2 := I.b.src j h _ hh hd
  have k1 := I.s.ne s1 (by decide) bS (by rw [e1]; rfl)
  have k2 := I.s.ne s2 (by decide) bS (by rw [e1]; rfl)
  have k3 := I.t.ne s1 (by decide) bT (by rw [e2]; rfl)
  have k4 := I.t.ne s2 (by decide) bT (by rw [e2]; rfl)
  refine ⟨g, h, sd, n, hg, hh, hd, c1 j g hg, c2 j h hh, s1, s2, I.a.ge g (List.mem_of_getElem? hg), I.b.ge h (List.mem_of_getElem? hh), I.small j _ hd, fun e => k1 (by rw [e]), fun e => k3 (by rw [e]), fun e => k2 (by rw [e]), fun e => k4 (by rw [e]), fun e => ?_⟩
  subst e
  have e3 := s1.symm.trans s2
  simp at e3
/-- Between the two calls. -/
theorem Only.cell_ {g : Nat} {w w' : World} (h : Only g w w') {p : Addr} (hp : p.block < w.heap.size) (hne : p.block ≠ g) : w'.cell? p = w.cell? p :=
  World.cell?_of_block (w := w) (h.block p.block hp (fun e => hne (by injection e)))
end Go.Proofs.YtdfabmjkahhlmaaDoor
