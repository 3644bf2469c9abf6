/- A fork: the steps of the region that makes one more source on both sides. -/
import Derived.Test.YtdfabmjkahhlmaaDoorPlC
import Derived.Deep.AppendLies
namespace Go.Proofs.YtdfabmjkahhlmaaDoor
open Go Go.RowKit
theorem Ptrs.blk {w : World} {B : Nat} {e : TypeId} {v : Value} {ss : List Nat} (h : Ptrs w B e v ss) {k : Nat} (hk : v.ownBlock = some k) : B ≤ k ∧ k < w.heap.size ∧ ∃ cs, Bk w k e cs := by
  rcases h.2 with ⟨rfl, _⟩ | ⟨g', cap, cur, rfl, hB, hh, _⟩
  · cases hk
  · obtain rfl : g' = k := by simpa [Value.ownBlock] using hk
    exact ⟨hB, Bk.lt (t := e) hh, cur, hh⟩
structure Pl2 (W : World) (sv tv : Value) (w : World) (ss ss' ts ts' : List Nat) (da db : List (Int × Nat)) : Prop where
  a : Srcs w 53 W.heap.size ss' da
  b : Srcs w 62 W.heap.size ts' db
  s : Ptrs w W.heap.size 27 sv ss
  t : Ptrs w W.heap.size 42 tv ts
  bel : Below W.heap.size W w
section
variable {W w w' : World} {sv tv v' : Value} {ss ss' ts ts' : List Nat} {da db : List (Int × Nat)}
theorem Pl2.next (h : Pl2 W sv tv w ss ss' ts ts' da db) (hb : Below w.heap.size w w') : Pl2 W sv tv w' ss ss' ts ts' da db := ⟨h.a.next hb, h.b.next hb, h.s.next hb, h.t.next hb, bstep h.bel hb⟩
theorem Pl2.fork1 {j g f m : Nat} {sd ms : Int} (h : Pl2 W sv tv w ss ss ts ts' da db) (hg : ss[j]? = some g) (ho : Only g w w') (sg : Src w' g 53 sd m) (sf : Src w' f 53 ms 0) (hf : w.heap.size ≤ f) :
    Pl2 W sv tv w' ss (ss ++ [f]) ts ts' (da.set j (sd, m) ++ [(ms, 0)]) db := by
  obtain ⟨p, hp⟩ := h.a.at_ (List.mem_of_getElem? hg)
  refine ⟨(h.a.own hg ho sg).add sf (Nat.le_trans h.bel.size hf) (fun hm => by have := h.a.lt hm; omega), h.b.far ho hp (by decide), h.s.far ho hp (by decide), h.t.far ho hp (by decide), ?_⟩
  exact ho.below h.bel (h.a.ge g (List.mem_of_getElem? hg)) h.bel.size
theorem Pl2.fork2 {j g f m : Nat} {sd ms : Int} (h : Pl2 W sv tv w ss ss' ts ts da db) (hg : ts[j]? = some g) (ho : Only g w w') (sg : Src w' g 62 sd m) (sf : Src w' f 62 ms 0) (hf : w.heap.size ≤ f) :
    Pl2 W sv tv w' ss ss' ts (ts ++ [f]) da (db.set j (sd, m) ++ [(ms, 0)]) := by
  obtain ⟨p, hp⟩ := h.b.at_ (List.mem_of_getElem? hg)
  refine ⟨h.a.far ho hp (by decide), (h.b.own hg ho sg).add sf (Nat.le_trans h.bel.size hf) (fun hm => by have := h.b.lt hm; omega), h.s.far ho hp (by decide), h.t.far ho hp (by decide), ?_⟩
  exact ho.below h.bel (h.b.ge g (List.mem_of_getElem? hg)) h.bel.size
theorem Srcs.kept2 {t e : TypeId} {B : Nat} {v : Value} {xs qs : List Nat} {d : List (Int × Nat)} (h : Srcs w t B qs d) (p : Ptrs w B e v xs) (hne : e ≠ t) (hg : w.grownBy w' v.ownBlock) : Srcs w' t B qs d :=
  h.kept hg (fun k hk e2 => by
    obtain ⟨q, hq⟩ := h.at_ hk
    exact p.ne hq hne k e2 rfl)
theorem Ptrs.kept2 {e e' : TypeId} {B : Nat} {v u : Value} {xs qs : List Nat} (h : Ptrs w B e' u qs) (p : Ptrs w B e v xs) (hne : e' ≠ e) (hg : w.grownBy w' v.ownBlock) : Ptrs w' B e' u qs :=
  h.kept hg (fun k hk e2 => by
    obtain ⟨_, _, cs, hcs⟩ := p.blk e2
    exact h.ne hcs hne k hk rfl)
theorem Pl2.app1 (h : Pl2 W sv tv w ss ss' ts ts' da db) (hg : w.grownBy w' sv.ownBlock) (O : Ptrs w' W.heap.size 27 v' ss') : Pl2 W v' tv w' ss' ss' ts ts' da db :=
  ⟨h.a.kept2 h.s (by decide) hg, h.b.kept2 h.s (by decide) hg, O, h.t.kept2 h.s (by decide) hg, h.bel.grown hg h.bel.size (fun k hk => (h.s.blk hk).1)⟩
theorem Pl2.app2 (h : Pl2 W sv tv w ss ss' ts ts' da db) (hg : w.grownBy w' tv.ownBlock) (O : Ptrs w' W.heap.size 42 v' ts') : Pl2 W sv v' w' ss ss' ts' ts' da db :=
  ⟨h.a.kept2 h.t (by decide) hg, h.b.kept2 h.t (by decide) hg, h.s.kept2 h.t (by decide) hg, O, h.bel.grown hg h.bel.size (fun k hk => (h.t.blk hk).1)⟩
theorem Pl2.load1 {bS m cS j g : Nat} (h : Pl2 W (.slice (some ⟨bS, 0, none⟩) m cS) tv w ss ss' ts ts' da db) (hg : ss[j]? = some g) : w.cell? ⟨bS, j, none⟩ = some (pt g) := by
  obtain ⟨b, c, e, _, _, hc⟩ := h.s.form (by have := (List.getElem?_eq_some_iff.1 hg).1; omega)
  cases e
  exact hc j g hg
theorem Pl2.load2 {bT m cT j g : Nat} (h : Pl2 W sv (.slice (some ⟨bT, 0, none⟩) m cT) w ss ss' ts ts' da db) (hg : ts[j]? = some g) : w.cell? ⟨bT, j, none⟩ = some (pt g) := by
  obtain ⟨b, c, e, _, _, hc⟩ := h.t.form (by have := (List.getElem?_eq_some_iff.1 hg).1; omega)
  cases e
  exact hc j g hg
theorem PlI.two {d : List (Int × Nat)} {k : Nat} (I : PlI W sv tv w ss ts d k) : Pl2 W sv tv w ss ss ts ts d d := ⟨I.a, I.b, I.s, I.t, I.bel⟩
theorem Pl2.back {d : List (Int × Nat)} {j k n : Nat} {sd ms : Int} (h : Pl2 W sv tv w ss ss ts ts (d.set j (sd, n + 1) ++ [(ms, 0)]) (d.set j (sd, n + 1) ++ [(ms, 0)])) (hn : n ≤ 5000 * k) (hs : ∀ (i : Nat) (p : Int × Nat), d[i]? = some p → p.2 ≤ 5000 * k) (hl : d.length ≤ k + 1) :
    PlI W sv tv w ss ts (d.set j (sd, n + 1) ++ [(ms, 0)]) (k + 1) := by
  refine ⟨h.a, h.b, h.s, h.t, h.bel, fun i p hp => ?_, by simp, by simp; omega⟩
  have hm := List.mem_of_getElem? hp
  rcases List.mem_append.1 hm with hm | hm
  · obtain ⟨i, hi, rfl⟩ := List.getElem_of_mem hm
    rw [List.getElem_set]
    split
    · simp only; omega
    · have := hs i _ (List.getElem?_eq_getElem (by simpa using hi))
      omega
  · simp at hm; subst hm; simp
theorem info_p27 : (Tryd.prog.info? 27).map (fun i => (i.zero, i.size, i.bytes)) = some (some (.pointer none), 1, 8) := by kernel_rfl
theorem info_p42 : (Tryd.prog.info? 42).map (fun i => (i.zero, i.size, i.bytes)) = some (some (.pointer none), 1, 8) := by kernel_rfl
end
/-- An append of a pointer, as one step of a region that draws. -/
theorem step_app_pt {ops : Array Oper} {o : Oper} {a : Act} {w : World} {K : Act → World → Prop} {Q : Exit → Act → World → Prop} {E : Prop} (hgd : o.guard = none) (s x : Operand) (T e : TypeId)
    (ho : o.op = .call { callee := .builtin .append, args := #[s, x], argTypes := #[T, T] }) (hT : Tryd.prog.underlying T = some (.slice e)) (hI : (Tryd.prog.info? e).map (fun i => (i.zero, i.size, i.bytes)) = some (some (.pointer none), 1, 8))
    (B : Nat) (v : Value) (l : List Nat) (hs : a.eval s = v) (hown : Ptrs w B e v l) (p f : Nat) (hx : a.eval x = .slice (some ⟨p, 0, none⟩) 1 1) (hp : Bk w p e #[pt f]) (hl : l.length ≤ 1000) (hB : B ≤ w.heap.size)
    (h : ∀ g cap w', Ptrs w' B e (.slice (some ⟨g, 0, none⟩) (l.length + 1) cap) (l ++ [f]) → w.grownBy w' v.ownBlock → K (a.put o.dst (.slice (some ⟨g, 0, none⟩) (l.length + 1) cap)) w') : if Region.wanted o (yielded ops a.tmps) = true then Oper.wp Tryd.prog o a w K Q else E := by
  have hw : Region.wanted o (yielded ops a.tmps) = true := by simp [Region.wanted, hgd]
  rw [if_pos hw]
  obtain ⟨i, hi', hz⟩ := Option.map_eq_some_iff.1 hI
  simp only [Prod.mk.injEq] at hz
  obtain ⟨hz0, hz1, hz2⟩ := hz
  refine wp_append_lies w s x T ho B e i (.pointer none) 1 8 hT hi' hz0 hz1 hz2 rfl (by omega) v l.length _ hs hown ⟨p, 0, none⟩ 1 1 [pt f] hx rfl (fun j u hj => ?_) (fun u hu => by simp at hu; subst hu; rfl) (by omega) (by simp only [maxLen]; omega) (by omega) hB _ rfl ?_
  · have e1 : (⟨p, 0, none⟩ : Addr).add j = ⟨p, j, none⟩ := by unfold Addr.add; split <;> simp_all
    rw [e1, hp.cell]
    simpa using hj
  · intro g cap w' O hg _ _
    refine h g cap w' ?_ hg
    unfold Ptrs
    rw [List.length_append, List.map_append]
    exact O
end Go.Proofs.YtdfabmjkahhlmaaDoor
