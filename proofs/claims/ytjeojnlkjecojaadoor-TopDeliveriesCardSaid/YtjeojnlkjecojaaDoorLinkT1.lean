/- What TopDeliveries keeps: the queue, the arrivals, and how they belong together. -/
import Derived.Test.YtjeojnlkjecojaaDoorLinkA8
import Derived.Test.YtjeojnlkjecojaaDoorInts
import Derived.Test.YtjeojnlkjecojaaDoorLinkW
namespace Go.Proofs.YtjeojnlkjecojaaDoor
open Go Go.RowKit
open Hp
/-- What is in the queue has its time among the arrivals. -/
structure QI (L : List Ev) (ar : List Int) (k : Nat) : Prop where
  each : ∀ e ∈ L, ∃ i : Nat, e.item = (i : Int) ∧ i < k ∧ ar[i]? = some e.at_ ∧ 0 ≤ e.at_
  nodup : (L.map Ev.item).Nodup
  ids : ∀ e ∈ L, 0 ≤ e.id ∧ e.id ≤ 1000000
theorem QI.nil (ar : List Int) (k : Nat) : QI [] ar k := ⟨(fun e h => by cases h), List.nodup_nil, (fun e h => by cases h)⟩
theorem QI.perm {L L' : List Ev} {ar : List Int} {k : Nat} (h : QI L ar k) (p : L'.Perm L) : QI L' ar k :=
  ⟨fun e he => h.each e (p.mem_iff.1 he), (p.map Ev.item).nodup_iff.2 h.nodup, fun e he => h.ids e (p.mem_iff.1 he)⟩
theorem QI.more {L : List Ev} {ar : List Int} {k : Nat} (h : QI L ar k) : QI L ar (k + 1) :=
  ⟨fun e he => by obtain ⟨i, h1, h2, h3⟩ := h.each e he; exact ⟨i, h1, by omega, h3⟩, h.nodup, h.ids⟩
theorem QI.push {L : List Ev} {ar : List Int} {k : Nat} (h : QI L ar k) (hk : k < ar.length) {at_ id : Int} (ha : 0 ≤ at_) (hid_ : 0 ≤ id ∧ id ≤ 1000000) : QI (L ++ [⟨at_, id, (k : Int)⟩]) (ar.set k at_) (k + 1) := by
  refine ⟨fun e he => ?_, ?_, fun e he => ?_⟩
  · rcases List.mem_append.1 he with he | he
    · obtain ⟨i, h1, h2, h3, h4⟩ := h.each e he
      exact ⟨i, h1, by omega, by rw [List.getElem?_set_ne (by omega)]; exact h3, h4⟩
    · simp at he
      subst he
      exact ⟨k, rfl, by omega, by rw [List.getElem?_set_self hk], ha⟩
  · rw [List.map_append]
    refine List.nodup_append.2 ⟨h.nodup, by simp, fun a h1 b h2 e => ?_⟩
    simp at h2
    subst h2
    subst e
    obtain ⟨e, he, h5⟩ := List.mem_map.1 h1
    obtain ⟨i, h1, h2, _⟩ := h.each e he
    omega
  · rcases List.mem_append.1 he with he | he
    · exact h.ids e he
    · simp at he
      subst he
      exact hid_
theorem QI.pop {L L' : List Ev} {ar : List Int} {k : Nat} {x : Ev} (h : QI L ar k) (p : (L' ++ [x]).Perm L) (i : Nat) (hi : x.item = (i : Int)) (v : Int) : QI L' (ar.set i v) k := by
  have h2 := h.perm p
  have hn := h2.nodup
  rw [List.map_append] at hn
  obtain ⟨n1, _, n3⟩ := List.nodup_append.1 hn
  refine ⟨fun e he => ?_, n1, fun e he => h2.ids e (List.mem_append_left _ he)⟩
  obtain ⟨j, h3, h4, h5, h6⟩ := h2.each e (List.mem_append_left _ he)
  have hne : j ≠ i := fun e2 => n3 e.item (List.mem_map.2 ⟨e, he, rfl⟩) x.item (by simp) (by rw [h3, hi, e2])
  exact ⟨j, h3, h4, by rw [List.getElem?_set_ne (fun e => hne e.symm)]; exact h5, h6⟩
/-- The world of TopDeliveries: the link's box, the bounds' box, the arrivals, the queue. -/
structure LpI (W : World) (lc : Array Value) (bb ab : Nat) (lo hi : Int) (ar : List Int) (S : Nat → Prop) (g : Nat) (L : List Ev) (N : Nat) (tm pu : Int) (w : World) : Prop where
  bel : Below W.heap.size W w
  lk : Bk w W.heap.size 26 lc
  bd : Bk w bb 35 #[.int .i64 lo, .int .i64 hi]
  arr : Bk w ab 3 (ints .i64 ar)
  q : QuS w S g L N 4096 tm pu
  off : ∀ k, S k → W.heap.size < k ∧ k ≠ bb ∧ k ≠ ab
  bb1 : W.heap.size < bb
  ab1 : W.heap.size < ab
  ne : ab ≠ bb
section
variable {W w w' : World} {lc : Array Value} {bb ab g N : Nat} {lo hi tm pu : Int} {ar : List Int} {S S' : Nat → Prop} {L : List Ev}
theorem LpI.next (h : LpI W lc bb ab lo hi ar S g L N tm pu w) (hb : Below w.heap.size w w') : LpI W lc bb ab lo hi ar S g L N tm pu w' :=
  ⟨bstep h.bel hb, h.lk.next hb, h.bd.next hb, h.arr.next hb, h.q.next hb, h.off, h.bb1, h.ab1, h.ne⟩
theorem LpI.call {L' : List Ev} {N' : Nat} {tm' pu' : Int} (h : LpI W lc bb ab lo hi ar S g L N tm pu w) (G : Gr S S' w w') (Q : QuS w' S' g L' N' 4096 tm' pu') : LpI W lc bb ab lo hi ar S' g L' N' tm' pu' w' := by
  have hbl := h.bd.lt
  have hal := h.arr.lt
  have hwl := h.bel.size
  refine ⟨h.bel.trans (G.fr.below h.bel.size (fun k hk => Nat.le_of_lt (h.off k hk).1)), G.fr.bk h.lk (fun e => Nat.lt_irrefl _ (h.off _ e).1), G.fr.bk h.bd (fun e => (h.off _ e).2.1 rfl), G.fr.bk h.arr (fun e => (h.off _ e).2.2 rfl), Q, fun k hk => ?_, h.bb1, h.ab1, h.ne⟩
  rcases Nat.lt_or_ge k w.heap.size with h1 | h1
  · exact h.off k (G.set k h1 hk)
  · have := h.bb1
    exact ⟨by omega, by omega, by omega⟩
theorem QuS.far (h : QuS w S g L N 4096 tm pu) {p : Addr} (hp : ¬ S p.block) (u : Value) : QuS (w.setCell p u) S g L N 4096 tm pu := by
  refine ⟨h.ing, fun k hk => by simpa [World.setCell] using h.lt k hk, ?_⟩
  rcases h.st with ⟨h1, h2⟩ | ⟨b, m, cap, Y, h1, h2, h3⟩
  · exact .inl ⟨h1, h2.far (fun e => hp (e ▸ h.ing)) _⟩
  · exact .inr ⟨b, m, cap, Y, h1.far (fun e => hp (e ▸ h.ing)) (fun e => hp (e ▸ h2)) (fun e => hp (e ▸ h3)) _, h2, h3⟩
theorem LpI.store (h : LpI W lc bb ab lo hi ar S g L N tm pu w) (i : Nat) (v : Int) : LpI W lc bb ab lo hi (ar.set i v) S g L N tm pu (w.setCell ⟨ab, i, none⟩ (.int .i64 v)) :=
  ⟨h.bel.setCell (Nat.le_of_lt h.ab1) _, h.lk.far (by have := h.ab1; dsimp only; omega) _, h.bd.far (fun e => h.ne e.symm) _, h.arr.set_int i v, h.q.far (fun e => (h.off _ e).2.2 rfl) _, h.off, h.bb1, h.ab1, h.ne⟩
end
/-- The first of a heap is not later than any. -/
theorem heap_first {L : List Ev} {x : Ev} (hh : HeapF (ats L) L.length) (hx : L[0]? = some x) : ∀ e ∈ L, x.at_ ≤ e.at_ := fun e he => by
  obtain ⟨i, hi, rfl⟩ := List.getElem_of_mem he
  have := root_min hh i i (Nat.le_refl _) hi
  rw [ats_get hx, ats_get (List.getElem?_eq_getElem hi)] at this
  exact this
/-- An arrival lies within the bounds. -/
theorem arr_bounds {l : Pl.Lk} {dir at_ m : Int} (he : Pl.errOf l = 0) (hd : Pl.okDir dir = true) (ha : Pl.okAt at_ = true) (h : Pl.arrives l dir at_ m = true) : at_ + bLo l dir ≤ Pl.arriveOf l dir at_ m ∧ Pl.arriveOf l dir at_ m ≤ at_ + bHi l dir := by
  rw [arriveOf_yes h]
  have := within_delay he hd ha m
  have h3 := (noise_range l dir m).1
  omega
end Go.Proofs.YtjeojnlkjecojaaDoor
