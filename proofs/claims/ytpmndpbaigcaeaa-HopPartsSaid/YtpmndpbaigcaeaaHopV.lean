/- Slices of intervals that the call itself makes and appends to. -/
import Derived.Test.YtpmndpbaigcaeaaHopC7
import Derived.Test.YtpmndpbaigcaeaaIvEq
import Derived.StillTailTactics
namespace Go.Proofs.Ytpmndpbaigcaeaa
open Go Go.RowKit
def iv2 (l : List (Int × Int)) : List Value := l.flatMap fun p => [.int .i64 p.1, .int .i64 p.2]
theorem iv2_len : ∀ l : List (Int × Int), (iv2 l).length = l.length * 2
  | [] => rfl
  | p :: l => by have := iv2_len l; unfold iv2 at *; simp [List.flatMap_cons] at *; omega
theorem iv2_app (l m : List (Int × Int)) : iv2 (l ++ m) = iv2 l ++ iv2 m := by unfold iv2; rw [List.flatMap_append]
theorem iv2_get : ∀ (l : List (Int × Int)) (i : Nat) (p : Int × Int), l[i]? = some p → (iv2 l)[i * 2]? = some (.int .i64 p.1) ∧ (iv2 l)[i * 2 + 1]? = some (.int .i64 p.2)
  | [], i, p, h => by simp at h
  | q :: l, 0, p, h => by simp at h; subst h; exact ⟨rfl, rfl⟩
  | q :: l, i + 1, p, h => by
    have ih := iv2_get l i p (by simpa using h)
    have e : iv2 (q :: l) = .int .i64 q.1 :: .int .i64 q.2 :: iv2 l := rfl
    rw [e, show (i + 1) * 2 = i * 2 + 1 + 1 from by omega]
    simpa using ih
/-- The slice at A reads as these intervals. -/
def IsIv (w : World) (A : Option Addr) (l : List (Int × Int)) : Prop :=
  l = [] ∨ ∃ b off, A = some ⟨b, off, none⟩ ∧ b < w.heap.size ∧ ∀ (i : Nat) (p : Int × Int), l[i]? = some p → w.cell? ⟨b, off + i * 2, none⟩ = some (.int .i64 p.1) ∧ w.cell? ⟨b, off + i * 2 + 1, none⟩ = some (.int .i64 p.2)
theorem IsIv.next {w w' : World} {A : Option Addr} {l : List (Int × Int)} (h : IsIv w A l) (hb : Below w.heap.size w w') : IsIv w' A l := by
  rcases h with h | ⟨b, off, h1, h2, h3⟩
  · exact .inl h
  · exact .inr ⟨b, off, h1, Nat.lt_of_lt_of_le h2 hb.size, fun i p hp => ⟨(hb.cell (p := ⟨b, off + i * 2, none⟩) h2).trans (h3 i p hp).1, (hb.cell (p := ⟨b, off + i * 2 + 1, none⟩) h2).trans (h3 i p hp).2⟩⟩
theorem IsIv.row {w : World} {A : Option Addr} {l : List (Int × Int)} (h : IsIv w A l) : l.length = 0 ∨ ∃ b off, A = some ⟨b, off, none⟩ ∧ b < w.heap.size ∧ ∀ (i : Nat) (p : Int × Int), l[i]? = some p → w.cell? ⟨b, off + i * 2, none⟩ = some (.int .i64 p.1) ∧ w.cell? ⟨b, off + i * 2 + 1, none⟩ = some (.int .i64 p.2) := by
  rcases h with h | h
  · left; rw [h]; rfl
  · exact .inr h
/-- v is a slice of intervals in a block from B on, which nobody else has (or nil). -/
def OwnIv (w : World) (B : Nat) (v : Value) (l : List (Int × Int)) : Prop := w.ownsRow B 33 2 v l.length (iv2 l)
theorem OwnIv.nil_ (w : World) (B : Nat) : OwnIv w B (.slice none 0 0) [] := ⟨by simp [iv2], .inl ⟨rfl, rfl⟩⟩
theorem OwnIv.mono {w : World} {B B' : Nat} {v : Value} {l : List (Int × Int)} (h : OwnIv w B v l) (hB : B' ≤ B) : OwnIv w B' v l := by
  obtain ⟨hl, h⟩ := h
  refine ⟨hl, ?_⟩
  rcases h with h | ⟨g, cap, cur, hv, hg, r⟩
  · exact .inl h
  · exact .inr ⟨g, cap, cur, hv, Nat.le_trans hB hg, r⟩
theorem OwnIv.next {w w' : World} {B : Nat} {v : Value} {l : List (Int × Int)} (h : OwnIv w B v l) (hb : Below w.heap.size w w') : OwnIv w' B v l := by
  obtain ⟨hl, h⟩ := h
  refine ⟨hl, ?_⟩
  rcases h with h | ⟨g, cap, cur, hv, hB, hh, r⟩
  · exact .inl h
  · exact .inr ⟨g, cap, cur, hv, hB, Bk.next (t := 33) hh hb, r⟩
theorem OwnIv.alloc {w : World} {B : Nat} {v : Value} {l : List (Int × Int)} (h : OwnIv w B v l) (o : Obj) : OwnIv (w.alloc o) B v l := h.next ((Below.refl _ _).alloc (Nat.le_refl _) o)
theorem OwnIv.drew {w : World} {B : Nat} {v : Value} {l : List (Int × Int)} (h : OwnIv w B v l) : OwnIv w.drew B v l := h
theorem OwnIv.drewN {w : World} {B : Nat} {v : Value} {l : List (Int × Int)} (h : OwnIv w B v l) (n : Nat) : OwnIv (w.drewN n) B v l := h
theorem OwnIv.far {w : World} {B : Nat} {v : Value} {l : List (Int × Int)} (h : OwnIv w B v l) {p : Addr} (hp : p.block < B) (u : Value) : OwnIv (w.setCell p u) B v l := by
  obtain ⟨hl, h⟩ := h
  refine ⟨hl, ?_⟩
  rcases h with h | ⟨g, cap, cur, hv, hB, hh, r⟩
  · exact .inl h
  · exact .inr ⟨g, cap, cur, hv, hB, Bk.far (t := 33) hh (by omega) u, r⟩
/-- Where it lies and what it reads as. -/
theorem OwnIv.slice_ {w : World} {B : Nat} {v : Value} {l : List (Int × Int)} (h : OwnIv w B v l) : ∃ A c, v = .slice A l.length c ∧ IsIv w A l ∧ (v.ownBlock = none ∨ ∃ g, v.ownBlock = some g ∧ B ≤ g ∧ g < w.heap.size) := by
  obtain ⟨hl, h⟩ := h
  rcases h with ⟨rfl, h0⟩ | ⟨g, cap, cur, rfl, hB, hh, hn, hc, hs, ht⟩
  · have : l = [] := List.eq_nil_of_length_eq_zero h0
    subst this
    exact ⟨none, 0, rfl, .inl rfl, .inl rfl⟩
  · have hlt := Bk.lt (t := 33) hh
    refine ⟨some ⟨g, 0, none⟩, cap, rfl, .inr ⟨g, 0, rfl, hlt, fun i p hp => ?_⟩, .inr ⟨g, rfl, hB, hlt⟩⟩
    have hi : i < l.length := (List.getElem?_eq_some_iff.1 hp).1
    obtain ⟨e1, e2⟩ := iv2_get l i p hp
    rw [← ht] at e1 e2
    rw [List.getElem?_take_of_lt (by omega)] at e1 e2
    rw [Bk.cell (t := 33) hh, Bk.cell (t := 33) hh]
    exact ⟨by simpa using e1, by simpa using e2⟩
theorem OwnIv.at_ {w : World} {B : Nat} {v : Value} {l : List (Int × Int)} (h : OwnIv w B v l) (hn : 0 < l.length) : ∃ g cap, v = .slice (some ⟨g, 0, none⟩) l.length cap ∧ B ≤ g ∧ g < w.heap.size := by
  obtain ⟨_, h⟩ := h
  rcases h with ⟨_, h0⟩ | ⟨g, cap, cur, hv, hg, hh, r⟩
  · omega
  · exact ⟨g, cap, hv, hg, Bk.lt (t := 33) hh⟩
/-- The end of the last interval is stored anew. -/
theorem OwnIv.store {w : World} {B : Nat} {g n cap : Nat} {l : List (Int × Int)} {p : Int × Int} (h : OwnIv w B (.slice (some ⟨g, 0, none⟩) n cap) (l ++ [p])) (d : Int) :
    w.frozen? ⟨g, l.length * 2 + 1, none⟩ = false ∧ OwnIv (w.setCell ⟨g, l.length * 2 + 1, none⟩ (.int .i64 d)) B (.slice (some ⟨g, 0, none⟩) n cap) (l ++ [(p.1, d)]) := by
  obtain ⟨hl, h⟩ := h
  rcases h with ⟨h0, _⟩ | ⟨g', cap', cur, hv, hg, hh, hn, hc, hs, ht⟩
  · cases h0
  · cases hv
    refine ⟨Bk.free (t := 33) hh _, by rw [iv2_len], .inr ⟨g, cap, cur.setIfInBounds (l.length * 2 + 1) (.int .i64 d), by simp, hg, Bk.put (t := 33) hh _ _, by simpa using hn, hc, by simpa using hs, ?_⟩⟩
    have e1 : (l ++ [(p.1, d)]).length = (l ++ [p]).length := by simp
    rw [e1, Array.toList_setIfInBounds, List.take_set, ht, iv2_app, iv2_app]
    have e2 : (iv2 l).length = l.length * 2 := iv2_len l
    rw [List.set_append_right _ _ (by omega), e2]
    simp [iv2]
theorem OwnIv.below {w w' : World} {B : Nat} {v : Value} {l : List (Int × Int)} (h : OwnIv w B v l) (hg : w.grownBy w' v.ownBlock) (hB : B ≤ w.heap.size) : Below B w w' := by
  obtain ⟨A, c, _, _, ho⟩ := h.slice_
  refine (Below.refl _ _).grown hg hB (fun j hj => ?_)
  rcases ho with ho | ⟨g, ho, hg', _⟩
  · rw [ho] at hj; cases hj
  · rw [ho] at hj; cases hj; exact hg'
theorem info_iv : (Try.prog.info? 33).map (fun i => (i.zero, i.size, i.bytes)) = some (some (.agg #[.int .i64 0, .int .i64 0]), 2, 16) := by kernel_rfl
/-- 'periods = append(periods, Interval{lo, hi})'. -/
theorem wpList_app_iv {ops : Array Oper} {rest : List Oper} {o : Oper} {a : Act} {w : World} {Q : Exit → Act → World → Prop} (hgd : o.guard = none) (s x : Operand)
    (ho : o.op = .call { callee := .builtin .append, args := #[s, x], argTypes := #[28, 28] })
    (B : Nat) (v : Value) (l : List (Int × Int)) (hs : a.eval s = v) (hown : OwnIv w B v l)
    (g c : Nat) (p : Int × Int) (hx : a.eval x = .slice (some ⟨g, 0, none⟩) 1 c) (K : Bk w g 33 #[.int .i64 p.1, .int .i64 p.2]) (hl : l.length ≤ 1000) (hB : B ≤ w.heap.size)
    (h : ∀ v' w', OwnIv w' B v' (l ++ [p]) → Below B w w' → w.grownBy w' v.ownBlock → (v'.ownBlock = v.ownBlock ∨ v'.ownBlock = some w.heap.size) → wpList Try.prog ops Q rest (a.put o.dst v') w') : wpList Try.prog ops Q (o :: rest) a w := by
  obtain ⟨i, hi', hz⟩ := Option.map_eq_some_iff.1 info_iv
  simp only [Prod.mk.injEq] at hz
  obtain ⟨hz0, hz1, hz2⟩ := hz
  refine wpList_append_own_at w hgd s x 28 ho B 33 i (.agg #[.int .i64 0, .int .i64 0]) 2 16 Try.underlying28 hi' hz0 hz1 hz2 rfl (by omega) v l.length _ hs hown ⟨g, 0, none⟩ 1 c (iv2 [p]) hx rfl ?_ ?_ (by simp only [maxLen]; omega) (by omega) hB ?_
  · intro j u hj
    have e : (⟨g, 0, none⟩ : Addr).add j = ⟨g, j, none⟩ := by unfold Addr.add; split <;> simp_all
    rw [e, K.cell]
    match j, hj with
    | 0, hj => exact hj
    | 1, hj => exact hj
    | j + 2, hj => simp [iv2] at hj
  · intro u hu
    simp [iv2] at hu
    rcases hu with rfl | rfl <;> rfl
  · intro v' w' hown' hg _ hat
    have hown2 : OwnIv w' B v' (l ++ [p]) := by unfold OwnIv; rw [iv2_app]; simpa using hown'
    exact h v' w' hown2 (hown.below hg hB) hg hat
end Go.Proofs.Ytpmndpbaigcaeaa
