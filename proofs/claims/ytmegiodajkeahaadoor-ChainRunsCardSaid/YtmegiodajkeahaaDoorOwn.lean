/- Slices of integers that the call itself makes and appends to, no program in sight. -/
import Derived.Test.YtmegiodajkeahaaDoorMem
import Derived.Laws.AppendOwnNone
import Derived.Maps.AppendAt
namespace Go.Proofs.YtmegiodajkeahaaDoor
open Go Go.RowKit

/-- v is a slice of the numbers xs of kind k that lie in a block from B on, which nobody else has (or nil). -/
def Own (w : World) (B : Nat) (e : TypeId) (k : IntKind) (v : Value) (xs : List Int) : Prop := w.ownsRow B e 1 v xs.length (xs.map (Value.int k))

theorem Own.nil_ (w : World) (B : Nat) (e : TypeId) (k : IntKind) : Own w B e k (.slice none 0 0) [] := ⟨by simp, .inl ⟨rfl, rfl⟩⟩
/-- An empty slice literal. -/
theorem Own.empty {w : World} {B : Nat} {e : TypeId} {k : IntKind} {g : Nat} (h : Bk w g e #[]) (hB : B ≤ g) : Own w B e k (.slice (some ⟨g, 0, none⟩) 0 0) [] :=
  ⟨by simp, .inr ⟨g, 0, #[], rfl, hB, h, Nat.le_refl _, Nat.zero_le _, rfl, rfl⟩⟩
theorem Own.slice_ {w : World} {B : Nat} {e : TypeId} {k : IntKind} {v : Value} {xs : List Int} (h : Own w B e k v xs) : ∃ A c, v = .slice A xs.length c ∧ IsSl w A k xs ∧ (v.ownBlock = none ∨ ∃ g, v.ownBlock = some g ∧ B ≤ g ∧ g < w.heap.size) := by
  obtain ⟨hl, h⟩ := h
  rcases h with ⟨rfl, h0⟩ | ⟨g, cap, cur, rfl, hB, hh, hn, hc, hs, ht⟩
  · have : xs = [] := List.eq_nil_of_length_eq_zero h0
    subst this
    exact ⟨none, 0, rfl, .inl rfl, .inl rfl⟩
  · have hlt := Bk.lt (t := e) hh
    refine ⟨some ⟨g, 0, none⟩, cap, rfl, .inr ⟨g, 0, rfl, hlt, fun i x hx => ?_⟩, .inr ⟨g, rfl, hB, hlt⟩⟩
    have hi : i < xs.length := (List.getElem?_eq_some_iff.1 hx).1
    rw [Bk.cell (t := e) hh]
    have e1 : (cur.toList.take (xs.length * 1))[i]? = cur.toList[i]? := List.getElem?_take_of_lt (by omega)
    have e2 : (xs.map (Value.int k))[i]? = some (.int k x) := by simp [hx]
    rw [← ht, e1] at e2
    simpa using e2
theorem Own.next {w w' : World} {B : Nat} {e : TypeId} {k : IntKind} {v : Value} {xs : List Int} (h : Own w B e k v xs) (hb : Below w.heap.size w w') : Own w' B e k v xs := by
  obtain ⟨hl, h⟩ := h
  refine ⟨hl, ?_⟩
  rcases h with h | ⟨g, cap, cur, hv, hB, hh, r⟩
  · exact .inl h
  · exact .inr ⟨g, cap, cur, hv, hB, Bk.next (t := e) hh hb, r⟩
theorem Own.alloc {w : World} {B : Nat} {e : TypeId} {k : IntKind} {v : Value} {xs : List Int} (h : Own w B e k v xs) (o : Obj) : Own (w.alloc o) B e k v xs := h.next ((Below.refl _ _).alloc (Nat.le_refl _) o)
theorem Own.drew {w : World} {B : Nat} {e : TypeId} {k : IntKind} {v : Value} {xs : List Int} (h : Own w B e k v xs) : Own w.drew B e k v xs := h
/-- An append to such a slice writes nothing below B. -/
theorem Own.below {w w' : World} {B : Nat} {e : TypeId} {k : IntKind} {v : Value} {xs : List Int} (h : Own w B e k v xs) (hg : w.grownBy w' v.ownBlock) (hB : B ≤ w.heap.size) : Below B w w' := by
  obtain ⟨A, c, _, _, ho⟩ := h.slice_
  refine (Below.refl _ _).grown hg hB (fun j hj => ?_)
  rcases ho with ho | ⟨g, ho, hg', _⟩
  · rw [ho] at hj; cases hj
  · rw [ho] at hj; cases hj; exact hg'

section
variable {P : Program} {w : World}
theorem run_app_nil (base : Nat) (t ty e : TypeId) (i : TypeInfo) (size : Nat) (ht : P.underlying t = some (.slice e)) (hi : P.info? e = some i)
    (v : Value) (n : Nat) (xs : List Value) (hown : w.ownsRow base e size v n xs) (c : Nat) : (Builtin.append_ #[t, t] ty #[v, .slice none 0 c]).run P w = .ok v w := by
  rcases hown.2 with ⟨rfl, rfl⟩ | ⟨g, cap, cur, rfl, _, _, hnc, _⟩
  · simp [Builtin.append_, run_underlying ht, sizeOf, typeInfo, hi, Builtin.lenOf, Builtin.firstCells]
  · simp [Builtin.append_, run_underlying ht, sizeOf, typeInfo, hi, Builtin.lenOf, Builtin.firstCells, hnc, storeCells]

/-- 'out = append(out, ys...)' onto a slice of the call's own, the source nil, empty or not. -/
theorem wpList_app_ints {ops : Array Oper} {rest : List Oper} {o : Oper} {a : Act} {Q : Exit → Act → World → Prop} (hgd : o.guard = none) (s x : Operand) (t : TypeId)
    (ho : o.op = .call { callee := .builtin .append, args := #[s, x], argTypes := #[t, t] })
    (B : Nat) (e : TypeId) (k : IntKind) (bytes : Nat) (ht : P.underlying t = some (.slice e)) (hi : (P.info? e).map (fun i => (i.zero, i.size, i.bytes)) = some (some (.int k 0), 1, bytes))
    (v : Value) (xs : List Int) (hs : a.eval s = v) (hown : Own w B e k v xs)
    (A : Option Addr) (c : Nat) (ys : List Int) (hx : a.eval x = .slice A ys.length c) (hS : IsSl w A k ys)
    (h63 : xs.length + ys.length ≤ maxLen) (hbytes : (xs.length + ys.length) * bytes ≤ 140737488355328) (hB : B ≤ w.heap.size)
    (h : ∀ v' w', Own w' B e k v' (xs ++ ys) → Below B w w' → w.grownBy w' v.ownBlock → (v'.ownBlock = v.ownBlock ∨ v'.ownBlock = some w.heap.size) → wpList P ops Q rest (a.put o.dst v') w') : wpList P ops Q (o :: rest) a w := by
  obtain ⟨i, hi', hz⟩ := Option.map_eq_some_iff.1 hi
  simp only [Prod.mk.injEq] at hz
  obtain ⟨hz0, hz1, hz2⟩ := hz
  rcases A with _ | ad
  · have h0 : ys = [] := by
      rcases hS with h0 | ⟨b, off, hA, _⟩
      · exact h0
      · cases hA
    subst h0
    refine wpList_plain hgd fun K hK => ?_
    have hrun := run_app_nil (P := P) B t o.type e i 1 ht hi' v xs.length _ hown c
    unfold Oper.wp
    simp only [List.length_nil] at hx
    simp [execOp, ho, resolve, invoke, builtin, hs, hx, hrun, Result.andThen]
    exact hK _ _ (h v w (by simpa using hown) (Below.refl _ _) (World.grownBy.refl w _) (.inl rfl))
  · refine wpList_append_own_at w hgd s x t ho B e i (.int k 0) 1 bytes ht hi' hz0 hz1 hz2 rfl (by omega) v xs.length _ hs hown ad ys.length c (ys.map (Value.int k)) hx (by simp) ?_ ?_ h63 hbytes hB ?_
    · intro j u hj
      rcases hS with h0 | ⟨b, off, hA, _, hc⟩
      · subst h0; simp at hj
      · cases hA
        simp only [List.getElem?_map, Option.map_eq_some_iff] at hj
        obtain ⟨y, hy, rfl⟩ := hj
        have := hc j y hy
        have e1 : (⟨b, off, none⟩ : Addr).add j = ⟨b, off + j, none⟩ := by unfold Addr.add; split <;> simp_all
        rw [e1]; exact this
    · intro u hu
      simp at hu
      obtain ⟨y, _, rfl⟩ := hu
      rfl
    · intro v' w' hown' hg _ hat
      have hown2 : Own w' B e k v' (xs ++ ys) := by unfold Own; simpa using hown'
      exact h v' w' hown2 (hown.below hg hB) hg hat
end
end Go.Proofs.YtmegiodajkeahaaDoor
