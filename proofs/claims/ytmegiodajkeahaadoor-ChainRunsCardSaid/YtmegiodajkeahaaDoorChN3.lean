/- What the reference's Disclose does to memory: the keys that are joined, a round of its loop, what is left. -/
import Derived.Test.YtmegiodajkeahaaDoorChN2
namespace Go.Proofs.YtmegiodajkeahaaDoor
open Go Go.RowKit
namespace Pl
theorem keysL_join {key sk : Int × Int} {M : Nat} (h : dnN key M = sk) (N : Nat) : keysL sk N ++ (keysL key M).drop 1 = keysL key (N + M) := by
  subst h
  apply List.ext_getElem?
  intro j
  have l1 := keysL_len (dnN key M) N
  have l2 := keysL_len key M
  have l3 := keysL_len key (N + M)
  rcases Nat.lt_or_ge j (N + 1) with hj | hj
  · rw [List.getElem?_append_left (by omega), keysL_get _ _ _ (by omega), keysL_get _ _ _ (by omega), dnN_add]
    congr 2; omega
  · rw [List.getElem?_append_right (by omega), List.getElem?_drop, l1]
    rcases Nat.lt_or_ge j (N + M + 1) with hj2 | hj2
    · rw [keysL_get _ _ _ (by omega), keysL_get _ _ _ (by omega)]
      congr 2; omega
    · rw [List.getElem?_eq_none (by omega), List.getElem?_eq_none (by omega)]
end Pl
theorem kcells_drop (l : List (Int × Int)) : (kcells l).drop 2 = kcells (l.drop 1) := by
  cases l with
  | nil => rfl
  | cons p l => rfl
theorem OwnK.empty {w : World} {B g : Nat} (h : Bk w g 37 #[]) (hB : B ≤ g) : OwnK w B (.slice (some ⟨g, 0, none⟩) 0 0) [] :=
  ⟨rfl, .inr ⟨g, 0, #[], rfl, hB, h, Nat.le_refl _, Nat.zero_le _, rfl, rfl⟩⟩
/-- An append of keys onto a slice of the call's own, as one step of a region that draws. -/
theorem step_app_keys {ops : Array Oper} {o : Oper} {a : Act} {w : World} {K : Act → World → Prop} {Q : Exit → Act → World → Prop} {E : Prop} (hgd : o.guard = none) (s x : Operand)
    (ho : o.op = .call { callee := .builtin .append, args := #[s, x], argTypes := #[28, 28] }) (B : Nat) (v : Value) (l : List (Int × Int)) (hs : a.eval s = v) (hown : OwnK w B v l)
    (b off m c : Nat) (ys : List (Int × Int)) (hm : ys.length = m) (hx : a.eval x = .slice (some ⟨b, off, none⟩) m c) (hS : ∀ j u, (kcells ys)[j]? = some u → w.cell? ⟨b, off + j, none⟩ = some u) (hl : l.length ≤ 1000) (hy : m ≤ 1000) (hB : B ≤ w.heap.size)
    (h : ∀ v' w', OwnK w' B v' (l ++ ys) → Below B w w' → K (a.put o.dst v') w') : if Region.wanted o (yielded ops a.tmps) = true then Oper.wp Tryd.prog o a w K Q else E := by
  subst hm
  have hw : Region.wanted o (yielded ops a.tmps) = true := by simp [Region.wanted, hgd]
  rw [if_pos hw]
  obtain ⟨i, hi', hz⟩ := Option.map_eq_some_iff.1 info_key
  simp only [Prod.mk.injEq] at hz
  obtain ⟨hz0, hz1, hz2⟩ := hz
  obtain ⟨v', w', hr, h2, h3, h4, h5⟩ := run_append_own_at (P := Tryd.prog) w B 28 o.type 37 i _ 2 16 Tryd.underlying28 hi' hz0 hz1 hz2 rfl (by omega) v l.length _ hown ⟨b, off, none⟩ ys.length c (kcells ys) (kcells_len ys) (fun j u hj => by
    rw [add_none]; exact hS j u hj) kcells_one (by simp only [maxLen]; omega) (by omega) hB
  have e : kcells l ++ kcells ys = kcells (l ++ ys) := by unfold kcells; simp
  have O : OwnK w' B v' (l ++ ys) := by
    unfold OwnK
    rw [List.length_append, ← e]
    exact h2
  unfold Oper.wp execOp
  simp only [ho, resolve, invoke, builtin, Sem.run_bind, Sem.run_pure, Result.andThen_ok, List.map_toArray, List.map_cons, List.map_nil, hs, hx, hr]
  exact h v' w' O ((Below.refl _ _).grown h3 hB (fun k hk => (World.ownsRow.lt hown k hk).1))
/-- The receiver once the keys are joined. -/
theorem refKeys_end {W w5 : World} {S : Nat → Prop} {g : Nat} {st sp de co : Int} {s : Pl.Rst} {N n : Nat} {kv v kv' : Value} {L : List Lm} {key : Int × Int} (M : RefM W S g st sp de co s N kv v L) (B5 : Below W.heap.size W w5) (O : OwnK w5 W.heap.size kv' (Pl.keysL key n)) :
    RefM (w5.setCell ⟨g, 4, none⟩ kv') (fun k => S k ∨ (W.heap.size ≤ k ∧ k < w5.heap.size)) g st sp de co ⟨n, key, s.ms⟩ n kv' v L ∧ Fr S (fun k => S k ∨ (W.heap.size ≤ k ∧ k < w5.heap.size)) W (w5.setCell ⟨g, 4, none⟩ kv') := by
  have esz : (w5.setCell ⟨g, 4, none⟩ kv').heap.size = w5.heap.size := by simp [World.setCell]
  have M5 := M.next B5
  have hgl := M.bk.lt
  have hlt := World.ownsRow.lt O
  have hz := B5.size
  refine ⟨⟨M.ms, rfl, M5.bk.put 4 _, ?_, far_own M5.own (fun k hk => (M.inh k hk).2), .inl M.ing, fun h hh => ⟨.inr (hlt h hh), by have := (hlt h hh).1; omega⟩, fun h hh => ⟨.inl (M.inh h hh).1, (M.inh h hh).2⟩, fun x hx => ?_, fun k hk => ?_⟩, ?_⟩
  · have O2 := far_own (p := ⟨g, 4, none⟩) (u := kv') O (fun k hk => by have := (hlt k hk).1; dsimp only; omega)
    obtain ⟨a1, a2⟩ := O2
    refine ⟨a1, ?_⟩
    rcases a2 with a2 | ⟨b, cap, cur, hv, hB, r⟩
    · exact .inl a2
    · exact .inr ⟨b, cap, cur, hv, Nat.zero_le _, r⟩
  · obtain ⟨a1, a2⟩ := M5.byt x hx
    exact ⟨far_isl a1 (fun a ha => (a2 a ha).2.1), fun a ha => ⟨.inl (a2 a ha).1, (a2 a ha).2⟩⟩
  · rw [esz]
    rcases hk with hk | hk
    · have := M.lt k hk; omega
    · exact hk.2
  · refine ⟨B5.os, B5.tape, B5.output, by omega, fun k hk hS => ?_, fun k hk hS => ?_⟩
    · rw [Below.heap_setCell _ _ _ _ (by dsimp only; intro e; subst e; exact hS M.ing)]
      exact B5.block k hk
    · rcases hS with hS | hS
      · exact hS
      · omega
/-- The head of a round of the loop over the messages. -/
structure RdI (W : World) (i : Int) (key : Int × Int) (L : List Lm) (k : Nat) (rv sv : Value) (w : World) : Prop where
  bel : Below W.heap.size W w
  out : ∃ OL : List Lm, OL.map (fun x => x.1.b) = (relL i key (L.take k)).map (fun x => x.1.b) ∧ w.ownsRow W.heap.size 41 1 rv OL.length (OL.map slv) ∧ ∀ x ∈ OL, IsSl w x.2.1 .u8 x.1.b ∧ ∀ a, x.2.1 = some a → W.heap.size ≤ a.block ∧ a.block < w.heap.size ∧ rv.ownBlock ≠ some a.block ∧ sv.ownBlock ≠ some a.block
  kept : w.ownsRow W.heap.size 84 3 sv (stayL i (L.take k)).length (mcells (stayL i (L.take k)))
section
variable {W w w' : World} {i : Int} {key : Int × Int} {L : List Lm} {k : Nat} {rv sv : Value} {x : Lm}
theorem RdI.zero (W : World) (i : Int) (key : Int × Int) (L : List Lm) : RdI W i key L 0 (.slice none 0 0) (.slice none 0 0) W :=
  ⟨Below.refl _ _, ⟨[], rfl, World.ownsRow_nil _ _ _ _, fun x h => by cases h⟩, World.ownsRow_nil _ _ _ _⟩
theorem RdI.next (h : RdI W i key L k rv sv w) (hb : Below w.heap.size w w') : RdI W i key L k rv sv w' := by
  obtain ⟨OL, e, O, hx⟩ := h.out
  exact ⟨bstep h.bel hb, ⟨OL, e, own_next O hb, fun x hm => ⟨(hx x hm).1.next hb, fun a ha => ⟨((hx x hm).2 a ha).1, Nat.lt_of_lt_of_le ((hx x hm).2 a ha).2.1 hb.size, ((hx x hm).2 a ha).2.2⟩⟩⟩, own_next h.kept hb⟩
theorem RdI.keep {sv' : Value} (h : RdI W i key L k rv sv w) (hx : L[k]? = some x) (hi : i < x.1.i) (hg : w.grownBy w' sv.ownBlock)
    (O' : w'.ownsRow W.heap.size 84 3 sv' ((stayL i (L.take k)).length + 1) (mcells (stayL i (L.take k)) ++ mcell x)) (hat : sv'.ownBlock = sv.ownBlock ∨ sv'.ownBlock = some w.heap.size) : RdI W i key L (k + 1) rv sv' w' := by
  obtain ⟨OL, e, O, hb⟩ := h.out
  have hs := World.ownsRow.lt h.kept
  have e1 : stayL i (L.take (k + 1)) = stayL i (L.take k) ++ [x] := by
    have h1 := filter_snoc (fun y : Lm => Pl.stayF i y.1) L k x hx
    have hp : Pl.stayF i x.1 = true := by simpa [Pl.stayF] using hi
    simp only [hp, if_true] at h1
    exact h1
  refine ⟨h.bel.grown hg h.bel.size (fun r hr => (hs r hr).1), ⟨OL, ?_, own_grown O hg (rows_ne O h.kept (by decide)), fun y hy => ?_⟩, ?_⟩
  · rw [relL_skip hx (by unfold Pl.relF; rw [decide_eq_false (by omega)]; rfl)]
    exact e
  · obtain ⟨a1, a2⟩ := hb y hy
    refine ⟨grown_isl hg a1 (fun a ha => (a2 a ha).2.2.2), fun a ha => ?_⟩
    obtain ⟨b1, b2, b3, b4⟩ := a2 a ha
    refine ⟨b1, Nat.lt_of_lt_of_le b2 hg.size, b3, fun e2 => ?_⟩
    rcases hat with h2 | h2
    · exact b4 (h2 ▸ e2)
    · rw [h2] at e2
      have : w.heap.size = a.block := by injection e2
      omega
  · rw [e1, List.length_append, mcells_append]
    exact O'
theorem RdI.skip (h : RdI W i key L k rv sv w) (hx : L[k]? = some x) (hi : ¬ i < x.1.i) (hr : Pl.rightB i key x.1 = false) : RdI W i key L (k + 1) rv sv w := by
  have e1 : stayL i (L.take (k + 1)) = stayL i (L.take k) := by
    have h1 := filter_snoc (fun y : Lm => Pl.stayF i y.1) L k x hx
    have hp : Pl.stayF i x.1 = false := by simpa [Pl.stayF] using hi
    simp only [hp] at h1
    simpa [stayL] using h1
  refine ⟨h.bel, ?_, by rw [e1]; exact h.kept⟩
  rw [relL_skip hx (by unfold Pl.relF; rw [hr]; simp)]
  exact h.out
theorem RdI.take_ {rv' : Value} {OL : List Lm} {A : Option Addr} {c : Nat} (h : RdI W i key L k rv sv w) (hx : L[k]? = some x) (hi : ¬ i < x.1.i) (hr : Pl.rightB i key x.1 = true)
    (e : OL.map (fun x => x.1.b) = (relL i key (L.take k)).map (fun x => x.1.b)) (hb : ∀ x ∈ OL, IsSl w x.2.1 .u8 x.1.b ∧ ∀ a, x.2.1 = some a → W.heap.size ≤ a.block ∧ a.block < w.heap.size ∧ rv.ownBlock ≠ some a.block ∧ sv.ownBlock ≠ some a.block)
    (hr0 : ∀ r, rv.ownBlock = some r → W.heap.size ≤ r) (hne : ∀ r, sv.ownBlock = some r → rv.ownBlock ≠ some r) (hA : IsSl w A .u8 x.1.b) (hAb : ∀ a, A = some a → W.heap.size ≤ a.block ∧ a.block < w.heap.size ∧ rv.ownBlock ≠ some a.block ∧ sv.ownBlock ≠ some a.block)
    (hg : w.grownBy w' rv.ownBlock) (O' : w'.ownsRow W.heap.size 41 1 rv' (OL.length + 1) (OL.map slv ++ [.slice A x.1.b.length c])) (hat : rv'.ownBlock = rv.ownBlock ∨ rv'.ownBlock = some w.heap.size) : RdI W i key L (k + 1) rv' sv w' := by
  have e1 : stayL i (L.take (k + 1)) = stayL i (L.take k) := by
    have h1 := filter_snoc (fun y : Lm => Pl.stayF i y.1) L k x hx
    have hp : Pl.stayF i x.1 = false := by simpa [Pl.stayF] using hi
    simp only [hp] at h1
    simpa [stayL] using h1
  have keyf : ∀ a : Addr, a.block < w.heap.size → rv.ownBlock ≠ some a.block → rv'.ownBlock ≠ some a.block := fun a h1 h2 e2 => by
    rcases hat with h3 | h3
    · exact h2 (h3 ▸ e2)
    · rw [h3] at e2
      have : w.heap.size = a.block := by injection e2
      omega
  refine ⟨h.bel.grown hg h.bel.size hr0, ⟨OL ++ [(x.1, A, c)], ?_, ?_, fun y hy => ?_⟩, ?_⟩
  · rw [relL_keep hx (by unfold Pl.relF; rw [hr, decide_eq_true (by omega)]; rfl), List.map_append, List.map_append, e]
    rfl
  · rw [List.length_append, List.map_append]
    exact O'
  · rcases List.mem_append.1 hy with hy | hy
    · obtain ⟨a1, a2⟩ := hb y hy
      refine ⟨grown_isl hg a1 (fun a ha => (a2 a ha).2.2.1), fun a ha => ?_⟩
      obtain ⟨b1, b2, b3, b4⟩ := a2 a ha
      exact ⟨b1, Nat.lt_of_lt_of_le b2 hg.size, keyf a b2 b3, b4⟩
    · simp only [List.mem_singleton] at hy
      subst hy
      refine ⟨grown_isl hg hA (fun a ha => (hAb a ha).2.2.1), fun a ha => ?_⟩
      obtain ⟨b1, b2, b3, b4⟩ := hAb a ha
      exact ⟨b1, Nat.lt_of_lt_of_le b2 hg.size, keyf a b2 b3, b4⟩
  · rw [e1]
    exact own_grown h.kept hg hne
end
/-- What the reference's Disclose leaves. -/
theorem refDisc_end {W w : World} {S : Nat → Prop} {g n : Nat} {st sp de co : Int} {s : Pl.Rst} {i : Int} {kv v rv sv : Value} {L : List Lm} {key : Int × Int} (hi : (n : Int) = i) (M : RefM W S g st sp de co ⟨n, key, s.ms⟩ n kv v L) (I : RdI W i key L L.length rv sv w) :
    ∃ S', RefS (w.setCell ⟨g, 5, none⟩ sv) S' g st sp de co (Pl.dSt s i key) ∧ IsBB (w.setCell ⟨g, 5, none⟩ sv) S' rv (Pl.dOut i key s.ms) ∧ Fr S S' W (w.setCell ⟨g, 5, none⟩ sv) := by
  have hms : L.map Prod.fst = s.ms := M.ms
  have esz : (w.setCell ⟨g, 5, none⟩ sv).heap.size = w.heap.size := by simp [World.setCell]
  have M5 := M.next I.bel
  have hgl := M.bk.lt
  have hz := I.bel.size
  obtain ⟨OL, e, O, hb⟩ := I.out
  have hK := I.kept
  rw [List.take_of_length_le (Nat.le_refl _)] at e hK
  have hlt := World.ownsRow.lt hK
  have hlo := World.ownsRow.lt O
  refine ⟨fun k => S k ∨ (W.heap.size ≤ k ∧ k < w.heap.size), ⟨n, kv, sv, stayL i L, ?_⟩, ?_, ?_⟩
  · refine ⟨?_, hi.symm, M5.bk.put 5 _, far_own M5.keys (fun k hk => (M.ink k hk).2), ?_, .inl M.ing, fun h hh => ⟨.inl (M.ink h hh).1, (M.ink h hh).2⟩, fun h hh => ⟨.inr (hlt h hh), by have := (hlt h hh).1; omega⟩, fun x hx => ?_, fun k hk => ?_⟩
    · rw [stayL_ms, hms]; rfl
    · have O2 := far_own (p := ⟨g, 5, none⟩) (u := sv) hK (fun k hk => by have := (hlt k hk).1; dsimp only; omega)
      obtain ⟨a1, a2⟩ := O2
      refine ⟨a1, ?_⟩
      rcases a2 with a2 | ⟨b, cap, cur, hv, hB, r⟩
      · exact .inl a2
      · exact .inr ⟨b, cap, cur, hv, Nat.zero_le _, r⟩
    · obtain ⟨a1, a2⟩ := M5.byt x (List.mem_filter.1 hx).1
      refine ⟨far_isl a1 (fun a ha => (a2 a ha).2.1), fun a ha => ⟨.inl (a2 a ha).1, (a2 a ha).2.1, fun e2 => ?_⟩⟩
      have h1 := (hlt _ e2).1
      have h2 := M.lt _ (a2 a ha).1
      omega
    · rw [esz]
      rcases hk with hk | hk
      · have := M.lt k hk; omega
      · exact hk.2
  · rw [← hms, ← relL_ms, ← e]
    refine isBB_of_own (far_own O (fun k hk => by have := (hlo k hk).1; dsimp only; omega)) (fun k hk => .inr (hlo k hk)) (fun x hx => ?_)
    obtain ⟨a1, a2⟩ := hb x hx
    exact ⟨far_isl a1 (fun a ha => by have := (a2 a ha).1; dsimp only; omega), fun a ha => .inr ⟨(a2 a ha).1, (a2 a ha).2.1⟩⟩
  · refine ⟨I.bel.os, I.bel.tape, I.bel.output, by omega, fun k hk hS => ?_, fun k hk hS => ?_⟩
    · rw [Below.heap_setCell _ _ _ _ (by dsimp only; intro e2; subst e2; exact hS M.ing)]
      exact I.bel.block k hk
    · rcases hS with hS | hS
      · exact hS
      · omega
end Go.Proofs.YtmegiodajkeahaaDoor
