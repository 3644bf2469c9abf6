/- What release leaves. -/
import Derived.Test.YtmegiodajkeahaaDoorChL1
namespace Go.Proofs.YtmegiodajkeahaaDoor
open Go Go.RowKit
def stayL (i : Int) (L : List Lm) : List Lm := L.filter fun x => Pl.stayF i x.1
def relL (i : Int) (key : Int × Int) (L : List Lm) : List Lm := L.filter fun x => Pl.relF i key x.1
def slv (x : Lm) : Value := .slice x.2.1 x.1.b.length x.2.2
theorem stayL_ms (i : Int) (L : List Lm) : (stayL i L).map Prod.fst = (L.map Prod.fst).filter (Pl.stayF i) := by
  unfold stayL
  rw [List.filter_map]
  rfl
theorem relL_ms (i : Int) (key : Int × Int) (L : List Lm) : (relL i key L).map (fun x => x.1.b) = Pl.dOut i key (L.map Prod.fst) := by
  unfold relL Pl.dOut
  rw [List.filter_map, List.map_map]
  rfl
theorem Fr.setCell {S S' : Nat → Prop} {W w : World} (h : Fr S S' W w) {p : Addr} (hp : S' p.block) (u : Value) : Fr S S' W (w.setCell p u) := by
  refine ⟨h.os, h.tape, h.output, by simpa [World.setCell] using h.size, fun k hk hS => ?_, h.set⟩
  rw [Below.heap_setCell _ _ _ _ (by intro e; subst e; exact hS (h.set _ hk hp))]
  exact h.block k hk hS
theorem isBB_of_own {w : World} {B : Nat} {v : Value} {M : List Lm} {X : Nat → Prop} (O : w.ownsRow B 41 1 v M.length (M.map slv)) (hv : ∀ k, v.ownBlock = some k → X k) (hM : ∀ x ∈ M, IsSl w x.2.1 .u8 x.1.b ∧ ∀ a, x.2.1 = some a → X a.block) :
    IsBB w X v (M.map fun x => x.1.b) := by
  rcases O.2 with ⟨rfl, h0⟩ | ⟨g, cap, cur, rfl, _, hh, hnc, hcm, hcs, ht⟩
  · have : M = [] := List.eq_nil_of_length_eq_zero h0
    subst this
    exact ⟨none, 0, rfl, .inl rfl⟩
  · refine ⟨some ⟨g, 0, none⟩, cap, by simp, .inr ⟨g, 0, rfl, hv g rfl, Bk.lt (t := 41) hh, fun i xs hi => ?_⟩⟩
    simp only [List.getElem?_map, Option.map_eq_some_iff] at hi
    obtain ⟨x, hx, rfl⟩ := hi
    have hxm := List.mem_of_getElem? hx
    refine ⟨x.2.1, x.2.2, ?_, (hM x hxm).1, (hM x hxm).2⟩
    rw [Bk.cell (t := 41) hh, Nat.zero_add]
    have hl : i < M.length := (List.getElem?_eq_some_iff.1 hx).1
    have e : (M.map slv)[i]? = some (slv x) := by simp [hx]
    rw [← ht, List.getElem?_take_of_lt (by omega)] at e
    simpa [slv] using e
theorem Fr.heq {h : Nat} {w w' : World} (F : Fr (· = h) (· = h) w w') {A : Option Addr} {k : IntKind} {xs : List Int} (hA : IsSl w A k xs) (ha : ∀ a, A = some a → some h ≠ some a.block) : IsSl w' A k xs :=
  F.isl hA (fun a e he => ha a e (by rw [← he]))
theorem rel_end {W w5 : World} {S : Nat → Prop} {g : Nat} {st sp de co : Int} {s : Pl.Rst} {h ln cap sk : Nat} {L X : List Lm} {Y : List Value} {i : Int} {key : Int × Int} {rv : Value}
    (M : RcvM W S g st sp de co s (.slice (some ⟨h, 0, none⟩) ln cap) L) (F : Fr (· = h) (· = h) W w5) (H : HB w5 h cap X Y) (hX : X.take sk = stayL i L) (hsk : sk ≤ X.length) (hsc : sk ≤ cap) (hcm : cap ≤ maxLen)
    (O : w5.ownsRow W.heap.size 41 1 rv (relL i key L).length ((relL i key L).map slv)) :
    ∃ S', RcvS (w5.setCell ⟨g, 7, none⟩ (.slice (some ⟨h, 0, none⟩) sk cap)) S' g st sp de co ⟨s.kn, s.key, s.ms.filter (Pl.stayF i)⟩ ∧
      IsBB (w5.setCell ⟨g, 7, none⟩ (.slice (some ⟨h, 0, none⟩) sk cap)) (fun k => S' k ∧ k ≠ g) rv (Pl.dOut i key s.ms) ∧ Fr S S' W (w5.setCell ⟨g, 7, none⟩ (.slice (some ⟨h, 0, none⟩) sk cap)) := by
  have hgh : h ≠ g := (M.inh h rfl).2
  have hSh : S h := (M.inh h rfl).1
  have hgl := M.bk.lt
  have hs5 := F.size
  have K5 : Bk w5 g 76 (rcv st sp de co s.kn s.key.1 s.key.2 (.slice (some ⟨h, 0, none⟩) ln cap)) := F.bk M.bk (fun e => hgh e.symm)
  have hlen : (stayL i L).length = sk := by rw [← hX, List.length_take, Nat.min_eq_left hsk]
  have O5 := H.own hsk hsc hcm
  rw [hX] at O5
  have esz : (w5.setCell ⟨g, 7, none⟩ (.slice (some ⟨h, 0, none⟩) sk cap)).heap.size = w5.heap.size := by simp [World.setCell]
  have hbyt : ∀ x ∈ L, IsSl (w5.setCell ⟨g, 7, none⟩ (.slice (some ⟨h, 0, none⟩) sk cap)) x.2.1 .u8 x.1.b ∧ ∀ a, x.2.1 = some a → S a.block ∧ a.block ≠ g ∧ (Value.slice (some ⟨h, 0, none⟩) ln cap).ownBlock ≠ some a.block := by
    intro x hx
    obtain ⟨a1, a2⟩ := M.byt x hx
    exact ⟨far_isl (F.heq a1 (fun a ha => (a2 a ha).2.2)) (fun a ha => (a2 a ha).2.1), a2⟩
  refine ⟨fun k => S k ∨ (W.heap.size ≤ k ∧ k < w5.heap.size), ⟨.slice (some ⟨h, 0, none⟩) sk cap, stayL i L, ⟨?_, ?_, ?_, .inl M.ing, ?_, ?_, ?_⟩⟩, ?_, ?_⟩
  · rw [stayL_ms, M.ms]
  · exact K5.put 7 _
  · rw [hlen]
    exact far_own O5 (fun k hk => by cases hk; exact hgh)
  · intro k hk
    cases hk
    exact ⟨.inl hSh, hgh⟩
  · intro x hx
    obtain ⟨a1, a2⟩ := hbyt x (List.mem_filter.1 hx).1
    exact ⟨a1, fun a ha => ⟨.inl (a2 a ha).1, (a2 a ha).2.1, (a2 a ha).2.2⟩⟩
  · intro k hk
    rw [esz]
    rcases hk with hk | hk
    · have := M.lt k hk; omega
    · exact hk.2
  · rw [← M.ms, ← relL_ms]
    have hrl := World.ownsRow.lt O
    refine isBB_of_own (far_own O (fun k hk => by have := hrl k hk; dsimp only; omega)) (fun k hk => ⟨.inr (hrl k hk), by have := hrl k hk; omega⟩) (fun x hx => ?_)
    obtain ⟨a1, a2⟩ := hbyt x (List.mem_filter.1 hx).1
    exact ⟨a1, fun a ha => ⟨.inl (a2 a ha).1, (a2 a ha).2.1⟩⟩
  · refine Fr.setCell ⟨F.os, F.tape, F.output, F.size, fun k hk hS => F.block k hk (fun e => hS (by subst e; exact hSh)), fun k hk hS => ?_⟩ (.inl M.ing) _
    rcases hS with hS | hS
    · exact hS
    · omega
/-! One round. -/
theorem filter_snoc {α : Type} (p : α → Bool) (L : List α) (k : Nat) (x : α) (h : L[k]? = some x) : (L.take (k + 1)).filter p = (L.take k).filter p ++ (if p x then [x] else []) := by
  rw [List.take_add_one, h, List.filter_append]
  cases hp : p x <;> simp [hp]
/-- The list under the hand: what stays lies at its head, what is to come behind k. -/
structure Hand (i : Int) (L X : List Lm) (k : Nat) : Prop where
  len : X.length = L.length
  head : X.take (stayL i (L.take k)).length = stayL i (L.take k)
  tail : ∀ j, k ≤ j → X[j]? = L[j]?
theorem stayL_le (i : Int) (L : List Lm) (k : Nat) : (stayL i (L.take k)).length ≤ k := by
  have h1 := List.length_filter_le (fun x : Lm => Pl.stayF i x.1) (L.take k)
  have h2 : (L.take k).length ≤ k := List.length_take_le _ _
  unfold stayL
  omega
theorem Hand.zero (i : Int) (L : List Lm) : Hand i L L 0 := ⟨rfl, by simp [stayL], fun _ _ => rfl⟩
theorem Hand.skip {i : Int} {L X : List Lm} {k : Nat} {x : Lm} (H : Hand i L X k) (hx : L[k]? = some x) (hp : Pl.stayF i x.1 = false) : Hand i L X (k + 1) ∧ stayL i (L.take (k + 1)) = stayL i (L.take k) := by
  have e : stayL i (L.take (k + 1)) = stayL i (L.take k) := by
    unfold stayL
    rw [filter_snoc _ L k x hx, hp]
    simp
  exact ⟨⟨H.len, by rw [e]; exact H.head, fun j hj => H.tail j (by omega)⟩, e⟩
theorem Hand.keep {i : Int} {L X : List Lm} {k : Nat} {x : Lm} (H : Hand i L X k) (hx : L[k]? = some x) (hp : Pl.stayF i x.1 = true) :
    Hand i L (X.set (stayL i (L.take k)).length x) (k + 1) ∧ stayL i (L.take (k + 1)) = stayL i (L.take k) ++ [x] := by
  have hk : k < L.length := (List.getElem?_eq_some_iff.1 hx).1
  have hle := stayL_le i L k
  have e : stayL i (L.take (k + 1)) = stayL i (L.take k) ++ [x] := by
    have h1 := filter_snoc (fun y : Lm => Pl.stayF i y.1) L k x hx
    simp only [hp, if_true] at h1
    exact h1
  refine ⟨⟨by rw [List.length_set]; exact H.len, ?_, fun j hj => ?_⟩, e⟩
  · rw [e, List.length_append, List.length_singleton, List.take_add_one]
    rw [List.take_set_of_le (Nat.le_refl _), H.head]
    rw [List.getElem?_set_self (by rw [H.len]; omega)]
    rfl
  · rw [List.getElem?_set_ne (by omega)]
    exact H.tail j (by omega)
theorem relL_skip {i : Int} {key : Int × Int} {L : List Lm} {k : Nat} {x : Lm} (hx : L[k]? = some x) (hp : Pl.relF i key x.1 = false) : relL i key (L.take (k + 1)) = relL i key (L.take k) := by
  have h1 := filter_snoc (fun y : Lm => Pl.relF i key y.1) L k x hx
  simp only [hp] at h1
  simpa [relL] using h1
theorem relL_keep {i : Int} {key : Int × Int} {L : List Lm} {k : Nat} {x : Lm} (hx : L[k]? = some x) (hp : Pl.relF i key x.1 = true) : relL i key (L.take (k + 1)) = relL i key (L.take k) ++ [x] := by
  have h1 := filter_snoc (fun y : Lm => Pl.relF i key y.1) L k x hx
  simp only [hp, if_true] at h1
  exact h1
end Go.Proofs.YtmegiodajkeahaaDoor
