/- Many sources, and the lists of pointers to them: what PrngPlays keeps. -/
import Derived.Test.YtdfabmjkahhlmaaDoorLaw5
namespace Go.Proofs.YtdfabmjkahhlmaaDoor
open Go Go.RowKit
/-- The sources at the blocks ss, of type t, stand at d (seed, steps); all of them lie from B on. -/
structure Srcs (w : World) (t : TypeId) (B : Nat) (ss : List Nat) (d : List (Int × Nat)) : Prop where
  len : ss.length = d.length
  nodup : ss.Nodup
  src : ∀ (i : Nat) (g : Nat) (p : Int × Nat), ss[i]? = some g → d[i]? = some p → Src w g t p.1 p.2
  ge : ∀ g ∈ ss, B ≤ g
theorem Srcs.at_ {w : World} {t : TypeId} {B : Nat} {ss : List Nat} {d : List (Int × Nat)} (h : Srcs w t B ss d) {g : Nat} (hg : g ∈ ss) : ∃ p : Int × Nat, Src w g t p.1 p.2 := by
  obtain ⟨i, hi, rfl⟩ := List.getElem_of_mem hg
  exact ⟨d[i]'(by have := h.len; omega), h.src i _ _ (List.getElem?_eq_getElem hi) (List.getElem?_eq_getElem _)⟩
theorem Srcs.kept {w w' : World} {t : TypeId} {B : Nat} {ss : List Nat} {d : List (Int × Nat)} {r : Option Nat} (h : Srcs w t B ss d) (hg : w.grownBy w' r) (hr : ∀ k ∈ ss, r ≠ some k) : Srcs w' t B ss d :=
  ⟨h.len, h.nodup, fun i g p hi hp => by
    have hs := h.src i g p hi hp
    have hlt : g < w.heap.size := Bk.lt hs
    exact (hg.block g hlt (fun e => hr g (List.mem_of_getElem? hi) e.symm)).trans hs, h.ge⟩
theorem Srcs.next {w w' : World} {t : TypeId} {B : Nat} {ss : List Nat} {d : List (Int × Nat)} (h : Srcs w t B ss d) (hb : Below w.heap.size w w') : Srcs w' t B ss d :=
  ⟨h.len, h.nodup, fun i g p hi hp => Bk.next (h.src i g p hi hp) hb, h.ge⟩
theorem Srcs.far {w w' : World} {t t' : TypeId} {B g : Nat} {ss : List Nat} {d : List (Int × Nat)} {cs : Array Value} (h : Srcs w t B ss d) (ho : Only g w w') (hs : Bk w g t' cs) (hne : t ≠ t') : Srcs w' t B ss d :=
  h.kept ho (fun k hk e => by
    obtain rfl : g = k := by injection e
    obtain ⟨p, hp⟩ := h.at_ hk
    have e2 := hs.symm.trans hp
    simp only [Option.some.injEq, Obj.cells.injEq] at e2
    exact hne e2.2.1.symm)
theorem Srcs.own {w w' : World} {t : TypeId} {B i g n : Nat} {ss : List Nat} {d : List (Int × Nat)} {sd : Int} (h : Srcs w t B ss d) (hi : ss[i]? = some g) (ho : Only g w w') (hs : Src w' g t sd n) : Srcs w' t B ss (d.set i (sd, n)) :=
  ⟨by rw [List.length_set]; exact h.len, h.nodup, fun j k p hj hp => by
    rw [List.getElem?_set] at hp
    by_cases e : i = j
    · subst e
      rw [hi] at hj
      obtain rfl : g = k := by injection hj
      rw [if_pos rfl] at hp
      split at hp
      · obtain rfl : (sd, n) = p := by injection hp
        exact hs
      · cases hp
    · rw [if_neg e] at hp
      have hs := h.src j k p hj hp
      have hne : k ≠ g := fun e2 => by
        subst e2
        obtain ⟨i1, e1⟩ := List.getElem?_eq_some_iff.1 hi
        obtain ⟨j1, e2⟩ := List.getElem?_eq_some_iff.1 hj
        have hp := List.pairwise_iff_getElem.1 h.nodup
        rcases Nat.lt_or_gt_of_ne e with h3 | h3
        · exact hp i j i1 j1 h3 (e1.trans e2.symm)
        · exact hp j i j1 i1 h3 (e2.trans e1.symm)
      exact ho.bk hs hne, h.ge⟩
theorem Srcs.add {w : World} {t : TypeId} {B x n : Nat} {ss : List Nat} {d : List (Int × Nat)} {sd : Int} (h : Srcs w t B ss d) (hx : Src w x t sd n) (hB : B ≤ x) (hn : x ∉ ss) : Srcs w t B (ss ++ [x]) (d ++ [(sd, n)]) :=
  ⟨by simp [h.len], List.nodup_append.2 ⟨h.nodup, by simp, fun a ha b hb e => by simp at hb; subst hb; subst e; exact hn ha⟩, fun i g p hi hp => by
    rcases Nat.lt_or_ge i ss.length with hl | hl
    · rw [List.getElem?_append_left hl] at hi
      rw [List.getElem?_append_left (by have := h.len; omega)] at hp
      exact h.src i g p hi hp
    · have e : i = ss.length := by
        have := (List.getElem?_eq_some_iff.1 hi).1
        simp at this
        omega
      subst e
      rw [List.getElem?_append_right (Nat.le_refl _), Nat.sub_self] at hi
      rw [h.len, List.getElem?_append_right (Nat.le_refl _), Nat.sub_self] at hp
      simp at hi hp
      subst hi hp
      exact hx, fun g hg => by
    rcases List.mem_append.1 hg with hg | hg
    · exact h.ge g hg
    · simp at hg; subst hg; exact hB⟩
theorem Srcs.lt {w : World} {t : TypeId} {B : Nat} {ss : List Nat} {d : List (Int × Nat)} (h : Srcs w t B ss d) {g : Nat} (hg : g ∈ ss) : g < w.heap.size := by
  obtain ⟨p, hp⟩ := h.at_ hg
  exact Bk.lt hp
/-- A list of pointers, the call's own. -/
def Ptrs (w : World) (B : Nat) (e : TypeId) (v : Value) (ss : List Nat) : Prop := w.ownsRow B e 1 v ss.length (ss.map pt)
theorem Ptrs.kept {w w' : World} {B : Nat} {e : TypeId} {v : Value} {ss : List Nat} {r : Option Nat} (h : Ptrs w B e v ss) (hg : w.grownBy w' r) (hr : ∀ k, v.ownBlock = some k → r ≠ some k) : Ptrs w' B e v ss := by
  obtain ⟨h1, h2⟩ := h
  refine ⟨h1, ?_⟩
  rcases h2 with h2 | ⟨g, cap, cur, hv, hB, hh, q⟩
  · exact .inl h2
  · exact .inr ⟨g, cap, cur, hv, hB, (hg.block g (Bk.lt (t := e) hh) (fun e2 => hr g (by rw [hv]; rfl) e2.symm)).trans hh, q⟩
theorem Ptrs.next {w w' : World} {B : Nat} {e : TypeId} {v : Value} {ss : List Nat} (h : Ptrs w B e v ss) (hb : Below w.heap.size w w') : Ptrs w' B e v ss :=
  h.kept (r := none) ⟨hb.os, hb.tape, hb.output, hb.size, fun i hi _ => hb.block i hi⟩ (fun _ _ e => by cases e)
/-- A source's block is no list's block. -/
theorem Ptrs.ne {w : World} {B g : Nat} {e t : TypeId} {v : Value} {ss : List Nat} {cs : Array Value} (h : Ptrs w B e v ss) (hs : Bk w g t cs) (hne : e ≠ t) : ∀ k, v.ownBlock = some k → some g ≠ some k := fun k hk e2 => by
  obtain rfl : g = k := by injection e2
  rcases h.2 with ⟨rfl, _⟩ | ⟨g', cap, cur, rfl, hB, hh, _⟩
  · cases hk
  · obtain rfl : g' = g := by simpa [Value.ownBlock] using hk
    have e3 := (show w.heap[g']? = _ from hh).symm.trans hs
    simp only [Option.some.injEq, Obj.cells.injEq] at e3
    exact hne e3.2.1
theorem Ptrs.far {w w' : World} {B g : Nat} {e t : TypeId} {v : Value} {ss : List Nat} {cs : Array Value} (h : Ptrs w B e v ss) (ho : Only g w w') (hs : Bk w g t cs) (hne : e ≠ t) : Ptrs w' B e v ss := h.kept ho (h.ne hs hne)
theorem Ptrs.form {w : World} {B : Nat} {e : TypeId} {v : Value} {ss : List Nat} (h : Ptrs w B e v ss) (h0 : 0 < ss.length) : ∃ b c, v = .slice (some ⟨b, 0, none⟩) ss.length c ∧ B ≤ b ∧ b < w.heap.size ∧ ∀ (i : Nat) (g : Nat), ss[i]? = some g → w.cell? ⟨b, i, none⟩ = some (pt g) := by
  rcases h.2 with ⟨_, h1⟩ | ⟨b, cap, cur, hv, hB, hh, _, _, _, ht⟩
  · omega
  · refine ⟨b, cap, hv, hB, Bk.lt (t := e) hh, fun i g hi => ?_⟩
    have hi2 : i < ss.length := (List.getElem?_eq_some_iff.1 hi).1
    rw [Bk.cell (t := e) hh]
    have e1 : (ss.map pt)[i]? = some (pt g) := by rw [List.getElem?_map, hi]; rfl
    rw [← ht, List.getElem?_take_of_lt (by omega)] at e1
    simpa using e1
/-- A list of one pointer, just made. -/
theorem Ptrs.one {w : World} {B : Nat} {e : TypeId} {g x : Nat} (h : Bk w g e #[pt x]) (hB : B ≤ g) : Ptrs w B e (.slice (some ⟨g, 0, none⟩) 1 1) [x] :=
  ⟨rfl, .inr ⟨g, 1, #[pt x], rfl, hB, h, Nat.le_refl _, by unfold maxLen; omega, rfl, rfl⟩⟩
end Go.Proofs.YtdfabmjkahhlmaaDoor
