/- Plain law of chains of hops, no program in sight: a chain of two parts, what a service-free queue does, backlogs. -/
import Derived.Test.YtpmndpbaigcaeaaHopP
namespace Go.Proofs.Ytpmndpbaigcaeaa.Pl
def zeros (n : Nat) : List Int := List.replicate n 0
theorem gd_zeros (n k : Nat) : gd (zeros n) k = 0 := by
  unfold gd zeros; rw [List.getD_eq_getElem?_getD, List.getElem?_replicate]
  split <;> rfl
theorem zeros_len (n : Nat) : (zeros n).length = n := by unfold zeros; simp
theorem ext_gd {a b : List Int} (hl : a.length = b.length) (h : ∀ i, i < a.length → gd a i = gd b i) : a = b := by
  apply List.ext_getElem? ; intro i
  by_cases hi : i < a.length
  · rw [gd_get hi, gd_get (by omega), h i hi]
  · rw [List.getElem?_eq_none (by omega), List.getElem?_eq_none (by omega)]
theorem fr_zeros {lim : Int} {a s : List Int} (hz : ∀ i, gd s i = 0) (h3 : ∀ i, i < a.length → okM lim (gd a i) (gd s i) = true) (h4 : ∀ i, i + 1 < a.length → gd a i ≤ gd a (i + 1)) : ∀ k, k < a.length → fr a s (k + 1) = gd a k
  | 0, hk => by
    obtain ⟨g1, _⟩ := okM_true.1 (h3 0 hk)
    rw [fr_succ, hz]; unfold fr; split <;> omega
  | k + 1, hk => by
    have ih := fr_zeros hz h3 h4 k (by omega)
    have := h4 k hk
    rw [fr_succ, hz, ih]; split <;> omega
theorem deps_zeros {lim : Int} {a : List Int} (h : errOf lim a (zeros a.length) = 0) : deps a (zeros a.length) a.length = a := by
  obtain ⟨_, _, h3, h4⟩ := ok_of h
  apply ext_gd
  · rw [deps_len]
  · intro i hi
    rw [deps_len] at hi
    rw [deps_gd _ _ _ _ hi, fr_zeros (fun i => gd_zeros _ i) h3 h4 i hi]
abbrev M : Int := 1125899906842624
def chainE (lim : Int) (l : List Int) : List (List Int) → List Int × Int
  | [] => (l, 0)
  | s :: r => if errOf lim l s = 0 then chainE (2 * M) (deps l s l.length) r else ([], errOf lim l s)
def chainOf (a : List Int) (ss : List (List Int)) : List Int × Int :=
  if 16 < ss.length then ([], 6) else if ss.length = 0 then (if errOf M a (zeros a.length) = 0 then (a, 0) else ([], errOf M a (zeros a.length))) else chainE M a ss
theorem chainE_app : ∀ (p q : List (List Int)) (lim : Int) (l : List Int), (chainE lim l p).2 = 0 → chainE lim l (p ++ q) = chainE (if p.length = 0 then lim else 2 * M) (chainE lim l p).1 q
  | [], q, lim, l, _ => rfl
  | s :: p, q, lim, l, h => by
    simp only [List.cons_append, chainE] at h ⊢
    by_cases he : errOf lim l s = 0
    · rw [if_pos he] at h ⊢
      rw [if_pos he]
      have ih := chainE_app p q (2 * M) _ h
      rw [ih]
      simp
    · rw [if_neg he] at h; exact absurd h he
theorem err_le {lim lim' : Int} {l s : List Int} (h : errOf lim l s = 0) (hl : ∀ i, i < l.length → gd l i ≤ lim') : errOf lim' l s = 0 := by
  obtain ⟨h1, h2, h3, h4⟩ := ok_of h
  refine err_ok h1 h2 (fun i hi => ?_) h4
  have := okM_true.1 (h3 i hi)
  have := hl i hi
  exact okM_true.2 (by omega)
/-- What a chain returns: sorted, from 0, few. -/
def Good (b : List Int) : Prop := b.length ≤ 512 ∧ (∀ i, i < b.length → 0 ≤ gd b i) ∧ ∀ i, i + 1 < b.length → gd b i ≤ gd b (i + 1)
theorem good_deps {lim : Int} {l s : List Int} (hlim : 0 ≤ lim) (h : errOf lim l s = 0) : Good (deps l s l.length) := by
  obtain ⟨h1, h2, h3, h4⟩ := ok_of h
  refine ⟨by rw [deps_len]; exact h2, fun i hi => ?_, fun i hi => ?_⟩
  · rw [deps_len] at hi
    rw [deps_gd _ _ _ _ hi]
    exact (fr_bounds hlim h3 (i + 1) (by omega)).1
  · rw [deps_len] at hi
    rw [deps_gd _ _ _ _ (by omega), deps_gd _ _ _ _ hi]
    have := fr_ge l s (i + 1)
    have := okM_true.1 (h3 (i + 1) hi)
    omega
theorem good_chainE : ∀ (p : List (List Int)) (lim : Int) (l : List Int), 0 ≤ lim → p.length ≠ 0 → (chainE lim l p).2 = 0 → Good (chainE lim l p).1
  | [], _, _, _, h, _ => absurd rfl h
  | s :: p, lim, l, hlim, _, h => by
    simp only [chainE] at h ⊢
    by_cases he : errOf lim l s = 0
    · rw [if_pos he] at h ⊢
      cases p with
      | nil => exact good_deps hlim he
      | cons s' p => exact good_chainE (s' :: p) (2 * M) _ (by decide) (by simp) h
    · rw [if_neg he] at h; exact absurd h he
theorem good_chainOf {a : List Int} {ss : List (List Int)} (h : (chainOf a ss).2 = 0) : Good (chainOf a ss).1 := by
  unfold chainOf at h ⊢
  split at h
  · simp at h
  · next h16 =>
    rw [if_neg h16]
    split at h
    · next h0 =>
      rw [if_pos h0]
      split at h
      · next he =>
        rw [if_pos he]
        obtain ⟨_, h2, h3, h4⟩ := ok_of he
        exact ⟨h2, fun i hi => (okM_true.1 (h3 i hi)).1, h4⟩
      · next he => exact absurd h he
    · next h0 =>
      rw [if_neg h0]
      exact good_chainE ss M a (by decide) h0 h
theorem chain_parts {a : List Int} {ss : List (List Int)} {cut : Nat} (hc : cut ≤ ss.length) (h1 : (chainOf a ss).2 = 0) (h2 : (chainOf a (ss.take cut)).2 = 0)
    (hl : ∀ i, i < (chainOf a (ss.take cut)).1.length → gd (chainOf a (ss.take cut)).1 i ≤ M) :
    chainOf (chainOf a (ss.take cut)).1 (ss.drop cut) = chainOf a ss := by
  have hlen : (ss.take cut).length = cut := by simp; omega
  have hs : ss.take cut ++ ss.drop cut = ss := List.take_append_drop _ _
  have h16 : ¬ 16 < ss.length := fun h => by unfold chainOf at h1; rw [if_pos h] at h1; simp at h1
  by_cases h0 : cut = 0
  · subst h0
    have hb : chainOf a (ss.take 0) = (a, 0) := by
      unfold chainOf at h2 ⊢
      simp at h2 ⊢
      split at h2
      · next he => exact fun hn => absurd he hn
      · next he => exact absurd h2 he
    rw [hb]; rfl
  · have hG := good_chainOf h2
    have hb : chainOf a (ss.take cut) = chainE M a (ss.take cut) := by unfold chainOf; rw [if_neg (by omega), if_neg (by omega)]
    have hx : chainOf a ss = chainE M a ss := by unfold chainOf; rw [if_neg h16, if_neg (by omega)]
    have happ := chainE_app (ss.take cut) (ss.drop cut) M a (by rw [← hb]; exact h2)
    rw [hs, if_neg (by omega), ← hb] at happ
    rw [hx, happ]
    rw [hx, happ] at h1
    generalize chainOf a (ss.take cut) = B at *
    obtain ⟨b, e⟩ := B
    simp only at *
    obtain ⟨g1, g2, g3⟩ := hG
    unfold chainOf
    rw [if_neg (by simp; omega)]
    cases hd : ss.drop cut with
    | nil =>
      rw [if_pos (by rfl)]
      have : errOf M b (zeros b.length) = 0 := err_ok (zeros_len _).symm g1 (fun i hi => okM_true.2 (by have := gd_zeros b.length i; have := g2 i hi; have := hl i hi; omega)) g3
      rw [if_pos this]; rfl
    | cons s r =>
      rw [if_neg (by simp)]
      rw [hd] at h1
      simp only [chainE] at h1 ⊢
      split at h1
      · next he => rw [if_pos he, if_pos (err_le he hl)]
      · next he => exact absurd h1 he
/-- The number of messages that have arrived and not departed. -/
def inside (a d : List Int) (t : Int) : Nat → Int
  | 0 => 0
  | k + 1 => if gd a k ≤ t ∧ t < gd d k then inside a d t k + 1 else inside a d t k
theorem inside_bounds (a d : List Int) (t : Int) : ∀ k, 0 ≤ inside a d t k ∧ inside a d t k ≤ k
  | 0 => by unfold inside; omega
  | k + 1 => by have := inside_bounds a d t k; unfold inside; split <;> omega
/-- Arrivals less departures. -/
def net (a d : List Int) (t : Int) : Nat → Int
  | 0 => 0
  | k + 1 => (if gd a k ≤ t then 1 else 0) - (if gd d k ≤ t then 1 else 0) + net a d t k
theorem net_inside {a d : List Int} {t : Int} : ∀ k, (∀ i, i < k → gd a i ≤ gd d i) → net a d t k = inside a d t k
  | 0, _ => rfl
  | k + 1, h => by
    have ih := net_inside (t := t) k (fun i hi => h i (by omega))
    have := h k (by omega)
    unfold net inside
    rw [ih]
    split <;> split <;> split <;> omega
theorem inside_pos {a d : List Int} {t : Int} : ∀ k, 0 < inside a d t k ↔ ∃ i, i < k ∧ gd a i ≤ t ∧ t < gd d i
  | 0 => Iff.intro (fun h => by unfold inside at h; omega) (fun ⟨i, hi, _⟩ => by omega)
  | k + 1 => by
    have ih := inside_pos (a := a) (d := d) (t := t) k
    have := inside_bounds a d t k
    unfold inside
    split
    · next h => exact Iff.intro (fun _ => ⟨k, by omega, h⟩) (fun _ => by omega)
    · next h =>
      rw [ih]
      constructor
      · rintro ⟨i, hi, hh⟩; exact ⟨i, by omega, hh⟩
      · rintro ⟨i, hi, hh⟩
        refine ⟨i, ?_, hh⟩
        by_cases hik : i = k
        · subst hik; exact absurd hh h
        · omega
/-- The backlog is above 0 just within the busy intervals. -/
theorem busy_iff {lim : Int} {a s : List Int} (h : errOf lim a s = 0) (t : Int) : 0 < inside a (deps a s a.length) t a.length ↔ covers (bs a s a.length) t := by
  obtain ⟨_, _, h3, h4⟩ := ok_of h
  rw [(bus h3 h4 a.length (Nat.le_refl _)).cov t, inside_pos]
  constructor
  · rintro ⟨i, hi, h1, h2⟩
    rw [deps_gd _ _ _ _ hi] at h2
    exact ⟨i, hi, h1, h2⟩
  · rintro ⟨i, hi, h1, h2⟩
    exact ⟨i, hi, h1, by rw [deps_gd _ _ _ _ hi]; exact h2⟩
theorem dep_ge {lim : Int} {a s : List Int} (h : errOf lim a s = 0) (i : Nat) (hi : i < a.length) : gd a i ≤ gd (deps a s a.length) i := by
  obtain ⟨_, _, h3, _⟩ := ok_of h
  rw [deps_gd _ _ _ _ hi]
  have := fr_ge a s i
  have := okM_true.1 (h3 i hi)
  omega
end Go.Proofs.Ytpmndpbaigcaeaa.Pl
