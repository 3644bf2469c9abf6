/- Plain law of hops, no program in sight: when messages leave a queue, its errors, its busy intervals. -/
namespace Go.Proofs.Ytpmndpbaigcaeaa.Pl
def gd (l : List Int) (k : Nat) : Int := l.getD k 0
theorem gd_some {l : List Int} {k : Nat} {x : Int} (h : l[k]? = some x) : gd l k = x := by unfold gd; simp [h]
theorem gd_get {l : List Int} {k : Nat} (h : k < l.length) : l[k]? = some (gd l k) := by unfold gd; simp [h]
/-- When the queue is free again behind k messages. -/
def fr (a s : List Int) : Nat → Int
  | 0 => 0
  | k + 1 => (if gd a k < fr a s k then fr a s k else gd a k) + gd s k
/-- The first n departures. -/
def deps (a s : List Int) (n : Nat) : List Int := (List.range n).map fun i => fr a s (i + 1)
theorem deps_len (a s : List Int) (n : Nat) : (deps a s n).length = n := by unfold deps; simp
theorem deps_succ (a s : List Int) (n : Nat) : deps a s (n + 1) = deps a s n ++ [fr a s (n + 1)] := by unfold deps; rw [List.range_succ, List.map_append]; rfl
theorem deps_get (a s : List Int) (n k : Nat) (h : k < n) : (deps a s n)[k]? = some (fr a s (k + 1)) := by unfold deps; simp [h]
theorem deps_gd (a s : List Int) (n k : Nat) (h : k < n) : gd (deps a s n) k = fr a s (k + 1) := gd_some (deps_get a s n k h)
def okM (lim x y : Int) : Bool := decide (0 ≤ x) && decide (x ≤ lim) && decide (0 ≤ y) && decide (y ≤ 10000000000)
theorem okM_true {lim x y : Int} : okM lim x y = true ↔ 0 ≤ x ∧ x ≤ lim ∧ 0 ≤ y ∧ y ≤ 10000000000 := by unfold okM; simp [and_assoc]
theorem okM_false {lim x y : Int} : okM lim x y = false ↔ x < 0 ∨ lim < x ∨ y < 0 ∨ 10000000000 < y := by
  rw [← Bool.not_eq_true, okM_true]; omega
def allOk (lim : Int) (a s : List Int) : Bool := (List.range a.length).all fun i => okM lim (gd a i) (gd s i)
def sorted (a : List Int) : Bool := (List.range (a.length - 1)).all fun i => decide (gd a i ≤ gd a (i + 1))
def errOf (lim : Int) (a s : List Int) : Int := if a.length ≠ s.length then 2 else if 512 < a.length then 6 else if allOk lim a s = false then 3 else if sorted a = false then 12 else 0
theorem allOk_iff {lim : Int} {a s : List Int} : allOk lim a s = true ↔ ∀ i, i < a.length → okM lim (gd a i) (gd s i) = true := by unfold allOk; simp
theorem sorted_iff {a : List Int} : sorted a = true ↔ ∀ i, i + 1 < a.length → gd a i ≤ gd a (i + 1) := by
  unfold sorted; simp
  exact ⟨fun h i hi => h i (by omega), fun h i hi => h i (by omega)⟩
theorem err_len {lim : Int} {a s : List Int} (h : a.length ≠ s.length) : errOf lim a s = 2 := by unfold errOf; rw [if_pos h]
theorem err_long {lim : Int} {a s : List Int} (h : a.length = s.length) (h2 : 512 < a.length) : errOf lim a s = 6 := by unfold errOf; rw [if_neg (by simpa using h), if_pos h2]
theorem err_range {lim : Int} {a s : List Int} (h : a.length = s.length) (h2 : a.length ≤ 512) {i : Nat} (hi : i < a.length) (hb : okM lim (gd a i) (gd s i) = false) : errOf lim a s = 3 := by
  have : allOk lim a s = false := by
    rw [← Bool.not_eq_true, allOk_iff]; intro hh
    rw [hh i hi] at hb; cases hb
  unfold errOf; rw [if_neg (by simpa using h), if_neg (by omega), if_pos this]
theorem err_order {lim : Int} {a s : List Int} (h : a.length = s.length) (h2 : a.length ≤ 512) (h3 : ∀ i, i < a.length → okM lim (gd a i) (gd s i) = true) {i : Nat} (hi : i + 1 < a.length) (hb : gd a (i + 1) < gd a i) : errOf lim a s = 12 := by
  have : sorted a = false := by
    rw [← Bool.not_eq_true, sorted_iff]; intro hh
    have := hh i hi; omega
  unfold errOf; rw [if_neg (by simpa using h), if_neg (by omega), if_neg (by rw [allOk_iff.2 h3]; simp), if_pos this]
theorem err_ok {lim : Int} {a s : List Int} (h : a.length = s.length) (h2 : a.length ≤ 512) (h3 : ∀ i, i < a.length → okM lim (gd a i) (gd s i) = true) (h4 : ∀ i, i + 1 < a.length → gd a i ≤ gd a (i + 1)) : errOf lim a s = 0 := by
  unfold errOf; rw [if_neg (by simpa using h), if_neg (by omega), if_neg (by rw [allOk_iff.2 h3]; simp), if_neg (by rw [sorted_iff.2 h4]; simp)]
theorem ok_of {lim : Int} {a s : List Int} (h : errOf lim a s = 0) : a.length = s.length ∧ a.length ≤ 512 ∧ (∀ i, i < a.length → okM lim (gd a i) (gd s i) = true) ∧ (∀ i, i + 1 < a.length → gd a i ≤ gd a (i + 1)) := by
  unfold errOf at h
  split at h
  · omega
  · split at h
    · omega
    · split at h
      · omega
      · split at h
        · omega
        · next h1 h2 h3 h4 => exact ⟨by simpa using h1, by omega, allOk_iff.1 (by simpa using h3), sorted_iff.1 (by simpa using h4)⟩
theorem err_bounds (lim : Int) (a s : List Int) : 0 ≤ errOf lim a s ∧ errOf lim a s ≤ 12 := by
  unfold errOf; split <;> (try split) <;> (try split) <;> (try split) <;> omega
theorem le_of_sorted {a : List Int} (h : ∀ i, i + 1 < a.length → gd a i ≤ gd a (i + 1)) : ∀ j i, i ≤ j → j < a.length → gd a i ≤ gd a j
  | 0, i, hi, _ => by have : i = 0 := by omega
                      subst this; exact Int.le_refl _
  | j + 1, i, hi, hj => by
    by_cases hij : i = j + 1
    · subst hij; exact Int.le_refl _
    · have h1 := le_of_sorted h j i (by omega) (by omega)
      have h2 := h j (by omega)
      omega
theorem fr_succ (a s : List Int) (k : Nat) : fr a s (k + 1) = (if gd a k < fr a s k then fr a s k else gd a k) + gd s k := rfl
theorem fr_bounds {lim : Int} {a s : List Int} (hl : 0 ≤ lim) (h3 : ∀ i, i < a.length → okM lim (gd a i) (gd s i) = true) : ∀ k, k ≤ a.length → 0 ≤ fr a s k ∧ fr a s k ≤ lim + 10000000000 * k
  | 0, _ => by unfold fr; omega
  | k + 1, hk => by
    obtain ⟨h1, h2⟩ := fr_bounds hl h3 k (by omega)
    obtain ⟨g1, g2, g3, g4⟩ := okM_true.1 (h3 k (by omega))
    rw [fr_succ]
    split <;> omega
theorem fr_mono {lim : Int} {a s : List Int} (h3 : ∀ i, i < a.length → okM lim (gd a i) (gd s i) = true) (k : Nat) (hk : k < a.length) : fr a s k ≤ fr a s (k + 1) := by
  obtain ⟨g1, g2, g3, g4⟩ := okM_true.1 (h3 k (by omega))
  rw [fr_succ]; split <;> omega
theorem fr_ge (a s : List Int) (k : Nat) : gd a k + gd s k ≤ fr a s (k + 1) ∧ fr a s k + gd s k ≤ fr a s (k + 1) := by
  rw [fr_succ]; split <;> omega
/-- The waits. -/
def wt (a s : List Int) (k : Nat) : Int := fr a s (k + 1) - gd s k - gd a k
def waits (a s : List Int) (n : Nat) : List Int := (List.range n).map (wt a s)
theorem waits_len (a s : List Int) (n : Nat) : (waits a s n).length = n := by unfold waits; simp
/-- The busy intervals. -/
def bstep (l : List (Int × Int)) (x d : Int) : List (Int × Int) :=
  match l.getLast? with
  | some p => if x ≤ p.2 then l.dropLast ++ [(p.1, d)] else if x < d then l ++ [(x, d)] else l
  | none => if x < d then l ++ [(x, d)] else l
def bs (a s : List Int) : Nat → List (Int × Int)
  | 0 => []
  | k + 1 => bstep (bs a s k) (gd a k) (fr a s (k + 1))
theorem bstep_len (l : List (Int × Int)) (x d : Int) : (bstep l x d).length ≤ l.length + 1 := by
  unfold bstep; split
  · split
    · simp
    · split <;> simp
  · split <;> simp
theorem bs_len (a s : List Int) : ∀ k, (bs a s k).length ≤ k
  | 0 => Nat.le_refl _
  | k + 1 => by have := bstep_len (bs a s k) (gd a k) (fr a s (k + 1)); have := bs_len a s k; unfold bs; omega
/-- Behind k messages: where the busy intervals end, what they cover, what they add up to. -/
def covers (l : List (Int × Int)) (t : Int) : Prop := ∃ p ∈ l, p.1 ≤ t ∧ t < p.2
def total (l : List (Int × Int)) : Int := (l.map fun p => p.2 - p.1).sum
def work (s : List Int) : Nat → Int
  | 0 => 0
  | k + 1 => work s k + gd s k
def apart (l : List (Int × Int)) : Prop := (∀ p ∈ l, p.1 < p.2) ∧ ∀ (i : Nat) (p q : Int × Int), l[i]? = some p → l[i + 1]? = some q → p.2 < q.1
theorem covers_snoc (l : List (Int × Int)) (p : Int × Int) (t : Int) : covers (l ++ [p]) t ↔ covers l t ∨ (p.1 ≤ t ∧ t < p.2) := by
  unfold covers
  constructor
  · rintro ⟨q, hq, h⟩
    rcases List.mem_append.1 hq with hq | hq
    · exact .inl ⟨q, hq, h⟩
    · simp at hq; subst hq; exact .inr h
  · rintro (⟨q, hq, h⟩ | h)
    · exact ⟨q, by simp [hq], h⟩
    · exact ⟨p, by simp, h⟩
theorem total_snoc (l : List (Int × Int)) (p : Int × Int) : total (l ++ [p]) = total l + (p.2 - p.1) := by unfold total; simp
theorem snoc_of {l : List (Int × Int)} {p : Int × Int} (h : l.getLast? = some p) : l = l.dropLast ++ [p] := by
  have hne : l ≠ [] := by intro h0; subst h0; cases h
  rw [List.getLast?_eq_some_getLast hne] at h
  cases h
  exact (List.dropLast_concat_getLast hne).symm
theorem apart_snoc {l : List (Int × Int)} {p : Int × Int} : apart (l ++ [p]) ↔ apart l ∧ p.1 < p.2 ∧ ∀ q, l.getLast? = some q → q.2 < p.1 := by
  unfold apart
  constructor
  · rintro ⟨h1, h2⟩
    refine ⟨⟨fun q hq => h1 q (by simp [hq]), fun i a b ha hb => ?_⟩, h1 p (by simp), fun q hq => ?_⟩
    · have la := (List.getElem?_eq_some_iff.1 ha).1
      have lb := (List.getElem?_eq_some_iff.1 hb).1
      exact h2 i a b (by rw [List.getElem?_append_left la]; exact ha) (by rw [List.getElem?_append_left lb]; exact hb)
    · have hs := snoc_of hq
      have hl : l.length = l.dropLast.length + 1 := by rw [hs]; simp
      refine h2 l.dropLast.length q p ?_ ?_
      · rw [List.getElem?_append_left (by omega), List.getLast?_eq_getElem?] at *
        rw [← hq]; simp
      · rw [List.getElem?_append_right (by omega), hl]; simp
  · rintro ⟨⟨h1, h2⟩, h3, h4⟩
    refine ⟨fun q hq => ?_, fun i a b ha hb => ?_⟩
    · rcases List.mem_append.1 hq with hq | hq
      · exact h1 q hq
      · simp at hq; subst hq; exact h3
    · by_cases hi : i + 1 < l.length
      · rw [List.getElem?_append_left (by omega)] at ha
        rw [List.getElem?_append_left hi] at hb
        exact h2 i a b ha hb
      · have lb := (List.getElem?_eq_some_iff.1 hb).1
        simp at lb
        have he : i + 1 = l.length := by omega
        rw [List.getElem?_append_left (by omega)] at ha
        rw [List.getElem?_append_right (by omega)] at hb
        simp [he] at hb
        subst hb
        refine h4 a ?_
        rw [List.getLast?_eq_getElem?, ← he]; simpa using ha
theorem apart_drop {l : List (Int × Int)} {p : Int × Int} (h : apart (l ++ [p])) : apart l := (apart_snoc.1 h).1
structure Bus (a s : List Int) (k : Nat) : Prop where
  last : ∀ p, (bs a s k).getLast? = some p → p.2 ≤ fr a s k ∧ (∀ x, (∀ j, j < k → gd a j ≤ x) → p.1 ≤ x)
  free : (∃ p, (bs a s k).getLast? = some p ∧ p.2 = fr a s k) ∨ ∀ x, 0 ≤ x → (∀ j, j < k → gd a j ≤ x) → fr a s k ≤ x
  cov : ∀ t, covers (bs a s k) t ↔ ∃ i, i < k ∧ gd a i ≤ t ∧ t < fr a s (i + 1)
  tot : total (bs a s k) = work s k
  ap : apart (bs a s k)
theorem bus {lim : Int} {a s : List Int} (h3 : ∀ i, i < a.length → okM lim (gd a i) (gd s i) = true) (h4 : ∀ i, i + 1 < a.length → gd a i ≤ gd a (i + 1)) : ∀ k, k ≤ a.length → Bus a s k
  | 0, _ => { last := fun p h => by cases h
              free := .inr fun x hx _ => hx
              cov := fun t => Iff.intro (fun ⟨p, hp, _⟩ => by cases hp) (fun ⟨i, hi, _⟩ => by omega)
              tot := rfl
              ap := ⟨fun p hp => (by cases hp), fun i p q hp _ => (by simp [bs] at hp)⟩ }
  | k + 1, hk => by
    have B := bus h3 h4 k (by omega)
    have hmon : ∀ j, j < k → gd a j ≤ gd a k := fun j hj => le_of_sorted h4 k j (by omega) (by omega)
    obtain ⟨g1, g2, g3, g4⟩ := okM_true.1 (h3 k (by omega))
    have hf := fr_succ a s k
    have hcov : ∀ t, (∃ i, i < k + 1 ∧ gd a i ≤ t ∧ t < fr a s (i + 1)) ↔ (covers (bs a s k) t ∨ (gd a k ≤ t ∧ t < fr a s (k + 1))) := fun t => by
      rw [B.cov t]
      constructor
      · rintro ⟨i, hi, h⟩
        by_cases hik : i = k
        · subst hik; exact .inr h
        · exact .inl ⟨i, by omega, h⟩
      · rintro (⟨i, hi, h⟩ | h)
        · exact ⟨i, by omega, h⟩
        · exact ⟨k, by omega, h⟩
    have hbs : bs a s (k + 1) = bstep (bs a s k) (gd a k) (fr a s (k + 1)) := rfl
    have happ : ∀ (hnone : ∀ p, (bs a s k).getLast? = some p → p.2 < gd a k) (hlt : gd a k < fr a s (k + 1)), bs a s (k + 1) = bs a s k ++ [(gd a k, fr a s (k + 1))] → Bus a s (k + 1) := fun hnone hlt he => by
      have hfx : fr a s k ≤ gd a k := by
        rcases B.free with ⟨p, hp, hpe⟩ | h
        · have := hnone p hp; omega
        · exact h (gd a k) g1 hmon
      have e1 : fr a s (k + 1) = gd a k + gd s k := by rw [hf]; split <;> omega
      exact { last := fun p hp => by
                rw [he] at hp; simp at hp; subst hp
                exact ⟨Int.le_refl _, fun x hx => hx k (by omega)⟩
              free := .inl ⟨(gd a k, fr a s (k + 1)), by rw [he]; simp, rfl⟩
              cov := fun t => by rw [hcov, he, covers_snoc]
              tot := by rw [he, total_snoc, B.tot]; show _ = work s k + gd s k; omega
              ap := by rw [he, apart_snoc]; exact ⟨B.ap, hlt, hnone⟩ }
    have hstay : ∀ (hnone : ∀ p, (bs a s k).getLast? = some p → p.2 < gd a k) (hlt : ¬ gd a k < fr a s (k + 1)), bs a s (k + 1) = bs a s k → Bus a s (k + 1) := fun hnone hlt he => by
      have e1 : gd s k = 0 ∧ fr a s (k + 1) = gd a k ∧ fr a s k ≤ gd a k := by
        by_cases hc : gd a k < fr a s k
        · rw [if_pos hc] at hf; omega
        · rw [if_neg hc] at hf; omega
      exact { last := fun p hp => by
                rw [he] at hp
                have := B.last p hp
                exact ⟨by omega, fun x hx => this.2 x (fun j hj => hx j (by omega))⟩
              free := .inr fun x _ hx => by have := hx k (by omega); omega
              cov := fun t => by
                rw [hcov, he]
                constructor
                · exact .inl
                · rintro (h | h)
                  · exact h
                  · omega
              tot := by rw [he, B.tot]; show _ = work s k + gd s k; omega
              ap := by rw [he]; exact B.ap }
    unfold bstep at hbs
    cases hl : (bs a s k).getLast? with
    | none =>
      rw [hl] at hbs
      by_cases hlt : gd a k < fr a s (k + 1)
      · exact happ (fun p hp => by rw [hl] at hp; cases hp) hlt (by simpa [hlt] using hbs)
      · exact hstay (fun p hp => by rw [hl] at hp; cases hp) hlt (by simpa [hlt] using hbs)
    | some p =>
      rw [hl] at hbs
      by_cases hin : gd a k ≤ p.2
      · obtain ⟨b1, b2⟩ := B.last p hl
        have hs := snoc_of hl
        have hpe : p.2 = fr a s k := by
          rcases B.free with ⟨q, hq, hqe⟩ | h
          · rw [hl] at hq; cases hq; exact hqe
          · have := h (gd a k) g1 hmon; omega
        have hp1 : p.1 ≤ gd a k := b2 (gd a k) hmon
        have e1 : fr a s (k + 1) = p.2 + gd s k := by rw [hf]; split <;> omega
        have he : bs a s (k + 1) = (bs a s k).dropLast ++ [(p.1, fr a s (k + 1))] := by simpa [hin] using hbs
        have hap : apart ((bs a s k).dropLast ++ [p]) := by rw [← hs]; exact B.ap
        have hap' := apart_snoc.1 hap
        have htot : total ((bs a s k).dropLast ++ [p]) = work s k := by rw [← hs]; exact B.tot
        rw [total_snoc] at htot
        exact { last := fun q hq => by
                  rw [he] at hq; simp at hq; subst hq
                  exact ⟨Int.le_refl _, fun x hx => b2 x (fun j hj => hx j (by omega))⟩
                free := .inl ⟨(p.1, fr a s (k + 1)), by rw [he]; simp, rfl⟩
                cov := fun t => by
                  rw [hcov, he, covers_snoc]
                  have h0 : covers (bs a s k) t ↔ covers (bs a s k).dropLast t ∨ (p.1 ≤ t ∧ t < p.2) := by rw [← covers_snoc, ← hs]
                  rw [h0]
                  constructor
                  · rintro (h | h)
                    · exact .inl (.inl h)
                    · by_cases ht : t < p.2
                      · exact .inl (.inr ⟨h.1, ht⟩)
                      · exact .inr ⟨by omega, h.2⟩
                  · rintro ((h | h) | h)
                    · exact .inl h
                    · exact .inr ⟨h.1, by show t < fr a s (k + 1); omega⟩
                    · exact .inr ⟨by show p.1 ≤ t; omega, h.2⟩
                tot := by rw [he, total_snoc]; show _ = work s k + gd s k; simp only; omega
                ap := by
                  rw [he, apart_snoc]
                  exact ⟨hap'.1, by have := hap'.2.1; show p.1 < fr a s (k + 1); omega, hap'.2.2⟩ }
      · by_cases hlt : gd a k < fr a s (k + 1)
        · exact happ (fun q hq => by rw [hl] at hq; cases hq; omega) hlt (by simpa [hin, hlt] using hbs)
        · exact hstay (fun q hq => by rw [hl] at hq; cases hq; omega) hlt (by simpa [hin, hlt] using hbs)
end Go.Proofs.Ytpmndpbaigcaeaa.Pl
