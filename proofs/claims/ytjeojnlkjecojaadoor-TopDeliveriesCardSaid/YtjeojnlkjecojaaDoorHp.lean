/- A heap as a list: the order by times, what a swap, a push and a removal do to it. No program in sight. -/
namespace Go.Proofs.YtjeojnlkjecojaaDoor
namespace Hp
/-- An event: its time, its number, what it is. -/
structure Ev where
  at_ : Int
  id : Int
  item : Int
/-- An event comes before another. -/
def bf (x y : Ev) : Bool := if x.at_ = y.at_ then decide (x.id < y.id) else decide (x.at_ < y.at_)
theorem bf_true {x y : Ev} (h : bf x y = true) : x.at_ ≤ y.at_ := by
  unfold bf at h
  split at h
  · omega
  · have := of_decide_eq_true h; omega
theorem bf_false {x y : Ev} (h : bf x y = false) : y.at_ ≤ x.at_ := by
  unfold bf at h
  split at h
  · omega
  · have := of_decide_eq_false h; omega
def HeapF (a : Nat → Int) (n : Nat) : Prop := ∀ j, 0 < j → j < n → a ((j - 1) / 2) ≤ a j
def UpF (a : Nat → Int) (n i : Nat) : Prop := (∀ j, 0 < j → j < n → j ≠ i → a ((j - 1) / 2) ≤ a j) ∧ (0 < i → ∀ j, 0 < j → j < n → (j - 1) / 2 = i → a ((i - 1) / 2) ≤ a j)
def DownF (a : Nat → Int) (n i : Nat) : Prop := (∀ j, 0 < j → j < n → (j - 1) / 2 ≠ i → a ((j - 1) / 2) ≤ a j) ∧ (0 < i → ∀ j, 0 < j → j < n → (j - 1) / 2 = i → a ((i - 1) / 2) ≤ a j)
theorem up_step {a b : Nat → Int} {n i : Nat} (hi : 0 < i) (hn : i < n) (h : UpF a n i) (hle : a i ≤ a ((i - 1) / 2)) (hp : b ((i - 1) / 2) = a i) (hq : b i = a ((i - 1) / 2)) (hb : ∀ k, k ≠ i → k ≠ (i - 1) / 2 → b k = a k) : UpF b n ((i - 1) / 2) := by
  obtain ⟨h1, h2⟩ := h
  have h2 := h2 hi
  refine ⟨fun j j0 jn jp => ?_, fun p0 j j0 jn jp => ?_⟩
  · by_cases e : j = i
    · subst e; rw [hp, hq]; exact hle
    · rw [hb j e jp]
      have q1 := h1 j j0 jn e
      by_cases e1 : (j - 1) / 2 = i
      · rw [e1, hq]; exact h2 j j0 jn e1
      · by_cases e2 : (j - 1) / 2 = (i - 1) / 2
        · rw [e2, hp]; rw [e2] at q1; omega
        · rw [hb _ e1 e2]; exact q1
  · have q0 := h1 ((i - 1) / 2) p0 (by omega) (by omega)
    rw [hb (((i - 1) / 2 - 1) / 2) (by omega) (by omega)]
    by_cases e : j = i
    · subst e; rw [hq]; exact q0
    · rw [hb j e (by omega)]
      have q1 := h1 j j0 jn e
      rw [jp] at q1
      omega
theorem up_done0 {a : Nat → Int} {n : Nat} (h : UpF a n 0) : HeapF a n := fun j j0 jn => h.1 j j0 jn (by omega)
theorem up_done {a : Nat → Int} {n i : Nat} (h : UpF a n i) (hle : a ((i - 1) / 2) ≤ a i) : HeapF a n := fun j j0 jn => by
  by_cases e : j = i
  · rw [e]; exact hle
  · exact h.1 j j0 jn e
theorem down_step {a b : Nat → Int} {n i f : Nat} (hf : (f - 1) / 2 = i) (f0 : 0 < f) (hn : f < n) (h : DownF a n i) (hle : a f ≤ a i) (hmin : ∀ c, 0 < c → c < n → (c - 1) / 2 = i → a f ≤ a c) (hp : b i = a f) (hq : b f = a i) (hb : ∀ k, k ≠ i → k ≠ f → b k = a k) : DownF b n f := by
  obtain ⟨h1, h2⟩ := h
  refine ⟨fun j j0 jn jp => ?_, fun _ j j0 jn jp => ?_⟩
  · by_cases e : j = f
    · subst e; rw [hf, hp, hq]; exact hle
    · by_cases e1 : (j - 1) / 2 = i
      · rw [e1, hp, hb j (by omega) e]; exact hmin j j0 jn e1
      · by_cases e2 : j = i
        · subst e2
          rw [hb ((j - 1) / 2) (by omega) jp, hp]
          exact h2 j0 f f0 hn hf
        · rw [hb _ e1 jp, hb j e2 e]; exact h1 j j0 jn e1
  · rw [hf, hp, hb j (by omega) (by omega)]
    have q := h1 j j0 jn (by omega)
    rw [jp] at q
    exact q
theorem down_done {a : Nat → Int} {n i : Nat} (h : DownF a n i) (hmin : ∀ c, 0 < c → c < n → (c - 1) / 2 = i → a i ≤ a c) : HeapF a n := fun j j0 jn => by
  by_cases e : (j - 1) / 2 = i
  · rw [e]; exact hmin j j0 jn e
  · exact h.1 j j0 jn e
theorem root_min {a : Nat → Int} {n : Nat} (h : HeapF a n) : ∀ m j, j ≤ m → j < n → a 0 ≤ a j
  | 0, j, hm, hj => by rw [show j = 0 from by omega]; exact Int.le_refl _
  | m + 1, j, hm, hj => by
    by_cases e : j = 0
    · rw [e]; exact Int.le_refl _
    · have h1 := h j (by omega) hj
      have h2 := root_min h m ((j - 1) / 2) (by omega) (by omega)
      omega
def ev0 : Ev := ⟨0, 0, 0⟩
/-- The times of a list. -/
def ats (L : List Ev) (i : Nat) : Int := (L.getD i ev0).at_
def swp (L : List Ev) (i j : Nat) : List Ev := (L.set i (L.getD j ev0)).set j (L.getD i ev0)
theorem swp_len (L : List Ev) (i j : Nat) : (swp L i j).length = L.length := by unfold swp; simp
theorem getD_set {L : List Ev} {i k : Nat} {x : Ev} (hi : i < L.length) : (L.set i x).getD k ev0 = if k = i then x else L.getD k ev0 := by
  simp only [List.getD, List.getElem?_set]
  by_cases e : i = k
  · subst e; simp [hi]
  · rw [if_neg e, if_neg (fun h => e h.symm)]
theorem swp_j {L : List Ev} {i j : Nat} (hj : j < L.length) : ats (swp L i j) j = ats L i := by
  unfold ats swp
  rw [getD_set (by simpa using hj), if_pos rfl]
theorem swp_i {L : List Ev} {i j : Nat} (hi : i < L.length) (hj : j < L.length) : ats (swp L i j) i = ats L j := by
  unfold ats swp
  rw [getD_set (by simpa using hj)]
  split
  · next e => rw [e]
  · rw [getD_set hi, if_pos rfl]
theorem swp_k {L : List Ev} {i j k : Nat} (hi : i < L.length) (hj : j < L.length) (h1 : k ≠ i) (h2 : k ≠ j) : ats (swp L i j) k = ats L k := by
  unfold ats swp
  rw [getD_set (by simpa using hj), if_neg h2, getD_set hi, if_neg h1]
theorem getD_get {L : List Ev} {i : Nat} (hi : i < L.length) : L.getD i ev0 = L[i] := by simp [List.getD, hi]
theorem swp_perm {L : List Ev} {i j : Nat} (hi : i < L.length) (hj : j < L.length) : (swp L i j).Perm L := by
  unfold swp
  rw [getD_get hi, getD_get hj]
  exact List.set_set_perm hi hj
theorem push_up {L : List Ev} {x : Ev} (h : HeapF (ats L) L.length) : UpF (ats (L ++ [x])) (L.length + 1) L.length := by
  have e : ∀ k, k < L.length → ats (L ++ [x]) k = ats L k := fun k hk => by
    unfold ats
    simp only [List.getD]
    rw [List.getElem?_append_left hk]
  refine ⟨fun j j0 jn jp => ?_, fun _ j j0 jn jp => by omega⟩
  rw [e _ (by omega), e _ (by omega)]
  exact h j j0 (by omega)
theorem ats_take {L : List Ev} {n k : Nat} (hk : k < n) : ats (L.take n) k = ats L k := by
  unfold ats
  simp only [List.getD]
  rw [List.getElem?_take_of_lt hk]
theorem cut_down {L : List Ev} {n : Nat} (hl : L.length = n + 1) (h : HeapF (ats L) (n + 1)) : DownF (ats ((swp L 0 n).take n)) n 0 := by
  refine ⟨fun j j0 jn jp => ?_, fun h0 => by omega⟩
  rw [ats_take (by omega), ats_take (by omega), swp_k (by omega) (by omega) (by omega) (by omega), swp_k (by omega) (by omega) (by omega) (by omega)]
  exact h j j0 (by omega)
theorem cut_perm {L : List Ev} {n : Nat} (hl : L.length = n + 1) : ((swp L 0 n).take n ++ [L.getD 0 ev0]).Perm L := by
  have e : (swp L 0 n).take n ++ [L.getD 0 ev0] = swp L 0 n := by
    have hl2 := swp_len L 0 n
    have h1 : (swp L 0 n)[n]'(by omega) = L.getD 0 ev0 := by
      unfold swp
      rw [List.getElem_set, if_pos rfl]
    have h2 : (swp L 0 n).drop n = [L.getD 0 ev0] := by
      rw [List.drop_eq_getElem_cons (by omega), h1, List.drop_eq_nil_of_le (by omega)]
    rw [← h2]
    exact List.take_append_drop n _
  rw [e]
  exact swp_perm (by omega) (by omega)
end Hp
end Go.Proofs.YtjeojnlkjecojaaDoor
