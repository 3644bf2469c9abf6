/- Plain law, no program in sight: the permutation that a source makes: a list of n numbers from 0 on, exchanged pair by pair; it holds each number once. -/
import Derived.Test.YtdfabmjkahhlmaaDoorMix
namespace Go.Proofs.YtdfabmjkahhlmaaDoor
namespace Pl
/-- What Below returns at a step. -/
def belowOf (seed : Int) (n : Nat) (m : Int) : Int := mix seed n % m
theorem belowOf_range (seed : Int) (n : Nat) {m : Int} (h : 1 ≤ m) : 0 ≤ belowOf seed n m ∧ belowOf seed n m < m := ⟨Int.emod_nonneg _ (by omega), Int.emod_lt_of_pos _ (by omega)⟩
/-- The list that is filled: the first k numbers are in. -/
def initTo (m k : Nat) : List Int := (List.range m).map fun i => if i < k then (i : Int) else 0
theorem initTo_zero (m : Nat) : initTo m 0 = List.replicate m 0 := by
  apply List.ext_getElem
  · simp [initTo]
  · intro i h1 h2; simp [initTo]
theorem initTo_length (m k : Nat) : (initTo m k).length = m := by simp [initTo]
theorem initTo_next (m k : Nat) : (initTo m k).set k (k : Int) = initTo m (k + 1) := by
  apply List.ext_getElem
  · simp [initTo]
  · intro i h1 h2
    simp only [initTo, List.getElem_set, List.getElem_map, List.getElem_range]
    by_cases e : k = i
    · subst e; simp
    · rw [if_neg e]
      by_cases h3 : i < k
      · rw [if_pos h3, if_pos (by omega)]
      · rw [if_neg h3, if_neg (by omega)]
/-- Two places exchanged. -/
def swp (l : List Int) (i j : Nat) : List Int := (l.set i (l.getD j 0)).set j (l.getD i 0)
theorem swp_length (l : List Int) (i j : Nat) : (swp l i j).length = l.length := by simp [swp]
def ups (m : Nat) : List Int := initTo m m
/-- After k exchanges. -/
def permTo (seed : Int) (n m : Nat) : Nat → List Int
  | 0 => ups m
  | k + 1 => swp (permTo seed n m k) (m - 1 - k) (belowOf seed (n + k) ((m - 1 - k : Nat) + 1 : Int)).toNat
theorem permTo_length (seed : Int) (n m : Nat) : ∀ k, (permTo seed n m k).length = m
  | 0 => initTo_length m m
  | k + 1 => by rw [permTo, swp_length, permTo_length seed n m k]
def permOf (seed : Int) (n m : Nat) : List Int := permTo seed n m (m - 1)
theorem permOf_length (seed : Int) (n m : Nat) : (permOf seed n m).length = m := permTo_length seed n m _
theorem permOf_one (seed : Int) (n : Nat) : permOf seed n 1 = [0] := rfl
theorem swp_perm {l : List Int} {i j : Nat} (hi : i < l.length) (hj : j < l.length) : (swp l i j).Perm l := by
  have e1 : l.getD j 0 = l[j] := by simp [List.getD, List.getElem?_eq_getElem hj]
  have e2 : l.getD i 0 = l[i] := by simp [List.getD, List.getElem?_eq_getElem hi]
  unfold swp
  rw [e1, e2]
  exact List.set_set_perm hi hj
theorem permTo_perm (seed : Int) (n m : Nat) (hm : 1 ≤ m) : ∀ k, k ≤ m - 1 → (permTo seed n m k).Perm (ups m)
  | 0, _ => List.Perm.refl _
  | k + 1, h => by
    have hb := belowOf_range seed (n + k) (m := ((m - 1 - k : Nat) + 1 : Int)) (by omega)
    refine List.Perm.trans (swp_perm ?_ ?_) (permTo_perm seed n m hm k (by omega))
    · rw [permTo_length]; omega
    · rw [permTo_length]; omega
theorem ups_get (m i : Nat) (h : i < m) : (ups m)[i]? = some (i : Int) := by
  unfold ups initTo
  simp [h]
theorem ups_mem {m : Nat} {x : Int} (h : x ∈ ups m) : 0 ≤ x ∧ x < m := by
  unfold ups initTo at h
  simp only [List.mem_map, List.mem_range] at h
  obtain ⟨i, hi, rfl⟩ := h
  rw [if_pos hi]
  omega
theorem ups_nodup (m : Nat) : (ups m).Nodup := by
  unfold ups initTo
  refine List.pairwise_iff_getElem.2 fun i j hi hj hij => ?_
  simp only [List.length_map, List.length_range] at hi hj
  simp only [List.getElem_map, List.getElem_range]
  rw [if_pos hi, if_pos hj]
  omega
theorem permOf_mem {seed : Int} {n m : Nat} (hm : 1 ≤ m) {x : Int} (h : x ∈ permOf seed n m) : 0 ≤ x ∧ x < m := ups_mem ((permTo_perm seed n m hm _ (Nat.le_refl _)).mem_iff.1 h)
theorem permOf_nodup (seed : Int) (n m : Nat) (hm : 1 ≤ m) : (permOf seed n m).Nodup := (permTo_perm seed n m hm _ (Nat.le_refl _)).nodup_iff.2 (ups_nodup m)
end Pl
end Go.Proofs.YtdfabmjkahhlmaaDoor
