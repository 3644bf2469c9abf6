/- Blocks of keys: made, read, stored. -/
import Derived.Test.YtmegiodajkeahaaDoorChP
import Derived.Deep.OwnRows
namespace Go.Proofs.YtmegiodajkeahaaDoor
open Go Go.RowKit
def kcells (l : List (Int × Int)) : List Value := l.flatMap fun p => [.int .u64 p.1, .int .u64 p.2]
theorem kcells_len : ∀ l : List (Int × Int), (kcells l).length = l.length * 2
  | [] => rfl
  | p :: l => by have := kcells_len l; unfold kcells at *; simp [List.flatMap_cons] at *; omega
theorem kcells_get : ∀ (l : List (Int × Int)) (i : Nat) (p : Int × Int), l[i]? = some p → (kcells l)[i * 2]? = some (.int .u64 p.1) ∧ (kcells l)[i * 2 + 1]? = some (.int .u64 p.2)
  | [], i, p, h => by simp at h
  | q :: l, 0, p, h => by simp at h; subst h; exact ⟨rfl, rfl⟩
  | q :: l, i + 1, p, h => by
    have ih := kcells_get l i p (by simpa using h)
    have e : kcells (q :: l) = .int .u64 q.1 :: .int .u64 q.2 :: kcells l := rfl
    rw [e, show (i + 1) * 2 = i * 2 + 1 + 1 from by omega]
    simpa using ih
theorem kcells_set : ∀ (l : List (Int × Int)) (i : Nat) (p : Int × Int), ((kcells l).set (i * 2) (.int .u64 p.1)).set (i * 2 + 1) (.int .u64 p.2) = kcells (l.set i p)
  | [], i, p => by simp [kcells]
  | q :: l, 0, p => rfl
  | q :: l, i + 1, p => by
    have ih := kcells_set l i p
    have e : kcells (q :: l) = .int .u64 q.1 :: .int .u64 q.2 :: kcells l := rfl
    rw [e, show (i + 1) * 2 = i * 2 + 1 + 1 from by omega]
    simp only [List.set_cons_succ]
    have e2 : kcells (q :: l.set i p) = .int .u64 q.1 :: .int .u64 q.2 :: kcells (l.set i p) := rfl
    rw [e2, ih]
/-- Block g is just these keys. -/
def BkK (w : World) (g : Nat) (l : List (Int × Int)) : Prop := Bk w g 37 (kcells l).toArray
theorem BkK.is {w : World} {g : Nat} {l : List (Int × Int)} (h : BkK w g l) : IsKs w (some ⟨g, 0, none⟩) l := by
  refine .inr ⟨g, 0, rfl, Bk.lt h, fun i p hp => ?_⟩
  obtain ⟨e1, e2⟩ := kcells_get l i p hp
  rw [Bk.cell h, Bk.cell h]
  exact ⟨by simpa using e1, by simpa using e2⟩
theorem BkK.set {w : World} {g : Nat} {l : List (Int × Int)} (h : BkK w g l) (i : Nat) (p : Int × Int) : BkK ((w.setCell ⟨g, i * 2, none⟩ (.int .u64 p.1)).setCell ⟨g, i * 2 + 1, none⟩ (.int .u64 p.2)) g (l.set i p) := by
  unfold BkK
  rw [← kcells_set, ← List.setIfInBounds_toArray, ← List.setIfInBounds_toArray]
  exact (Bk.put h _ _).put _ _
end Go.Proofs.YtmegiodajkeahaaDoor
