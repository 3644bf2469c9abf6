/- The calls on sources, all ways in one contract each; the cells that a region reads. -/
import Derived.Test.YtdfabmjkahhlmaaDoorPlI
namespace Go.Proofs.YtdfabmjkahhlmaaDoor
open Go Go.RowKit
theorem refBelow_all (g : Nat) (seed : Int) (n : Nat) (hn : n ≤ 1099511627776) (m : Int) (hm : m ≤ 9223372036854775807) (w : World) (H : Src w g 62 seed n) :
    Calls Tryd.prog 22 #[pt g, .int .i64 m] w fun e w' => e = .returned (.int .i64 (bVal seed n m)) ∧ Src w' g 62 seed (n + bStep m) ∧ Only g w w' := by
  unfold bVal bStep
  by_cases h : 1 ≤ m
  · rw [if_pos h, if_pos h]
    exact refBelow_any g seed n hn m ⟨h, hm⟩ w H
  · rw [if_neg h, if_neg h]
    refine (refBelow_no g m (by omega) w).mono ?_
    rintro e w' ⟨rfl, rfl⟩
    exact ⟨rfl, H, Only.refl_⟩
def rVal (seed : Int) (n : Nat) (lo hi : Int) : Int := if lo ≤ hi then rangeOf seed n lo hi else lo
def rStep (lo hi : Int) : Nat := if lo ≤ hi then 1 else 0
theorem rStep_le (lo hi : Int) : rStep lo hi ≤ 1 := by unfold rStep; split <;> omega
theorem range_all (g : Nat) (seed : Int) (n : Nat) (hn : n ≤ 1099511627776) (lo hi : Int) (w : World) (hR : Rnd w) (H : Src w g 53 seed n) :
    Calls Tryd.prog 17 #[pt g, .int .i64 lo, .int .i64 hi] w fun e w' => e = .returned (.int .i64 (rVal seed n lo hi)) ∧ Src w' g 53 seed (n + rStep lo hi) ∧ Only g w w' := by
  unfold rVal rStep
  by_cases h : lo ≤ hi
  · rw [if_pos h, if_pos h]
    exact range_any g seed n hn lo hi h w hR H
  · rw [if_neg h, if_neg h]
    refine (range_no g lo hi (by omega) w).mono ?_
    rintro e w' ⟨rfl, rfl⟩
    exact ⟨rfl, H, Only.refl_⟩
theorem refRange_all (g : Nat) (seed : Int) (n : Nat) (hn : n ≤ 1099511627776) (lo hi : Int) (w : World) (H : Src w g 62 seed n) :
    Calls Tryd.prog 23 #[pt g, .int .i64 lo, .int .i64 hi] w fun e w' => e = .returned (.int .i64 (rVal seed n lo hi)) ∧ Src w' g 62 seed (n + rStep lo hi) ∧ Only g w w' := by
  unfold rVal rStep
  by_cases h : lo ≤ hi
  · rw [if_pos h, if_pos h]
    exact refRange_any g seed n hn lo hi h w H
  · rw [if_neg h, if_neg h]
    refine (refRange_no g lo hi (by omega) w).mono ?_
    rintro e w' ⟨rfl, rfl⟩
    exact ⟨rfl, H, Only.refl_⟩
def pVal (seed : Int) (n : Nat) (m : Int) : List Int := if 1 ≤ m ∧ m ≤ 4096 then Pl.permOf seed n m.toNat else []
def pStep (m : Int) : Nat := if 1 ≤ m ∧ m ≤ 4096 then m.toNat - 1 else 0
theorem pStep_le (m : Int) : pStep m ≤ 4095 := by unfold pStep; split <;> omega
theorem pVal_len (seed : Int) (n : Nat) (m : Int) : (pVal seed n m).length ≤ 4096 := by
  unfold pVal
  split
  · rename_i h
    rw [show Pl.permOf seed n m.toNat = Pl.permTo seed n m.toNat (m.toNat - 1) from rfl, Pl.permTo_length]
    omega
  · simp
theorem perm_all (g : Nat) (seed : Int) (n : Nat) (hn : n ≤ 1000000000) (m : Int) (w : World) (hR : Rnd w) (hg : 0 < g) (H : Src w g 53 seed n) :
    Calls Tryd.prog 18 #[pt g, .int .i64 m] w fun e w' => (∃ A c, e = .returned (.slice A (pVal seed n m).length c) ∧ IsSl w' A .i64 (pVal seed n m) ∧ ∀ b o, A = some ⟨b, o, none⟩ → w.heap.size ≤ b) ∧ Src w' g 53 seed (n + pStep m) ∧ Only g w w' := by
  unfold pVal pStep
  by_cases h : 1 ≤ m ∧ m ≤ 4096
  · rw [if_pos h, if_pos h]
    obtain ⟨k, rfl⟩ : ∃ k : Nat, m = (k : Int) := ⟨m.toNat, by omega⟩
    rw [Int.toNat_natCast]
    refine (perm_any g seed n k hn (by omega) (by omega) w hR hg H).mono ?_
    rintro e w' ⟨rfl, K, S, o⟩
    have e1 : (Pl.permOf seed n k).length = k := by rw [show Pl.permOf seed n k = Pl.permTo seed n k (k - 1) from rfl, Pl.permTo_length]
    refine ⟨⟨some ⟨w.heap.size, 0, none⟩, k, by rw [e1], K.sl, fun b o h => ?_⟩, S, o⟩
    cases h
    exact Nat.le_refl _
  · rw [if_neg h, if_neg h]
    refine (perm_no g m (by omega) w).mono ?_
    rintro e w' ⟨rfl, rfl⟩
    exact ⟨⟨none, 0, rfl, .inl rfl, fun b o h => by cases h⟩, H, Only.refl_⟩
theorem refPerm_all (g : Nat) (seed : Int) (n : Nat) (hn : n ≤ 1000000000) (m : Int) (w : World) (H : Src w g 62 seed n) :
    Calls Tryd.prog 24 #[pt g, .int .i64 m] w fun e w' => (∃ A c, e = .returned (.slice A (pVal seed n m).length c) ∧ IsSl w' A .i64 (pVal seed n m)) ∧ Src w' g 62 seed (n + pStep m) ∧ Only g w w' := by
  unfold pVal pStep
  by_cases h : 1 ≤ m ∧ m ≤ 4096
  · rw [if_pos h, if_pos h]
    obtain ⟨k, rfl⟩ : ∃ k : Nat, m = (k : Int) := ⟨m.toNat, by omega⟩
    rw [Int.toNat_natCast]
    refine (refPerm_any g seed n k hn (by omega) (by omega) w H).mono ?_
    rintro e w' ⟨rfl, K, S, o⟩
    have e1 : (Pl.permOf seed n k).length = k := by rw [show Pl.permOf seed n k = Pl.permTo seed n k (k - 1) from rfl, Pl.permTo_length]
    exact ⟨⟨some ⟨w.heap.size, 0, none⟩, k, by rw [e1], K.sl⟩, S, o⟩
  · rw [if_neg h, if_neg h]
    refine (refPerm_no g m (by omega) w).mono ?_
    rintro e w' ⟨rfl, rfl⟩
    exact ⟨⟨none, 0, rfl, .inl rfl⟩, H, Only.refl_⟩
/-- The cells that a drawn region reads. -/
def PS4 (bS bT x j g h : Nat) (a b : Int) (w : World) : Prop := (w.cell? ⟨bS, j, none⟩ = some (pt g)) ∧ (w.cell? ⟨bT, j, none⟩ = some (pt h)) ∧ (w.cell? ⟨x, 2, none⟩ = some (.int .i64 a)) ∧ (w.cell? ⟨x, 3, none⟩ = some (.int .i64 b))
theorem PS4.only {bS bT x j g h q : Nat} {a b : Int} {w w' : World} (H : PS4 bS bT x j g h a b w) (ho : Only q w w') (h1 : bS < w.heap.size) (h2 : bT < w.heap.size) (h3 : x < w.heap.size) (n1 : q ≠ bS) (n2 : q ≠ bT) (n3 : q ≠ x) : PS4 bS bT x j g h a b w' :=
  ⟨(ho.cell_ (p := ⟨bS, j, none⟩) h1 (fun e => n1 e.symm)).trans H.1, (ho.cell_ (p := ⟨bT, j, none⟩) h2 (fun e => n2 e.symm)).trans H.2.1, (ho.cell_ (p := ⟨x, 2, none⟩) h3 (fun e => n3 e.symm)).trans H.2.2.1, (ho.cell_ (p := ⟨x, 3, none⟩) h3 (fun e => n3 e.symm)).trans H.2.2.2⟩
end Go.Proofs.YtdfabmjkahhlmaaDoor
