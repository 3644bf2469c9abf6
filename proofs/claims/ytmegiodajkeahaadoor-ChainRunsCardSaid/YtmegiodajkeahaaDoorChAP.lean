/- The examples of the chapter on chains: plain facts. -/
import Derived.Test.YtmegiodajkeahaaDoorChD
namespace Go.Proofs.YtmegiodajkeahaaDoor
open Go Go.RowKit
namespace Pl
theorem cf0 : cfOk 1000 100 2 10 := by decide
theorem cf0no : ¬ cfOk 0 0 0 0 := by decide
theorem iv999 : ivl 1000 100 2 10 999 = 0 := by decide
theorem iv1099 : ivl 1000 100 2 10 1099 = 1 := by decide
theorem iv1100 : ivl 1000 100 2 10 1100 = 2 := by decide
theorem iv1999 : ivl 1000 100 2 10 1999 = 10 := by decide
theorem iv2000 : ivl 1000 100 2 10 2000 = 11 := by decide
theorem h1400 (key : Int × Int) : hErr 1000 100 2 10 ⟨0, key, []⟩ 3 1250 1400 = 17 := rfl
theorem h1399 (key : Int × Int) : hErr 1000 100 2 10 ⟨0, key, []⟩ 3 1250 1399 = 0 := rfl
set_option maxRecDepth 100000 in
theorem awake_ne : dnN (lastK 7 10) 7 ≠ dnN (lastK 7 10) 6 := by
  have h : (decide (dnN (lastK 7 10) 7 = dnN (lastK 7 10) 6)) = false := by kernel_rfl
  exact of_decide_eq_false h
theorem aw_d4 (last : Int × Int) (ms : List Msg) : dErr 10 ⟨0, dnN last 10, ms⟩ 4 (dnN last 6) = 0 := by
  have h : dnN (dnN last 6) 4 = dnN last 10 := dnN_add last 6 4
  generalize dnN last 10 = a at *
  generalize dnN last 6 = b at *
  unfold dErr
  simp only
  rw [if_neg (by decide), if_neg (by decide), show ((4 : Int) - 0).toNat = 4 from rfl, if_pos h]
theorem aw_d3 (key k : Int × Int) (ms : List Msg) : dErr 10 ⟨4, key, ms⟩ 3 k = 10 := by
  unfold dErr
  simp only
  rw [if_neg (by decide), if_pos (by decide)]
theorem aw_d6 (last : Int × Int) (ms : List Msg) (hne : dnN last 7 ≠ dnN last 6) : dErr 10 ⟨4, dnN last 6, ms⟩ 6 (dnN last 5) = 16 := by
  have h : dnN (dnN last 5) 2 = dnN last 7 := dnN_add last 5 2
  rw [← h] at hne
  clear h
  generalize dnN last 6 = a at *
  generalize dnN last 5 = b at *
  unfold dErr
  simp only
  rw [if_neg (by decide), if_neg (by decide), show ((6 : Int) - 4).toNat = 2 from rfl, if_neg hne]
theorem aw_out (last : Int × Int) (b : List Int) : dOut 4 (dnN last 6) [⟨3, b, mtag (dnN last 7) b⟩] = [b] := by
  have h : dnN (dnN last 6) 1 = dnN last 7 := dnN_add last 6 1
  have hr : relF 4 (dnN last 6) ⟨3, b, mtag (dnN last 7) b⟩ = true := by
    rw [← h]
    generalize dnN last 6 = a at *
    unfold relF rightB
    simp only [Bool.and_eq_true, decide_eq_true_eq, beq_iff_eq]
    exact ⟨by decide, rfl⟩
  unfold dOut
  rw [List.filter_cons_of_pos hr]
  rfl
theorem aw_st (last : Int × Int) (b : List Int) (t : Int) : dSt ⟨0, dnN last 10, [⟨3, b, t⟩]⟩ 4 (dnN last 6) = ⟨4, dnN last 6, []⟩ := by
  unfold dSt
  have : stayF 4 ⟨3, b, t⟩ = false := by unfold stayF; simp
  rw [List.filter_cons_of_neg (by rw [this]; decide)]
  rfl
theorem aw_hst (key : Int × Int) (b : List Int) (t : Int) : hSt ⟨0, key, []⟩ ⟨3, b, t⟩ = ⟨0, key, [⟨3, b, t⟩]⟩ := rfl
theorem aw_ok (key : Int × Int) (b : List Int) (t : Int) (hb : okB b) : okR 10 ⟨0, key, [⟨3, b, t⟩]⟩ :=
  ⟨Int.le_refl _, by show (0 : Int) ≤ 10; decide, by show 1 ≤ 64; decide, fun m hm => by
    simp only [List.mem_singleton] at hm
    subst hm
    exact ⟨by show (0 : Int) < 3; decide, by show (3 : Int) ≤ 10; decide, hb⟩⟩
theorem aw_ok4 (key : Int × Int) : okR 10 ⟨4, key, []⟩ := ⟨by show (0 : Int) ≤ 4; decide, by show (4 : Int) ≤ 10; decide, by show 0 ≤ 64; decide, fun m hm => by cases hm⟩
end Pl
end Go.Proofs.YtmegiodajkeahaaDoor
