/- The contracts of Fold, the program's and the reference's. -/
import Derived.Test.YtomlcfkendmjeaaDoorTagC
namespace Go.Proofs.YtomlcfkendmjeaaDoor
open Go Go.RowKit

set_option maxHeartbeats 400000 in
theorem fold_any (A : Option Addr) (c : Nat) (xs : List Int) (w : World) (hR : Rnd w) (hS : IsSl w A .u64 xs) (hn : xs.length ≤ 1000000000) :
    Calls Tryd.prog 15 #[.slice A xs.length c] w fun e w' => e = .returned (.int .u64 (Pl.foldOf xs)) ∧ Below w.heap.size w w' := by
  generalize hN : xs.length = n at hn ⊢
  have HN := hid hN
  clear hN
  go_enter Tryd.func15, Tryd.ntmps15
  go_wp2
  go_loopw [3, 8] (fun h i wr => ∃ k : Nat, k ≤ n ∧ i = .int .i64 k ∧ h = .int .u64 (Pl.foldOf (xs.take k)) ∧ Below w.heap.size w wr) (fun _ i _ => n - (intOf i).toNat)
  case atStart => exact ⟨0, Nat.zero_le _, rfl, rfl, Below.refl _ _⟩
  case round =>
    obtain ⟨k, hk, rfl, rfl, hbr⟩ := hrel
    have hRr := hR.next hbr
    by_cases hlt : k < n
    · obtain ⟨x, hx⟩ : ∃ x, xs[k]? = some x := ⟨xs[k]'(by have := HN.out; omega), List.getElem?_eq_getElem _⟩
      rcases hS.row with h0 | ⟨bb, off, rfl, hbb', hcell⟩
      · have := HN.out; omega
      · have hc1 : wr.cell? ⟨bb, off + k, none⟩ = some (.int .u64 x) := (hbr.cell (p := ⟨bb, off + k, none⟩) hbb').trans (hcell k x hx)
        have HX := hid hx
        clear hx hcell hS
        go_wp2_with fail
        refine (mix_any _ _ _ hRr).mono ?_
        rintro e w2 ⟨rfl, hb2⟩
        go_wp2
        go_roundw
        case rel => exact ⟨k + 1, by omega, by go_num, by rw [Pl.take_snoc HX.out, Pl.foldOf_snoc], bstep hbr hb2⟩
        case measure => simp [intOf]; omega
    · obtain rfl : k = n := by omega
      go_wp2
      go_ret
      exact ⟨ret_int (by rw [List.take_of_length_le (by rw [HN.out]; exact Nat.le_refl _)]), hbr⟩
set_option maxHeartbeats 400000 in
theorem refFold_any (A : Option Addr) (c : Nat) (xs : List Int) (w : World) (hS : IsSl w A .u64 xs) (hn : xs.length ≤ 1000000000) :
    Calls Tryd.prog 16 #[.slice A xs.length c] w fun e w' => e = .returned (.int .u64 (Pl.foldOf xs)) ∧ w = w' := by
  generalize hN : xs.length = n at hn ⊢
  have HN := hid hN
  clear hN
  go_enter Tryd.func16, Tryd.ntmps16
  go_wp2
  go_loop [3, 4] (fun h i => ∃ k : Nat, k ≤ n ∧ i = .int .i64 k ∧ h = .int .u64 (Pl.foldOf (xs.take k))) (fun _ i => n - (intOf i).toNat)
  case atStart => exact ⟨0, Nat.zero_le _, rfl, rfl⟩
  case round =>
    obtain ⟨k, hk, rfl, rfl⟩ := hrel
    by_cases hlt : k < n
    · obtain ⟨x, hx⟩ : ∃ x, xs[k]? = some x := ⟨xs[k]'(by have := HN.out; omega), List.getElem?_eq_getElem _⟩
      rcases hS.row with h0 | ⟨bb, off, rfl, hbb', hcell⟩
      · have := HN.out; omega
      · have hc1 : w.cell? ⟨bb, off + k, none⟩ = some (.int .u64 x) := hcell k x hx
        have HX := hid hx
        clear hx hcell hS
        go_wp2_with fail
        refine (refMix_any _ _ _).mono ?_
        rintro e w2 ⟨rfl, rfl⟩
        go_wp2
        go_round
        case rel => exact ⟨k + 1, by omega, by go_num, by rw [Pl.take_snoc HX.out, Pl.foldOf_snoc]⟩
        case measure => simp [intOf]; omega
    · obtain rfl : k = n := by omega
      go_wp2
      go_ret
      exact ⟨ret_int (by rw [List.take_of_length_le (by rw [HN.out]; exact Nat.le_refl _)]), rfl⟩
end Go.Proofs.YtomlcfkendmjeaaDoor
