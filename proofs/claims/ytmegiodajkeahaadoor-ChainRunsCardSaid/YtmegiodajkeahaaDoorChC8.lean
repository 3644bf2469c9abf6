/- The law's own comparisons: two byte strings, two lists of keys that read alike. -/
import Derived.Test.YtmegiodajkeahaaDoorChC7
import Derived.Test.YtmegiodajkeahaaDoorKeyEq
namespace Go.Proofs.YtmegiodajkeahaaDoor
open Go Go.RowKit
theorem bdrewN {B : Nat} {a w : World} (h : Below B a w) (n : Nat) : Below B a (w.drewN n) := ⟨h.os, h.tape, h.output, h.size, h.block⟩
set_option maxHeartbeats 1000000 in
theorem equal_same (A B : Option Addr) (c c' : Nat) (xs : List Int) (w : World) (hS : IsSl w A .u8 xs) (hS' : IsSl w B .u8 xs) (hn : xs.length ≤ 1000000000) :
    Calls Tryd.prog 42 #[.slice A xs.length c, .slice B xs.length c'] w fun e w' => e = .returned (.bool true) ∧ Below w.heap.size w w' := by
  generalize hN : xs.length = n at hn ⊢
  have HN := hid hN
  clear hN
  go_enter Tryd.func42, Tryd.ntmps42
  go_wp2
  go_loopw [5] (fun i wr => ∃ k : Nat, k ≤ n ∧ i = .int .i64 k ∧ Below w.heap.size w wr) (fun i _ => n - (intOf i).toNat)
  case atStart => exact ⟨0, Nat.zero_le _, rfl, Below.refl _ _⟩
  case round =>
    obtain ⟨k, hk, rfl, hb⟩ := hrel
    by_cases hlt : k < n
    · obtain ⟨x, hx⟩ : ∃ x, xs[k]? = some x := ⟨xs[k]'(by have := HN.out; omega), List.getElem?_eq_getElem _⟩
      rcases (hS.next hb).row with h0 | ⟨bb, off, rfl, hbb', hcell⟩
      · have := HN.out; omega
      · rcases (hS'.next hb).row with h0 | ⟨bc, off', rfl, hbc', hcell'⟩
        · have := HN.out; omega
        · have hc1 := hcell k x hx
          have hc2 := hcell' k x hx
          clear hx hcell hcell'
          go_wp2_with fail
          go_quiet (fail)
          go_wp2
          go_roundw
          case rel => exact ⟨k + 1, by omega, by simp, bdrewN hb nq⟩
          case measure => simp [intOf]; omega
    · go_wp2
      go_ret
      exact ⟨rfl, hb⟩
end Go.Proofs.YtmegiodajkeahaaDoor
