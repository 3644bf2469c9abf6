/- Two lists of keys that read alike. -/
import Derived.Test.YtmegiodajkeahaaDoorChC8
namespace Go.Proofs.YtmegiodajkeahaaDoor
open Go Go.RowKit
/-- The slice at A reads as these keys. -/
def IsKs (w : World) (A : Option Addr) (l : List (Int × Int)) : Prop :=
  l = [] ∨ ∃ b off, A = some ⟨b, off, none⟩ ∧ b < w.heap.size ∧ ∀ (i : Nat) (p : Int × Int), l[i]? = some p → w.cell? ⟨b, off + i * 2, none⟩ = some (.int .u64 p.1) ∧ w.cell? ⟨b, off + i * 2 + 1, none⟩ = some (.int .u64 p.2)
theorem IsKs.next {w w' : World} {A : Option Addr} {l : List (Int × Int)} (h : IsKs w A l) (hb : Below w.heap.size w w') : IsKs w' A l := by
  rcases h with h | ⟨b, off, h1, h2, h3⟩
  · exact .inl h
  · exact .inr ⟨b, off, h1, Nat.lt_of_lt_of_le h2 hb.size, fun i p hp => ⟨(hb.cell (p := ⟨b, off + i * 2, none⟩) h2).trans (h3 i p hp).1, (hb.cell (p := ⟨b, off + i * 2 + 1, none⟩) h2).trans (h3 i p hp).2⟩⟩
theorem IsKs.row {w : World} {A : Option Addr} {l : List (Int × Int)} (h : IsKs w A l) : l.length = 0 ∨ ∃ b off, A = some ⟨b, off, none⟩ ∧ b < w.heap.size ∧ ∀ (i : Nat) (p : Int × Int), l[i]? = some p → w.cell? ⟨b, off + i * 2, none⟩ = some (.int .u64 p.1) ∧ w.cell? ⟨b, off + i * 2 + 1, none⟩ = some (.int .u64 p.2) := by
  rcases h with h | h
  · left; rw [h]; rfl
  · exact .inr h
attribute [local simp high] guard_bind eql_key neq_key
set_option maxHeartbeats 1000000 in
theorem same_any (A B : Option Addr) (c c' : Nat) (l : List (Int × Int)) (w : World) (hS : IsKs w A l) (hS' : IsKs w B l) (hn : l.length ≤ 1000000000) :
    Calls Tryd.prog 14 #[.slice A l.length c, .slice B l.length c'] w fun e w' => e = .returned (.bool true) ∧ Below w.heap.size w w' := by
  generalize hN : l.length = n at hn ⊢
  have HN := hid hN
  clear hN
  go_enter Tryd.func14, Tryd.ntmps14
  go_wp2
  go_loopw [5] (fun i wr => ∃ k : Nat, k ≤ n ∧ i = .int .i64 k ∧ Below w.heap.size w wr) (fun i _ => n - (intOf i).toNat)
  case atStart => exact ⟨0, Nat.zero_le _, rfl, Below.refl _ _⟩
  case round =>
    obtain ⟨k, hk, rfl, hb⟩ := hrel
    by_cases hlt : k < n
    · obtain ⟨⟨x, y⟩, hx⟩ : ∃ x, l[k]? = some x := ⟨l[k]'(by have := HN.out; omega), List.getElem?_eq_getElem _⟩
      rcases (hS.next hb).row with h0 | ⟨bb, off, rfl, hbb', hcell⟩
      · have := HN.out; omega
      · rcases (hS'.next hb).row with h0 | ⟨bc, off', rfl, hbc', hcell'⟩
        · have := HN.out; omega
        · obtain ⟨hc1, hc2⟩ := hcell k _ hx
          obtain ⟨hd1, hd2⟩ := hcell' k _ hx
          simp only at hc1 hc2 hd1 hd2
          clear hx hcell hcell'
          go_wp2_with fail
          go_quiet (fail)
          go_wp2
          go_roundw
          case rel => exact ⟨k + 1, by omega, by simp, bdrewN hb nq⟩
          case measure => simp [intOf]; omega
    · go_wp2
      go_ret
      exact ⟨rfl, hb⟩
end Go.Proofs.YtmegiodajkeahaaDoor
