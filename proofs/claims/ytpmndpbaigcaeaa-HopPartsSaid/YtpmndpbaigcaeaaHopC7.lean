/- The contracts of slices.Equal at integers, and of Backlog of package hop and of its reference. -/
import Derived.Test.YtpmndpbaigcaeaaHopC6
namespace Go.Proofs.Ytpmndpbaigcaeaa
open Go Go.RowKit
theorem inside_succ (a d : List Int) (t : Int) (k : Nat) : Pl.inside a d t (k + 1) = if Pl.gd a k ≤ t ∧ t < Pl.gd d k then Pl.inside a d t k + 1 else Pl.inside a d t k := rfl
set_option maxHeartbeats 1000000 in
/-- slices.Equal at two slices that read as one list. -/
theorem equal_same (A B : Option Addr) (c c' : Nat) (xs : List Int) (w : World) (hS : IsSl w A .i64 xs) (hS' : IsSl w B .i64 xs) (hn : xs.length ≤ 1000000000) :
    Calls Try.prog 16 #[.slice A xs.length c, .slice B xs.length c'] w fun e w' => e = .returned (.bool true) ∧ Below w.heap.size w w' := by
  generalize hN : xs.length = n at hn ⊢
  have HN := hid hN
  clear hN
  go_enter Try.func16, Try.ntmps16
  go_wp2
  go_loopw [13] (fun i wr => ∃ k : Nat, k ≤ n ∧ i = .int .i64 k ∧ Below w.heap.size w wr) (fun i _ => n - (intOf i).toNat)
  case atStart => exact ⟨0, Nat.zero_le _, rfl, Below.refl _ _⟩
  case round =>
    obtain ⟨k, hk, rfl, hb⟩ := hrel
    by_cases hlt : k < n
    · obtain ⟨x, hx⟩ : ∃ x, xs[k]? = some x := ⟨xs[k]'(by have := HN.out; omega), List.getElem?_eq_getElem _⟩
      rcases (hS.next hb).row with h0 | ⟨bb, off, rfl, hbb', hcell⟩
      · have := HN.out; omega
      · rcases (hS'.next hb).row with h0 | ⟨bc, off', rfl, hbc', hcell'⟩
        · have := HN.out; omega
        · have hc1 : wr.cell? ⟨bb, off + k, none⟩ = some (.int .i64 x) := hcell k x hx
          have hc2 : wr.cell? ⟨bc, off' + k, none⟩ = some (.int .i64 x) := hcell' k x hx
          clear hx hcell hcell'
          have hi0 : (0 : Int) ≤ (k : Int) := by omega
          have hi1 : (k : Int) < (n : Int) := by omega
          go_wp2
          go_quiet (fail)
          go_wp2
          exact ⟨⟨k + 1, by omega, by go_num, bdrewN hb nq⟩, by simp [intOf]; omega⟩
    · go_wp2
      go_ret
      exact ⟨rfl, hb⟩
set_option maxHeartbeats 1000000 in
theorem backlog_any (A B : Option Addr) (a s : List Int) (c d : Nat) (t : Int) (w : World) (hA : IsSl w A .i64 a) (hB : IsSl w B .i64 s) (hna : a.length ≤ 600) (hns : s.length ≤ 600) :
    Calls Try.prog 20 #[.slice A a.length c, .slice B s.length d, .int .i64 t] w fun e w' => e = .returned (.int .i64 (Pl.inside a s t (min a.length s.length))) ∧ w = w' := by
  generalize hLa : a.length = la at *
  generalize hLs : s.length = ls at *
  replace hLa := hid hLa
  replace hLs := hid hLs
  by_cases hlt : (ls : Int) < la
  · have hmin : min la ls = ls := by omega
    rw [hmin]
    clear hmin
    obtain ⟨n, hn⟩ : ∃ n, n = ls := ⟨_, rfl⟩
    have hnl : n ≤ ls := by omega
    have hnl2 : (ls : Int) = n := by omega
    have hnl3 : n ≤ la := by omega
    rw [← hn]
    replace hn := hid hn
    go_enter Try.func20, Try.ntmps20
    go_wp2
    go_loopw [7, 14] (fun p i wr => ∃ k : Nat, i = .int .i64 k ∧ k ≤ n ∧ p = .int .i64 (Pl.inside a s t k) ∧ wr = w) (fun _ i _ => n - (intOf i).toNat)
    case atStart => exact ⟨0, rfl, Nat.zero_le _, rfl, rfl⟩
    case round =>
      obtain ⟨k, rfl, hk, rfl, rfl⟩ := hrel
      by_cases hkn : k < n
      · have hka : k < la := by omega
        have hks : k < ls := by omega
        have ha := Pl.gd_get (l := a) (k := k) (by rw [hLa.out]; exact hka)
        have hs := Pl.gd_get (l := s) (k := k) (by rw [hLs.out]; exact hks)
        rcases hA.row with h0 | ⟨b, off, rfl, hb, hca⟩
        · have := hLa.out; omega
        rcases hB.row with h0 | ⟨b', off', rfl, hb', hcb⟩
        · have := hLs.out; omega
        have f0 := hca k _ ha
        have f1 := hcb k _ hs
        have hsu := inside_succ a s t k
        obtain ⟨i0, i1⟩ := Pl.inside_bounds a s t k
        generalize Pl.gd a k = x at *
        generalize Pl.gd s k = y at *
        generalize Pl.inside a s t k = p at *
        replace hsu := hid hsu
        clear ha hs hca hcb hA hB
        by_cases hx : x ≤ t
        · by_cases hy : t < y
          · go_wp2
            go_roundw
            case rel => exact ⟨k + 1, by simp, by omega, by rw [hsu.out, if_pos ⟨hx, hy⟩], trivial⟩
            case measure => simp [intOf]; omega
          · go_wp2
            go_roundw
            case rel => exact ⟨k + 1, by simp, by omega, by rw [hsu.out, if_neg (fun h => hy h.2)], trivial⟩
            case measure => simp [intOf]; omega
        · go_wp2
          go_roundw
          case rel => exact ⟨k + 1, by simp, by omega, by rw [hsu.out, if_neg (fun h => hx h.1)], trivial⟩
          case measure => simp [intOf]; omega
      · have hkn2 : k = n := by omega
        subst hkn2
        go_wp2
        go_ret
        exact ⟨rfl, rfl⟩
  · have hmin : min la ls = la := by omega
    rw [hmin]
    clear hmin
    obtain ⟨n, hn⟩ : ∃ n, n = la := ⟨_, rfl⟩
    have hnl : n ≤ ls := by omega
    have hnl2 : (la : Int) = n := by omega
    have hnl3 : n ≤ la := by omega
    rw [← hn]
    replace hn := hid hn
    go_enter Try.func20, Try.ntmps20
    go_wp2
    go_loopw [7, 14] (fun p i wr => ∃ k : Nat, i = .int .i64 k ∧ k ≤ n ∧ p = .int .i64 (Pl.inside a s t k) ∧ wr = w) (fun _ i _ => n - (intOf i).toNat)
    case atStart => exact ⟨0, rfl, Nat.zero_le _, rfl, rfl⟩
    case round =>
      obtain ⟨k, rfl, hk, rfl, rfl⟩ := hrel
      by_cases hkn : k < n
      · have hka : k < la := by omega
        have hks : k < ls := by omega
        have ha := Pl.gd_get (l := a) (k := k) (by rw [hLa.out]; exact hka)
        have hs := Pl.gd_get (l := s) (k := k) (by rw [hLs.out]; exact hks)
        rcases hA.row with h0 | ⟨b, off, rfl, hb, hca⟩
        · have := hLa.out; omega
        rcases hB.row with h0 | ⟨b', off', rfl, hb', hcb⟩
        · have := hLs.out; omega
        have f0 := hca k _ ha
        have f1 := hcb k _ hs
        have hsu := inside_succ a s t k
        obtain ⟨i0, i1⟩ := Pl.inside_bounds a s t k
        generalize Pl.gd a k = x at *
        generalize Pl.gd s k = y at *
        generalize Pl.inside a s t k = p at *
        replace hsu := hid hsu
        clear ha hs hca hcb hA hB
        by_cases hx : x ≤ t
        · by_cases hy : t < y
          · go_wp2
            go_roundw
            case rel => exact ⟨k + 1, by simp, by omega, by rw [hsu.out, if_pos ⟨hx, hy⟩], trivial⟩
            case measure => simp [intOf]; omega
          · go_wp2
            go_roundw
            case rel => exact ⟨k + 1, by simp, by omega, by rw [hsu.out, if_neg (fun h => hy h.2)], trivial⟩
            case measure => simp [intOf]; omega
        · go_wp2
          go_roundw
          case rel => exact ⟨k + 1, by simp, by omega, by rw [hsu.out, if_neg (fun h => hx h.1)], trivial⟩
          case measure => simp [intOf]; omega
      · have hkn2 : k = n := by omega
        subst hkn2
        go_wp2
        go_ret
        exact ⟨rfl, rfl⟩
set_option maxHeartbeats 1000000 in
theorem refBacklog_any (A B : Option Addr) (a s : List Int) (c d : Nat) (t : Int) (w : World) (hA : IsSl w A .i64 a) (hB : IsSl w B .i64 s) (hna : a.length ≤ 600) (hns : s.length ≤ 600) :
    Calls Try.prog 21 #[.slice A a.length c, .slice B s.length d, .int .i64 t] w fun e w' => e = .returned (.int .i64 (Pl.inside a s t (min a.length s.length))) ∧ w = w' := by
  generalize hLa : a.length = la at *
  generalize hLs : s.length = ls at *
  replace hLa := hid hLa
  replace hLs := hid hLs
  obtain ⟨n, hn⟩ : ∃ n, n = min la ls := ⟨_, rfl⟩
  have hnl : n ≤ ls := by omega
  have hnl3 : n ≤ la := by omega
  have hnm : n = la ∨ n = ls := by omega
  rw [← hn]
  replace hn := hid hn
  go_enter Try.func21, Try.ntmps21
  go_wp2
  go_loopw [7, 8] (fun p i wr => ∃ k : Nat, i = .int .i64 k ∧ k ≤ n ∧ p = .int .i64 (Pl.inside a s t k) ∧ wr = w) (fun _ i _ => n - (intOf i).toNat)
  case atStart => exact ⟨0, rfl, Nat.zero_le _, rfl, rfl⟩
  case round =>
    obtain ⟨k, rfl, hk, rfl, rfl⟩ := hrel
    by_cases hkn : k < n
    · have hka : k < la := by omega
      have hks : k < ls := by omega
      have ha := Pl.gd_get (l := a) (k := k) (by rw [hLa.out]; exact hka)
      have hs := Pl.gd_get (l := s) (k := k) (by rw [hLs.out]; exact hks)
      rcases hA.row with h0 | ⟨b, off, rfl, hb, hca⟩
      · have := hLa.out; omega
      rcases hB.row with h0 | ⟨b', off', rfl, hb', hcb⟩
      · have := hLs.out; omega
      have f0 := hca k _ ha
      have f1 := hcb k _ hs
      have hsu := inside_succ a s t k
      obtain ⟨i0, i1⟩ := Pl.inside_bounds a s t k
      generalize Pl.gd a k = x at *
      generalize Pl.gd s k = y at *
      generalize Pl.inside a s t k = p at *
      replace hsu := hid hsu
      clear ha hs hca hcb hA hB
      by_cases hx : x ≤ t
      · by_cases hy : t < y
        · go_wp2
          go_roundw
          case rel => exact ⟨k + 1, by simp, by omega, by rw [hsu.out, if_pos ⟨hx, hy⟩], trivial⟩
          case measure => simp [intOf]; omega
        · go_wp2
          go_roundw
          case rel => exact ⟨k + 1, by simp, by omega, by rw [hsu.out, if_neg (fun h => hy h.2)], trivial⟩
          case measure => simp [intOf]; omega
      · go_wp2
        go_roundw
        case rel => exact ⟨k + 1, by simp, by omega, by rw [hsu.out, if_neg (fun h => hx h.1)], trivial⟩
        case measure => simp [intOf]; omega
    · have hkn2 : k = n := by omega
      subst hkn2
      rcases hnm with rfl | rfl
      · go_wp2
        go_ret
        exact ⟨rfl, rfl⟩
      by_cases hkl : k < la
      · go_wp2
        go_ret
        exact ⟨rfl, rfl⟩
      go_wp2
      go_ret
      exact ⟨rfl, rfl⟩
end Go.Proofs.Ytpmndpbaigcaeaa
