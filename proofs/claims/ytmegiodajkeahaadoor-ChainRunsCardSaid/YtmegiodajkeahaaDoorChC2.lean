/- Intervals of chains: plain law, and the contracts of Interval of package chain and of its reference. -/
import Derived.Test.YtmegiodajkeahaaDoorChC1
namespace Go.Proofs.YtmegiodajkeahaaDoor
open Go Go.RowKit
namespace Pl
def ivl (st sp de co t : Int) : Int := if cfOk st sp de co ∧ ¬ t < st then (if co < (t - st) / sp then co else (t - st) / sp) + 1 else 0
theorem ivl_bad {st sp de co t : Int} (h : ¬ cfOk st sp de co ∨ t < st) : ivl st sp de co t = 0 := by
  unfold ivl; rw [if_neg]
  rintro ⟨h1, h2⟩
  rcases h with h | h
  · exact h h1
  · exact h2 h
theorem ivl_good {st sp de co t : Int} (h : cfOk st sp de co) (h2 : ¬ t < st) : ivl st sp de co t = (if co < (t - st) / sp then co else (t - st) / sp) + 1 := by
  unfold ivl; rw [if_pos ⟨h, h2⟩]
/-- What the reference's loop finds. -/
theorem ivl_stop {st sp de co t : Int} {n : Nat} (h : cfOk st sp de co) (h0 : ∀ j : Nat, j < n → st + j * sp ≤ t) (hn : (n : Int) ≤ co + 1) (h1 : (n : Int) = co + 1 ∨ t < st + n * sp) : ivl st sp de co t = n := by
  obtain ⟨⟨a0, a1⟩, ⟨b0, b1⟩, _, c0, c1⟩ := h
  by_cases hn0 : n = 0
  · subst hn0
    rw [ivl_bad (.inr (by rcases h1 with h1 | h1 <;> simp at h1 <;> omega))]; rfl
  · have hz := h0 0 (by omega)
    simp at hz
    have hm := h0 (n - 1) (by omega)
    have hcast : ((n - 1 : Nat) : Int) = (n : Int) - 1 := by omega
    rw [hcast] at hm
    have hq : (n : Int) - 1 ≤ (t - st) / sp := by
      rw [Int.le_ediv_iff_mul_le (by omega)]; omega
    rw [ivl_good ⟨⟨a0, a1⟩, ⟨b0, b1⟩, by assumption, c0, c1⟩ (by omega)]
    rcases h1 with h1 | h1
    · split <;> omega
    · have hq2 : (t - st) / sp < (n : Int) := by
        rw [Int.ediv_lt_iff_lt_mul (by omega)]; omega
      split <;> omega
end Pl
def CfS (W : World) (g : Nat) (st sp de co : Int) (w : World) : Prop := Bk w g 23 (cfCells st sp de co) ∧ Below W.heap.size W w
theorem CfS.cells {W w : World} {g : Nat} {st sp de co : Int} (h : CfS W g st sp de co w) : (w.cell? ⟨g, 0, none⟩ = some (.int .i64 st)) ∧ (w.cell? ⟨g, 1, none⟩ = some (.int .i64 sp)) ∧ (w.cell? ⟨g, 2, none⟩ = some (.int .i64 de)) ∧ (w.cell? ⟨g, 3, none⟩ = some (.int .i64 co)) := ⟨h.1.cell 0, h.1.cell 1, h.1.cell 2, h.1.cell 3⟩
theorem CfS.next {W w w' : World} {g : Nat} {st sp de co : Int} (h : CfS W g st sp de co w) (hb : Below w.heap.size w w') : CfS W g st sp de co w' := ⟨h.1.next hb, bstep h.2 hb⟩
set_option maxHeartbeats 1000000 in
theorem interval_any (st sp de co t : Int) (ht : t ≤ 9223372036854775807) (w : World) : Calls Tryd.prog 17 #[.agg (cfCells st sp de co), .int .i64 t] w fun e w' => e = .returned (.int .i64 (Pl.ivl st sp de co t)) ∧ Below w.heap.size w w' := by
  have K : CfS w w.heap.size st sp de co (w.alloc (.cells (cfCells st sp de co) 23)) := ⟨Bk.new w 23 _, (Below.refl w.heap.size w).alloc (Nat.le_refl _) _⟩
  have CK := fun w => chk_any st sp de co w
  obtain ⟨c0, c1, c2, c3⟩ := K.cells
  replace CK := hid CK
  unfold cfCells at *
  go_enter Tryd.func17, Tryd.ntmps17
  go_wp2_with fail
  clear c0 c1 c2 c3
  generalize w.alloc (.cells #[.int .i64 st, .int .i64 sp, .int .i64 de, .int .i64 co] 23) = w0 at *
  refine (CK.out _).mono ?_
  rintro e w1 ⟨rfl, hb⟩
  have K1 := CfS.next K hb
  clear K hb CK
  obtain ⟨c0, c1, c2, c3⟩ := CfS.cells K1
  by_cases hok : Pl.cfOk st sp de co
  case neg =>
    have h3 := Pl.cfErr_no hok
    rw [h3]
    go_wp2
    go_ret
    exact ⟨ret_int (Pl.ivl_bad (.inl hok)).symm, K1.2⟩
  have h3 := Pl.cfErr_yes hok
  rw [h3]
  clear h3
  by_cases hlt : t < st
  · go_wp2
    go_ret
    exact ⟨ret_int (Pl.ivl_bad (.inr hlt)).symm, K1.2⟩
  have hg := hid (Pl.ivl_good hok hlt)
  obtain ⟨⟨a0, a1⟩, ⟨b0, b1⟩, _, d0, d1⟩ := hok
  have hlt2 : 0 ≤ t - st := by omega
  have hq0 : 0 ≤ (t - st) / sp := Int.ediv_nonneg (by omega) (by omega)
  by_cases hco : co < (t - st) / sp
  · have hg2 := hg.out
    rw [if_pos hco] at hg2
    replace hg2 := hid hg2
    clear hg
    go_wp2
    go_ret
    exact ⟨ret_int hg2.out.symm, K1.2⟩
  · have hg2 := hg.out
    rw [if_neg hco] at hg2
    replace hg2 := hid hg2
    clear hg
    go_wp2
    go_ret
    exact ⟨ret_int hg2.out.symm, K1.2⟩
set_option maxHeartbeats 1000000 in
theorem refInterval_any (st sp de co t : Int) (w : World) : Calls Tryd.prog 18 #[.agg (cfCells st sp de co), .int .i64 t] w fun e w' => e = .returned (.int .i64 (Pl.ivl st sp de co t)) ∧ Below w.heap.size w w' := by
  have K : CfS w w.heap.size st sp de co (w.alloc (.cells (cfCells st sp de co) 23)) := ⟨Bk.new w 23 _, (Below.refl w.heap.size w).alloc (Nat.le_refl _) _⟩
  have CK := fun w => refChk_any st sp de co w
  obtain ⟨c0, c1, c2, c3⟩ := K.cells
  replace CK := hid CK
  unfold cfCells at *
  go_enter Tryd.func18, Tryd.ntmps18
  go_wp2_with fail
  clear c0 c1 c2 c3
  generalize w.alloc (.cells #[.int .i64 st, .int .i64 sp, .int .i64 de, .int .i64 co] 23) = w0 at *
  refine (CK.out _).mono ?_
  rintro e w1 ⟨rfl, hb⟩
  have K1 := CfS.next K hb
  clear K hb CK
  obtain ⟨c0, c1, c2, c3⟩ := CfS.cells K1
  by_cases hok : Pl.cfOk st sp de co
  case neg =>
    have h3 := Pl.cfErr_no hok
    rw [h3]
    go_wp2
    go_ret
    exact ⟨ret_int (Pl.ivl_bad (.inl hok)).symm, K1.2⟩
  have h3 := Pl.cfErr_yes hok
  rw [h3]
  clear h3
  have hok' := hid hok
  obtain ⟨⟨a0, a1⟩, ⟨b0, b1⟩, _, d0, d1⟩ := hok
  go_wp2
  go_loopw [5] (fun i wr => ∃ k : Nat, i = .int .i64 k ∧ (k : Int) ≤ co + 1 ∧ (∀ j : Nat, j < k → st + j * sp ≤ t) ∧ wr = w1) (fun i _ => (co + 2).toNat - (intOf i).toNat)
  case atStart => exact ⟨0, rfl, by simp; omega, fun j hj => absurd hj (Nat.not_lt_zero j), rfl⟩
  case round =>
    obtain ⟨k, rfl, hk, hq, rfl⟩ := hrel
    have hp0 : 0 ≤ (k : Int) * sp := Int.mul_nonneg (by omega) (by omega)
    have hp1 : (k : Int) * sp ≤ 65 * 1125899906842624 := Int.mul_le_mul (by omega) b1 (by omega) (by omega)
    have hst := hid (fun h1 => Pl.ivl_stop (n := k) hok'.out hq hk h1)
    by_cases hkc : (k : Int) ≤ co
    · by_cases hge : st + (k : Int) * sp ≤ t
      · replace hq := hid hq
        go_wp2
        go_roundw
        case rel =>
          refine ⟨k + 1, by simp, by omega, fun j hj => ?_, trivial⟩
          by_cases hjk : j = k
          · subst hjk; exact hge
          · exact hq.out j (by omega)
        case measure => simp [intOf]; omega
      · have hge' : t < st + (k : Int) * sp := by omega
        have hz := hid (hst.out (.inr hge'))
        clear hst hq
        go_wp2
        go_ret
        exact ⟨ret_int hz.out.symm, K1.2⟩
    · have hz := hid (hst.out (.inl (by omega)))
      clear hst hq
      go_wp2
      go_ret
      exact ⟨ret_int hz.out.symm, K1.2⟩
end Go.Proofs.YtmegiodajkeahaaDoor
