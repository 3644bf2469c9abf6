/- The walks of the laws ChainNobody and ChainIntervals. -/
import Derived.Test.YtmegiodajkeahaaDoorChA1
namespace Go.Proofs.YtmegiodajkeahaaDoor
open Go Go.RowKit
set_option maxHeartbeats 1000000 in
set_option maxRecDepth 100000 in
theorem chainNobody_walk (i : Int) (A : Option Addr) (c n : Nat) (k0 k1 : Int) (W : World) (hR : Rnd W) (hG : CfG W) (hn : n ≤ 9223372036854775807) :
    Calls Tryd.prog 10 #[.int .i64 i, .slice A n c, .agg #[.int .u64 k0, .int .u64 k1]] W fun e w' => e = .returned (.bool true) ∧ Below W.heap.size W w' := by
  have B0 := (Below.refl W.heap.size W).alloc (Nat.le_refl _) (.cells #[.int .u64 k0, .int .u64 k1] 37)
  have K0 := Bk.new W 37 #[.int .u64 k0, .int .u64 k1]
  have HR := hid (And.intro hR hG)
  clear hR hG
  obtain ⟨c0, c1⟩ := K0.two
  by_cases h : 1000 < n
  · go_enter Tryd.func10, Tryd.ntmps10
    go_wp2_with fail
    refine (awake_any _ (HR.out.1.next B0) (HR.out.2.next B0)).mono ?_
    rintro e w1 ⟨rfl, hb⟩
    go_wp2
    go_ret
    exact ⟨rfl, bstep B0 hb⟩
  · go_enter Tryd.func10, Tryd.ntmps10
    go_wp2_with fail
    generalize W.alloc (.cells #[.int .u64 k0, .int .u64 k1] 37) = w0 at *
    refine (disclose_nil _ _ _ _).mono ?_
    rintro e w1 ⟨rfl, hb1⟩
    have K1 := K0.next hb1
    have B1 := hid (bstep B0 hb1)
    clear K0 B0 hb1 c0 c1
    obtain ⟨c0, c1⟩ := K1.two
    go_wp2_with fail
    refine (hear_nil _ _ _ _ _ _).mono ?_
    rintro e w2 ⟨rfl, hb2⟩
    have B2 := hid (bstep B1.out hb2)
    clear K1 B1 hb2 c0 c1
    go_wp2_with fail
    refine (known_nil _).mono ?_
    rintro e w3 ⟨rfl, rfl⟩
    go_wp2_with fail
    refine (held_nil _).mono ?_
    rintro e w3 ⟨rfl, rfl⟩
    go_wp2_with fail
    refine (awake_any _ (HR.out.1.next B2.out) (HR.out.2.next B2.out)).mono ?_
    rintro e w4 ⟨rfl, hb4⟩
    go_wp2
    go_ret
    exact ⟨rfl, bstep B2.out hb4⟩
namespace Pl
theorem ivl_at {st sp de co t : Int} (h : cfOk st sp de co) (h2 : ¬ t < st) : (ivl st sp de co t = co + 1 ∧ st + co * sp ≤ t) ∨ (1 ≤ ivl st sp de co t ∧ ivl st sp de co t ≤ co ∧ st + (ivl st sp de co t - 1) * sp ≤ t ∧ t < st + ivl st sp de co t * sp) := by
  rw [ivl_good h h2]
  obtain ⟨⟨a0, a1⟩, ⟨b0, b1⟩, _, d0, d1⟩ := h
  have e := Int.mul_ediv_add_emod (t - st) sp
  have m0 := Int.emod_nonneg (t - st) (show sp ≠ 0 by omega)
  have m1 := Int.emod_lt_of_pos (t - st) (show 0 < sp by omega)
  have q0 : 0 ≤ (t - st) / sp := Int.ediv_nonneg (by omega) (by omega)
  generalize (t - st) / sp = q at *
  generalize (t - st) % sp = m at *
  rw [Int.mul_comm] at e
  split
  · rename_i hc
    have : co * sp ≤ q * sp := Int.mul_le_mul_of_nonneg_right (by omega) (by omega)
    exact .inl ⟨rfl, by omega⟩
  · rename_i hc
    by_cases hq : q = co
    · subst hq
      exact .inl ⟨rfl, by omega⟩
    · refine .inr ⟨by omega, by omega, ?_, ?_⟩
      · rw [show q + 1 - 1 = q by omega]; omega
      · rw [show (q + 1) * sp = q * sp + sp by rw [Int.add_mul, Int.one_mul]]; omega
end Pl
set_option maxHeartbeats 2000000 in
set_option maxRecDepth 100000 in
theorem chainIntervals_walk (st sp de co t : Int) (W : World) (hR : Rnd W) (hG : CfG W) (ht0 : -9223372036854775808 ≤ t) (ht : t ≤ 9223372036854775807) :
    Calls Tryd.prog 6 #[.agg (cfCells st sp de co), .int .i64 t] W fun e w' => e = .returned (.bool true) ∧ Below W.heap.size W w' := by
  have K0 : CfS W W.heap.size st sp de co (W.alloc (.cells (cfCells st sp de co) 23)) := ⟨Bk.new W 23 _, (Below.refl W.heap.size W).alloc (Nat.le_refl _) _⟩
  have CK : ∀ w, Calls Tryd.prog 12 #[.agg #[.int .i64 st, .int .i64 sp, .int .i64 de, .int .i64 co]] w fun e w' => e = .returned (.int .i64 (Pl.cfErr st sp de co)) ∧ Below w.heap.size w w' := fun w => chk_any st sp de co w
  have CI : ∀ w, Calls Tryd.prog 17 #[.agg #[.int .i64 st, .int .i64 sp, .int .i64 de, .int .i64 co], .int .i64 t] w fun e w' => e = .returned (.int .i64 (Pl.ivl st sp de co t)) ∧ Below w.heap.size w w' := fun w => interval_any st sp de co t ht w
  obtain ⟨c0, c1, c2, c3⟩ := K0.cells
  have HR := hid (And.intro hR hG)
  replace CK := hid CK
  replace CI := hid CI
  clear hR hG
  unfold cfCells at *
  have AW : ∀ w, Below W.heap.size W w → Calls Tryd.prog 19 #[] w fun e w' => e = .returned (.bool true) ∧ Below w.heap.size w w' := fun w h => awake_any w (HR.out.1.next h) (HR.out.2.next h)
  replace AW := hid AW
  go_enter Tryd.func6, Tryd.ntmps6
  go_wp2_with fail
  generalize W.alloc (.cells #[.int .i64 st, .int .i64 sp, .int .i64 de, .int .i64 co] 23) = w0 at *
  refine (CK.out _).mono ?_
  rintro e w1 ⟨rfl, hb1⟩
  have K1 := CfS.next K0 hb1
  clear K0 hb1 c0 c1 c2 c3
  obtain ⟨c0, c1, c2, c3⟩ := CfS.cells K1
  by_cases hok : Pl.cfOk st sp de co
  case neg =>
    have hz := hid (Pl.ivl_bad (t := t) (.inl hok))
    rw [Pl.cfErr_no hok]
    go_wp2_with fail
    refine (CI.out _).mono ?_
    rintro e w2 ⟨rfl, hb2⟩
    have K2 := CfS.next K1 hb2
    rw [hz.out]
    go_wp2_with fail
    refine (AW.out _ K2.2).mono ?_
    rintro e w3 ⟨rfl, hb3⟩
    go_wp2
    go_ret
    exact ⟨rfl, bstep K2.2 hb3⟩
  rw [Pl.cfErr_yes hok]
  have HOK := hid hok
  obtain ⟨⟨a0, a1⟩, ⟨b0, b1⟩, _, d0, d1⟩ := hok
  go_wp2_with fail
  refine (CI.out _).mono ?_
  rintro e w2 ⟨rfl, hb2⟩
  have K2 := CfS.next K1 hb2
  clear K1 hb2 c0 c1 c2 c3
  obtain ⟨c0, c1, c2, c3⟩ := CfS.cells K2
  by_cases hlt : t < st
  · have hz := hid (Pl.ivl_bad (de := de) (co := co) (sp := sp) (t := t) (.inr hlt))
    rw [hz.out]
    go_wp2_with fail
    refine (AW.out _ K2.2).mono ?_
    rintro e w3 ⟨rfl, hb3⟩
    go_wp2
    go_ret
    exact ⟨rfl, bstep K2.2 hb3⟩
  have hat := Pl.ivl_at HOK.out hlt
  have hlt' : st ≤ t := by omega
  generalize Pl.ivl st sp de co t = n at *
  rcases hat with ⟨rfl, hge⟩ | ⟨hn0, hn1, hge, hl⟩
  · have hp0 : 0 ≤ co * sp := Int.mul_nonneg (by omega) (by omega)
    have hp1 : co * sp ≤ 64 * 1125899906842624 := Int.mul_le_mul (by omega) b1 (by omega) (by omega)
    go_wp2_with fail
    refine (AW.out _ K2.2).mono ?_
    rintro e w3 ⟨rfl, hb3⟩
    go_wp2
    go_ret
    exact ⟨rfl, bstep K2.2 hb3⟩
  · have hp0 : 0 ≤ (n - 1) * sp := Int.mul_nonneg (by omega) (by omega)
    have hp1 : (n - 1) * sp ≤ 64 * 1125899906842624 := Int.mul_le_mul (by omega) b1 (by omega) (by omega)
    have hp2 : 0 ≤ n * sp := Int.mul_nonneg (by omega) (by omega)
    have hp3 : n * sp ≤ 64 * 1125899906842624 := Int.mul_le_mul (by omega) b1 (by omega) (by omega)
    have hne : (n == 0) = false := by rw [beq_eq_false_iff_ne]; omega
    have hne1 : (n == co + 1) = false := by rw [beq_eq_false_iff_ne]; omega
    go_wp2_with fail
    refine (AW.out _ K2.2).mono ?_
    rintro e w3 ⟨rfl, hb3⟩
    go_wp2
    go_ret
    exact ⟨rfl, bstep K2.2 hb3⟩
end Go.Proofs.YtmegiodajkeahaaDoor
