/- The contract of Arrive of the reference of package link. -/
import Derived.Test.YtjeojnlkjecojaaDoorLinkC8
namespace Go.Proofs.YtjeojnlkjecojaaDoor
open Go Go.RowKit
set_option maxHeartbeats 1000000 in
theorem refArrive_any (l : Pl.Lk) (A : Option Addr) (c : Nat) (dir at_ m : Int) (w : World) (hA : IsCh w A l.ch) (hn : l.ch.length ≤ 100) :
    Calls Tryd.prog 24 #[.agg (lkCells l A l.ch.length c), .int .i64 dir, .int .i64 at_, .int .i64 m] w fun e w' => e = arr l dir at_ m ∧ Below w.heap.size w w' := by
  have L0 : LkS w w.heap.size l A l.ch.length c (w.alloc (.cells (lkCells l A l.ch.length c) 26)) := ⟨Bk.new _ _ _, (Below.refl w.heap.size w).alloc (Nat.le_refl _) _⟩
  have CK := fun w hA => refCheck_any l A c w hA hn
  have CDe0 := fun dir w hA => refDelay_any l A c dir at_ w hA hn
  have CN0 := fun dir w hA => refNoise_any l A c dir m w hA hn
  generalize hN : l.ch.length = n at *
  replace hN := hid hN
  replace CK := hid CK
  generalize hE : Pl.errOf l = ev at *
  replace hE := hid hE
  unfold lkCells at *
  obtain ⟨c0, c1, c2, c3, c4, c5, c6⟩ := LkS.cells L0
  go_enter Tryd.func24, Tryd.ntmps24
  go_wp2_with fail
  clear c0 c1 c2 c3 c4 c5 c6
  generalize w.alloc (.cells #[.int .i64 l.d0, .int .i64 l.d1, .int .i64 l.v0, .int .i64 l.v1, .int .i64 l.loss, .int .u64 l.seed, .slice A n c] 26) = w0 at *
  refine (CK.out _ (hA.next (LkS.bel L0))).mono ?_
  rintro e w1 ⟨rfl, hb⟩
  have L1 := LkS.next L0 hb
  clear hb L0 CK
  by_cases ho : ev = 0
  case neg =>
    go_wp2
    go_ret2
    exact ⟨arr_no (arrives_bad (.inl (by rw [hE.out]; exact ho))), L1.2⟩
  subst ho
  go_wp2_with fail
  have hdirC := refRight_any dir 1 w1
  cases hdir : Pl.inR dir 1
  case false =>
    rw [hdir] at hdirC
    refine hdirC.mono ?_
    rintro e w2 ⟨rfl, rfl⟩
    clear hdirC
    go_wp2
    go_ret2
    exact ⟨arr_no (arrives_bad (.inr (.inl hdir))), L1.2⟩
  rw [hdir] at hdirC
  refine hdirC.mono ?_
  rintro e w2 ⟨rfl, rfl⟩
  clear hdirC
  go_wp2_with fail
  have hatC := refRight_any at_ 1125899906842624 w1
  cases hat : Pl.inR at_ 1125899906842624
  case false =>
    rw [hat] at hatC
    refine hatC.mono ?_
    rintro e w2 ⟨rfl, rfl⟩
    clear hatC
    go_wp2
    go_ret2
    exact ⟨arr_no (arrives_bad (.inr (.inr (.inl hat)))), L1.2⟩
  rw [hat] at hatC
  refine hatC.mono ?_
  rintro e w2 ⟨rfl, rfl⟩
  clear hatC
  go_wp2_with fail
  have hnmC := refRight_any m 1099511627776 w1
  cases hnm : Pl.inR m 1099511627776
  case false =>
    rw [hnm] at hnmC
    refine hnmC.mono ?_
    rintro e w2 ⟨rfl, rfl⟩
    clear hnmC
    go_wp2
    go_ret2
    exact ⟨arr_no (arrives_bad (.inr (.inr (.inr hnm)))), L1.2⟩
  rw [hnm] at hnmC
  refine hnmC.mono ?_
  rintro e w2 ⟨rfl, rfl⟩
  clear hnmC
  have hg := arrives_good hE.out hdir hat hnm
  have hbad := fun h => arr_no (l := l) (dir := dir) (at_ := at_) (m := m) h
  obtain ⟨hm0, hm1⟩ := okN_of hnm
  obtain ⟨ha0, ha1⟩ := Pl.inR_true.1 hat
  obtain ⟨_, _, _, _, l0, l1⟩ := head_of hE.out
  obtain ⟨c0, c1, c2, c3, c4, c5, c6⟩ := LkS.cells L1
  rcases okDir_of hdir with rfl | rfl
  · have CM := fun w => (refMix_any l.seed (4 * m + 2 * 0) w).mono fun _ _ h => And.intro h.1 h.2.symm
    have CDe := CDe0 0
    have CN := CN0 0
    clear CDe0 CN0
    have hy : Pl.arrives l 0 at_ m = true → ∀ x, x = at_ + Pl.delayOf l 0 at_ + Pl.noiseOf l 0 m → Ending.returned (.tuple #[.int .i64 x, .bool true]) = arr l 0 at_ m := fun h x hx => arr_yes h hx
    have hlost : Pl.lost l 0 m = decide (Pl.mix l.seed (4 * m + 2 * 0) % 1000 < l.loss) := rfl
    obtain ⟨rd0, rd1⟩ := delay_range l 0 at_
    obtain ⟨rn0, rn1⟩ := noise_range l 0 m
    generalize Pl.delayOf l 0 at_ = pD at *
    generalize Pl.noiseOf l 0 m = pN at *
    simp only [Int.mul_zero, Int.add_zero] at CM hlost
    generalize hM : Pl.mix l.seed _ = mx at *
    have hmx0 : 0 ≤ mx := by rw [← hM]; exact Pl.mix_nonneg _ _
    have hmx1 : mx ≤ 18446744073709551615 := by rw [← hM]; exact Pl.mix_le _ _
    have hr0 : 0 ≤ mx % 1000 := Int.emod_nonneg _ (by omega)
    have hr1 : mx % 1000 ≤ 999 := by have := Int.emod_lt_of_pos mx (show (0 : Int) < 1000 by omega); omega
    replace hM := hid hM
    replace CM := hid CM
    replace CDe := hid CDe
    replace CN := hid CN
    replace hy := hid hy
    replace hbad := hid hbad
    by_cases hl : mx % 1000 < l.loss
    · go_wp2_with fail
      go_quiet (exact Calls.quiet_of_same (CM.out _))
      go_wp2
      go_ret2
      exact ⟨hbad.out (by rw [hg, hlost, decide_eq_true hl]; rfl), bdrewN L1.2 nq⟩
    · go_wp2_with fail
      go_quiet (exact Calls.quiet_of_same (CM.out _))
      have L2 := LkS.drewN L1 nq
      clear L1
      go_wp2_with fail
      generalize w1.drewN nq = w2 at *
      clear c0 c1 c2 c3 c4 c5 c6
      refine region_class (fun w' => LkS w w.heap.size l A n c w') (by kernel_rfl) (by kernel_rfl) (LkS.drew L2) ?_
      clear L2
      repeat
        first
        | (refine class_want (by rfl) ?_
           apply Exists.intro
           refine ⟨fun w1 h1 => ?_, ?_⟩
           focus
             obtain ⟨c0, c1, c2, c3, c4, c5, c6⟩ := LkS.cells h1
             unfold Oper.quietAt Oper.quietUpon
             go_simp
             first
             | exact rfl
             | (with_reducible refine (CDe.out _ (hA.next (LkS.bel h1))).mono ?_
                rintro e w2 ⟨rfl, hb⟩
                exact ⟨rfl, LkS.next h1 hb⟩)
             | (with_reducible refine (CN.out _ (hA.next (LkS.bel h1))).mono ?_
                rintro e w2 ⟨rfl, hb⟩
                exact ⟨rfl, LkS.next h1 hb⟩)
           simp only [Act.put, List.setIfInBounds_toArray, List.set_cons_zero, List.set_cons_succ])
      refine wpQuiet_nil ?_
      intro w3 h3
      go_wp2
      go_ret2
      refine ⟨hy.out (by rw [hg, hlost, decide_eq_false (show ¬ mx % 1000 < l.loss by omega)]; rfl) (IntKind.i64.wrap (IntKind.i64.wrap (at_ + pD) + pN)) ?_, h3.2⟩
      rw [wrap_i64_id (x := at_ + pD) (by omega), wrap_i64_id (by omega)]
  · have CM := fun w => (refMix_any l.seed (4 * m + 2 * 1) w).mono fun _ _ h => And.intro h.1 h.2.symm
    have CDe := CDe0 1
    have CN := CN0 1
    clear CDe0 CN0
    have hy : Pl.arrives l 1 at_ m = true → ∀ x, x = at_ + Pl.delayOf l 1 at_ + Pl.noiseOf l 1 m → Ending.returned (.tuple #[.int .i64 x, .bool true]) = arr l 1 at_ m := fun h x hx => arr_yes h hx
    have hlost : Pl.lost l 1 m = decide (Pl.mix l.seed (4 * m + 2 * 1) % 1000 < l.loss) := rfl
    obtain ⟨rd0, rd1⟩ := delay_range l 1 at_
    obtain ⟨rn0, rn1⟩ := noise_range l 1 m
    generalize Pl.delayOf l 1 at_ = pD at *
    generalize Pl.noiseOf l 1 m = pN at *
    simp only [Int.mul_one] at CM hlost
    generalize hM : Pl.mix l.seed _ = mx at *
    have hmx0 : 0 ≤ mx := by rw [← hM]; exact Pl.mix_nonneg _ _
    have hmx1 : mx ≤ 18446744073709551615 := by rw [← hM]; exact Pl.mix_le _ _
    have hr0 : 0 ≤ mx % 1000 := Int.emod_nonneg _ (by omega)
    have hr1 : mx % 1000 ≤ 999 := by have := Int.emod_lt_of_pos mx (show (0 : Int) < 1000 by omega); omega
    replace hM := hid hM
    replace CM := hid CM
    replace CDe := hid CDe
    replace CN := hid CN
    replace hy := hid hy
    replace hbad := hid hbad
    by_cases hl : mx % 1000 < l.loss
    · go_wp2_with fail
      go_quiet (exact Calls.quiet_of_same (CM.out _))
      go_wp2
      go_ret2
      exact ⟨hbad.out (by rw [hg, hlost, decide_eq_true hl]; rfl), bdrewN L1.2 nq⟩
    · go_wp2_with fail
      go_quiet (exact Calls.quiet_of_same (CM.out _))
      have L2 := LkS.drewN L1 nq
      clear L1
      go_wp2_with fail
      generalize w1.drewN nq = w2 at *
      clear c0 c1 c2 c3 c4 c5 c6
      refine region_class (fun w' => LkS w w.heap.size l A n c w') (by kernel_rfl) (by kernel_rfl) (LkS.drew L2) ?_
      clear L2
      repeat
        first
        | (refine class_want (by rfl) ?_
           apply Exists.intro
           refine ⟨fun w1 h1 => ?_, ?_⟩
           focus
             obtain ⟨c0, c1, c2, c3, c4, c5, c6⟩ := LkS.cells h1
             unfold Oper.quietAt Oper.quietUpon
             go_simp
             first
             | exact rfl
             | (with_reducible refine (CDe.out _ (hA.next (LkS.bel h1))).mono ?_
                rintro e w2 ⟨rfl, hb⟩
                exact ⟨rfl, LkS.next h1 hb⟩)
             | (with_reducible refine (CN.out _ (hA.next (LkS.bel h1))).mono ?_
                rintro e w2 ⟨rfl, hb⟩
                exact ⟨rfl, LkS.next h1 hb⟩)
           simp only [Act.put, List.setIfInBounds_toArray, List.set_cons_zero, List.set_cons_succ])
      refine wpQuiet_nil ?_
      intro w3 h3
      go_wp2
      go_ret2
      refine ⟨hy.out (by rw [hg, hlost, decide_eq_false (show ¬ mx % 1000 < l.loss by omega)]; rfl) (IntKind.i64.wrap (IntKind.i64.wrap (at_ + pD) + pN)) ?_, h3.2⟩
      rw [wrap_i64_id (x := at_ + pD) (by omega), wrap_i64_id (by omega)]
end Go.Proofs.YtjeojnlkjecojaaDoor
