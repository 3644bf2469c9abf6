/- The contracts of Noise of package link and of its reference. -/
import Derived.Test.YtjeojnlkjecojaaDoorLinkC6
namespace Go.Proofs.YtjeojnlkjecojaaDoor
open Go Go.RowKit
theorem noiseOf_bad {l : Pl.Lk} {dir n : Int} (h : ¬ Pl.errOf l = 0 ∨ Pl.okDir dir = false ∨ Pl.okN n = false) : Pl.noiseOf l dir n = 0 := by
  unfold Pl.noiseOf
  rw [if_neg]
  rintro ⟨h0, h1, h2⟩
  rcases h with h | h | h
  · exact h h0
  · rw [h1] at h; cases h
  · rw [h2] at h; cases h
theorem noiseOf_good {l : Pl.Lk} {dir n : Int} (h0 : Pl.errOf l = 0) (h1 : Pl.okDir dir = true) (h2 : Pl.okN n = true) : Pl.noiseOf l dir n = Pl.mix l.seed (4 * n + 2 * dir + 1) % (Pl.vBase l dir + 1) := by
  unfold Pl.noiseOf; rw [if_pos ⟨h0, h1, h2⟩]
theorem okN_of {n : Int} (h : Pl.okN n = true) : 0 ≤ n ∧ n ≤ 1099511627776 := Pl.inR_true.1 h
theorem head_of {l : Pl.Lk} (ho : Pl.errOf l = 0) : (0 ≤ l.d0 ∧ l.d0 ≤ 10000000000) ∧ (0 ≤ l.d1 ∧ l.d1 ≤ 10000000000) ∧ (0 ≤ l.v0 ∧ l.v0 ≤ 10000000000) ∧ (0 ≤ l.v1 ∧ l.v1 ≤ 10000000000) ∧ 0 ≤ l.loss ∧ l.loss ≤ 1000 := by
  have h := (Pl.ok_of ho).1
  unfold Pl.headOk at h
  simp only [Bool.and_eq_true, Pl.inR_true] at h
  omega
set_option maxHeartbeats 1000000 in
theorem noise_any (l : Pl.Lk) (A : Option Addr) (c : Nat) (dir m : Int) (w : World) (hA : IsCh w A l.ch) (hn : l.ch.length ≤ 100) (hR : Rnd w) :
    Calls Tryd.prog 19 #[.agg (lkCells l A l.ch.length c), .int .i64 dir, .int .i64 m] w fun e w' => e = .returned (.int .i64 (Pl.noiseOf l dir m)) ∧ Below w.heap.size w w' := by
  have L0 : LkS w w.heap.size l A l.ch.length c (w.alloc (.cells (lkCells l A l.ch.length c) 26)) := ⟨Bk.new _ _ _, (Below.refl w.heap.size w).alloc (Nat.le_refl _) _⟩
  have CK := fun w hA => check_any l A c w hA hn
  generalize hN : l.ch.length = n at *
  replace hN := hid hN
  replace CK := hid CK
  generalize hE : Pl.errOf l = ev at *
  replace hE := hid hE
  unfold lkCells at *
  obtain ⟨c0, c1, c2, c3, c4, c5, c6⟩ := LkS.cells L0
  go_enter Tryd.func19, Tryd.ntmps19
  go_wp2_with fail
  clear c0 c1 c2 c3 c4 c5 c6
  generalize w.alloc (.cells #[.int .i64 l.d0, .int .i64 l.d1, .int .i64 l.v0, .int .i64 l.v1, .int .i64 l.loss, .int .u64 l.seed, .slice A n c] 26) = w0 at *
  refine (CK.out _ (hA.next (LkS.bel L0))).mono ?_
  rintro e w1 ⟨rfl, hb⟩
  have L1 := LkS.next L0 hb
  clear hb L0 CK
  by_cases ho : ev = 0
  case neg =>
    go_wp2
    go_ret
    exact ⟨ret_int (noiseOf_bad (.inl (by rw [hE.out]; exact ho))).symm, L1.2⟩
  subst ho
  go_wp2_with fail
  have hdirC := isDir_any dir w1
  cases hdir : Pl.okDir dir
  case false =>
    rw [hdir] at hdirC
    refine hdirC.mono ?_
    rintro e w2 ⟨rfl, rfl⟩
    clear hdirC
    go_wp2
    go_ret
    exact ⟨ret_int (noiseOf_bad (.inr (.inl hdir))).symm, L1.2⟩
  rw [hdir] at hdirC
  refine hdirC.mono ?_
  rintro e w2 ⟨rfl, rfl⟩
  clear hdirC
  go_wp2_with fail
  have hatC := isNumber_any m w1
  cases hat : Pl.okN m
  case false =>
    rw [hat] at hatC
    refine hatC.mono ?_
    rintro e w2 ⟨rfl, rfl⟩
    clear hatC
    go_wp2
    go_ret
    exact ⟨ret_int (noiseOf_bad (.inr (.inr hat))).symm, L1.2⟩
  rw [hat] at hatC
  refine hatC.mono ?_
  rintro e w2 ⟨rfl, rfl⟩
  clear hatC
  have hg := noiseOf_good hE.out hdir hat
  obtain ⟨hm0, hm1⟩ := okN_of hat
  obtain ⟨_, _, ⟨v0a, v0b⟩, ⟨v1a, v1b⟩, _, _⟩ := head_of hE.out
  obtain ⟨c0, c1, c2, c3, c4, c5, c6⟩ := LkS.cells L1
  rcases okDir_of hdir with rfl | rfl
  · have hb0 : Pl.vBase l 0 = l.v0 := rfl
    rw [hb0] at hg
    clear hb0
    have CM := fun w hR => mix_any l.seed (4 * m + 2 * 0 + 1) w hR
    simp only [Int.mul_zero, Int.add_zero] at CM hg
    replace CM := hid CM
    go_wp2_with fail
    refine (CM.out _ (hR.next (LkS.bel L1))).mono ?_
    rintro e w2 ⟨rfl, hb⟩
    have L2 := LkS.next L1 hb
    clear c0 c1 c2 c3 c4 c5 c6 L1 CM
    obtain ⟨c0, c1, c2, c3, c4, c5, c6⟩ := LkS.cells L2
    generalize hM : Pl.mix l.seed _ = mx at *
    have hmx0 : 0 ≤ mx := by rw [← hM]; exact Pl.mix_nonneg _ _
    have hmx1 : mx ≤ 18446744073709551615 := by rw [← hM]; exact Pl.mix_le _ _
    have hr0 : 0 ≤ mx % (l.v0 + 1) := Int.emod_nonneg _ (by omega)
    have hr1 : mx % (l.v0 + 1) ≤ 10000000000 := by have := Int.emod_lt_of_pos mx (show 0 < l.v0 + 1 by omega); omega
    replace hM := hid hM
    go_wp2
    go_ret
    exact ⟨ret_int hg.symm, L2.2⟩
  · have hb0 : Pl.vBase l 1 = l.v1 := rfl
    rw [hb0] at hg
    clear hb0
    have CM := fun w hR => mix_any l.seed (4 * m + 2 * 1 + 1) w hR
    simp only [Int.mul_one] at CM hg
    replace CM := hid CM
    go_wp2_with fail
    refine (CM.out _ (hR.next (LkS.bel L1))).mono ?_
    rintro e w2 ⟨rfl, hb⟩
    have L2 := LkS.next L1 hb
    clear c0 c1 c2 c3 c4 c5 c6 L1 CM
    obtain ⟨c0, c1, c2, c3, c4, c5, c6⟩ := LkS.cells L2
    generalize hM : Pl.mix l.seed _ = mx at *
    have hmx0 : 0 ≤ mx := by rw [← hM]; exact Pl.mix_nonneg _ _
    have hmx1 : mx ≤ 18446744073709551615 := by rw [← hM]; exact Pl.mix_le _ _
    have hr0 : 0 ≤ mx % (l.v1 + 1) := Int.emod_nonneg _ (by omega)
    have hr1 : mx % (l.v1 + 1) ≤ 10000000000 := by have := Int.emod_lt_of_pos mx (show 0 < l.v1 + 1 by omega); omega
    replace hM := hid hM
    go_wp2
    go_ret
    exact ⟨ret_int hg.symm, L2.2⟩
set_option maxHeartbeats 1000000 in
theorem refNoise_any (l : Pl.Lk) (A : Option Addr) (c : Nat) (dir m : Int) (w : World) (hA : IsCh w A l.ch) (hn : l.ch.length ≤ 100) :
    Calls Tryd.prog 20 #[.agg (lkCells l A l.ch.length c), .int .i64 dir, .int .i64 m] w fun e w' => e = .returned (.int .i64 (Pl.noiseOf l dir m)) ∧ Below w.heap.size w w' := by
  have L0 : LkS w w.heap.size l A l.ch.length c (w.alloc (.cells (lkCells l A l.ch.length c) 26)) := ⟨Bk.new _ _ _, (Below.refl w.heap.size w).alloc (Nat.le_refl _) _⟩
  have CK := fun w hA => refCheck_any l A c w hA hn
  generalize hN : l.ch.length = n at *
  replace hN := hid hN
  replace CK := hid CK
  generalize hE : Pl.errOf l = ev at *
  replace hE := hid hE
  unfold lkCells at *
  obtain ⟨c0, c1, c2, c3, c4, c5, c6⟩ := LkS.cells L0
  go_enter Tryd.func20, Tryd.ntmps20
  go_wp2_with fail
  clear c0 c1 c2 c3 c4 c5 c6
  generalize w.alloc (.cells #[.int .i64 l.d0, .int .i64 l.d1, .int .i64 l.v0, .int .i64 l.v1, .int .i64 l.loss, .int .u64 l.seed, .slice A n c] 26) = w0 at *
  refine (CK.out _ (hA.next (LkS.bel L0))).mono ?_
  rintro e w1 ⟨rfl, hb⟩
  have L1 := LkS.next L0 hb
  clear hb L0 CK
  by_cases ho : ev = 0
  case neg =>
    go_wp2
    go_ret
    exact ⟨ret_int (noiseOf_bad (.inl (by rw [hE.out]; exact ho))).symm, L1.2⟩
  subst ho
  go_wp2_with fail
  have hdirC := refRight_any dir 1 w1
  cases hdir : Pl.inR dir 1
  case false =>
    rw [hdir] at hdirC
    refine hdirC.mono ?_
    rintro e w2 ⟨rfl, rfl⟩
    clear hdirC
    go_wp2
    go_ret
    exact ⟨ret_int (noiseOf_bad (.inr (.inl hdir))).symm, L1.2⟩
  rw [hdir] at hdirC
  refine hdirC.mono ?_
  rintro e w2 ⟨rfl, rfl⟩
  clear hdirC
  go_wp2_with fail
  have hatC := refRight_any m 1099511627776 w1
  cases hat : Pl.inR m 1099511627776
  case false =>
    rw [hat] at hatC
    refine hatC.mono ?_
    rintro e w2 ⟨rfl, rfl⟩
    clear hatC
    go_wp2
    go_ret
    exact ⟨ret_int (noiseOf_bad (.inr (.inr hat))).symm, L1.2⟩
  rw [hat] at hatC
  refine hatC.mono ?_
  rintro e w2 ⟨rfl, rfl⟩
  clear hatC
  have hg := noiseOf_good hE.out hdir hat
  obtain ⟨hm0, hm1⟩ := okN_of hat
  obtain ⟨_, _, ⟨v0a, v0b⟩, ⟨v1a, v1b⟩, _, _⟩ := head_of hE.out
  obtain ⟨c0, c1, c2, c3, c4, c5, c6⟩ := LkS.cells L1
  rcases okDir_of hdir with rfl | rfl
  · have hb0 : Pl.vBase l 0 = l.v0 := rfl
    rw [hb0] at hg
    clear hb0
    have CM := fun w => (refMix_any l.seed (4 * m + 2 * 0 + 1) w).mono fun _ _ h => And.intro h.1 h.2.symm
    simp only [Int.mul_zero, Int.add_zero] at CM hg
    generalize hM : Pl.mix l.seed _ = mx at *
    have hmx0 : 0 ≤ mx := by rw [← hM]; exact Pl.mix_nonneg _ _
    have hmx1 : mx ≤ 18446744073709551615 := by rw [← hM]; exact Pl.mix_le _ _
    have hr0 : 0 ≤ mx % (l.v0 + 1) := Int.emod_nonneg _ (by omega)
    have hr1 : mx % (l.v0 + 1) ≤ 10000000000 := by have := Int.emod_lt_of_pos mx (show 0 < l.v0 + 1 by omega); omega
    replace hM := hid hM
    replace CM := hid CM
    go_wp2_with fail
    go_quiet (exact Calls.quiet_of_same (CM.out _))
    go_wp2
    go_ret
    exact ⟨ret_int hg.symm, bdrewN L1.2 nq⟩
  · have hb0 : Pl.vBase l 1 = l.v1 := rfl
    rw [hb0] at hg
    clear hb0
    have CM := fun w => (refMix_any l.seed (4 * m + 2 * 1 + 1) w).mono fun _ _ h => And.intro h.1 h.2.symm
    simp only [Int.mul_one] at CM hg
    generalize hM : Pl.mix l.seed _ = mx at *
    have hmx0 : 0 ≤ mx := by rw [← hM]; exact Pl.mix_nonneg _ _
    have hmx1 : mx ≤ 18446744073709551615 := by rw [← hM]; exact Pl.mix_le _ _
    have hr0 : 0 ≤ mx % (l.v1 + 1) := Int.emod_nonneg _ (by omega)
    have hr1 : mx % (l.v1 + 1) ≤ 10000000000 := by have := Int.emod_lt_of_pos mx (show 0 < l.v1 + 1 by omega); omega
    replace hM := hid hM
    replace CM := hid CM
    go_wp2_with fail
    go_quiet (exact Calls.quiet_of_same (CM.out _))
    go_wp2
    go_ret
    exact ⟨ret_int hg.symm, bdrewN L1.2 nq⟩
end Go.Proofs.YtjeojnlkjecojaaDoor
