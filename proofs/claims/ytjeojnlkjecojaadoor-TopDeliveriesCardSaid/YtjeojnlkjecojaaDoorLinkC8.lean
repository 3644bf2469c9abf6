/- The contracts of Asymmetry and Arrive of package link and of its reference. -/
import Derived.Test.YtjeojnlkjecojaaDoorLinkC7
namespace Go.Proofs.YtjeojnlkjecojaaDoor
open Go Go.RowKit
theorem wrap_i64_id {x : Int} (h : -9223372036854775808 ≤ x ∧ x ≤ 9223372036854775807) : IntKind.i64.wrap x = x := by
  rw [IntKind.wrap_i64]; omega
theorem now_range (dir at_ : Int) : ∀ (cs : List Pl.Chg) (base : Int), cs.all Pl.chgOk = true → 0 ≤ base ∧ base ≤ 10000000000 → 0 ≤ Pl.nowOf base dir at_ cs ∧ Pl.nowOf base dir at_ cs ≤ 10000000000
  | [], base, _, hb => hb
  | (x, d, y) :: cs, base, h, hb => by
    rw [List.all_cons, Bool.and_eq_true] at h
    refine now_range dir at_ cs (Pl.upd dir at_ base (x, d, y)) h.2 ?_
    have h1 := h.1
    unfold Pl.chgOk at h1
    simp only [Bool.and_eq_true, Pl.inR_true] at h1
    unfold Pl.upd
    split
    · exact h1.2
    · exact hb
theorem delay_range (l : Pl.Lk) (dir at_ : Int) : 0 ≤ Pl.delayOf l dir at_ ∧ Pl.delayOf l dir at_ ≤ 10000000000 := by
  unfold Pl.delayOf
  split
  · next h =>
    have hh := head_of h.1
    refine now_range dir at_ l.ch _ (Pl.ok_of h.1).2.1 ?_
    unfold Pl.dBase
    split
    · exact hh.1
    · exact hh.2.1
  · omega
theorem noise_range (l : Pl.Lk) (dir m : Int) : 0 ≤ Pl.noiseOf l dir m ∧ Pl.noiseOf l dir m ≤ 10000000000 := by
  unfold Pl.noiseOf
  split
  · next h =>
    have hh := head_of h.1
    have hv : 0 ≤ Pl.vBase l dir ∧ Pl.vBase l dir ≤ 10000000000 := by unfold Pl.vBase; split <;> omega
    have h0 := Int.emod_nonneg (Pl.mix l.seed (4 * m + 2 * dir + 1)) (show Pl.vBase l dir + 1 ≠ 0 by omega)
    have h1 := Int.emod_lt_of_pos (Pl.mix l.seed (4 * m + 2 * dir + 1)) (show 0 < Pl.vBase l dir + 1 by omega)
    omega
  · omega
theorem asymOf_bad {l : Pl.Lk} {at_ : Int} (h : ¬ Pl.errOf l = 0 ∨ Pl.okAt at_ = false) : Pl.asymOf l at_ = 0 := by
  unfold Pl.asymOf
  rw [delayOf_bad (h.imp id .inr), delayOf_bad (h.imp id .inr)]; rfl
theorem asymOf_good {l : Pl.Lk} {at_ : Int} (h0 : Pl.errOf l = 0) (h2 : Pl.okAt at_ = true) : Pl.asymOf l at_ = Pl.nowOf l.d0 0 at_ l.ch - Pl.nowOf l.d1 1 at_ l.ch := by
  unfold Pl.asymOf
  rw [delayOf_good h0 rfl h2, delayOf_good h0 rfl h2]; rfl
set_option maxHeartbeats 1000000 in
theorem asym_any (l : Pl.Lk) (A : Option Addr) (c : Nat) (at_ : Int) (w : World) (hA : IsCh w A l.ch) (hn : l.ch.length ≤ 100) :
    Calls Tryd.prog 17 #[.agg (lkCells l A l.ch.length c), .int .i64 at_] w fun e w' => e = .returned (.int .i64 (Pl.asymOf l at_)) ∧ Below w.heap.size w w' := by
  have L0 : LkS w w.heap.size l A l.ch.length c (w.alloc (.cells (lkCells l A l.ch.length c) 26)) := ⟨Bk.new _ _ _, (Below.refl w.heap.size w).alloc (Nat.le_refl _) _⟩
  have CK := fun w hA => check_any l A c w hA hn
  generalize hN : l.ch.length = n at *
  replace hN := hid hN
  replace CK := hid CK
  generalize hE : Pl.errOf l = ev at *
  replace hE := hid hE
  unfold lkCells at *
  obtain ⟨c0, c1, c2, c3, c4, c5, c6⟩ := LkS.cells L0
  go_enter Tryd.func17, Tryd.ntmps17
  go_wp2_with fail
  clear c0 c1 c2 c3 c4 c5 c6
  generalize w.alloc (.cells #[.int .i64 l.d0, .int .i64 l.d1, .int .i64 l.v0, .int .i64 l.v1, .int .i64 l.loss, .int .u64 l.seed, .slice A n c] 26) = w0 at *
  refine (CK.out _ (hA.next (LkS.bel L0))).mono ?_
  rintro e w1 ⟨rfl, hb⟩
  have L1 := LkS.next L0 hb
  clear hb L0 CK
  by_cases ho : ev = 0
  case neg =>
    go_wp2
    go_ret
    exact ⟨ret_int (asymOf_bad (.inl (by rw [hE.out]; exact ho))).symm, L1.2⟩
  subst ho
  go_wp2_with fail
  have hatC := isTime_any at_ w1
  cases hat : Pl.okAt at_
  case false =>
    rw [hat] at hatC
    refine hatC.mono ?_
    rintro e w2 ⟨rfl, rfl⟩
    clear hatC
    go_wp2
    go_ret
    exact ⟨ret_int (asymOf_bad (.inr hat)).symm, L1.2⟩
  rw [hat] at hatC
  refine hatC.mono ?_
  rintro e w2 ⟨rfl, rfl⟩
  clear hatC
  have CD := fun w hA => delays_any l A c at_ w hA hE.out
  unfold lkCells at CD
  rw [hN.out] at CD
  have hg := asymOf_good hE.out hat
  obtain ⟨ra0, ra1⟩ := now_range 0 at_ l.ch l.d0 (Pl.ok_of hE.out).2.1 (head_of hE.out).1
  obtain ⟨rb0, rb1⟩ := now_range 1 at_ l.ch l.d1 (Pl.ok_of hE.out).2.1 (head_of hE.out).2.1
  obtain ⟨c0, c1, c2, c3, c4, c5, c6⟩ := LkS.cells L1
  generalize Pl.nowOf l.d0 0 at_ l.ch = p0 at *
  generalize Pl.nowOf l.d1 1 at_ l.ch = p1 at *
  replace CD := hid CD
  go_wp2_with fail
  clear c0 c1 c2 c3 c4 c5 c6
  refine (CD.out _ (hA.next (LkS.bel L1))).mono ?_
  rintro e w2 ⟨rfl, hb⟩
  have hB := bstep L1.2 hb
  go_wp2
  go_ret
  exact ⟨ret_int hg.symm, hB.alloc hB.size _⟩
set_option maxHeartbeats 1000000 in
theorem refAsym_any (l : Pl.Lk) (A : Option Addr) (c : Nat) (at_ : Int) (w : World) (hA : IsCh w A l.ch) (hn : l.ch.length ≤ 100) :
    Calls Tryd.prog 18 #[.agg (lkCells l A l.ch.length c), .int .i64 at_] w fun e w' => e = .returned (.int .i64 (Pl.asymOf l at_)) ∧ Below w.heap.size w w' := by
  have L0 : LkS w w.heap.size l A l.ch.length c (w.alloc (.cells (lkCells l A l.ch.length c) 26)) := ⟨Bk.new _ _ _, (Below.refl w.heap.size w).alloc (Nat.le_refl _) _⟩
  have C0 := fun w hA => refDelay_any l A c 0 at_ w hA hn
  have C1 := fun w hA => refDelay_any l A c 1 at_ w hA hn
  have hg : Pl.asymOf l at_ = Pl.delayOf l 0 at_ - Pl.delayOf l 1 at_ := rfl
  obtain ⟨ra0, ra1⟩ := delay_range l 0 at_
  obtain ⟨rb0, rb1⟩ := delay_range l 1 at_
  generalize Pl.delayOf l 0 at_ = p0 at *
  generalize Pl.delayOf l 1 at_ = p1 at *
  generalize hN : l.ch.length = n at *
  replace hN := hid hN
  unfold lkCells at *
  replace C0 := hid C0
  replace C1 := hid C1
  go_enter Tryd.func18, Tryd.ntmps18
  go_wp2_with fail
  generalize w.alloc (.cells #[.int .i64 l.d0, .int .i64 l.d1, .int .i64 l.v0, .int .i64 l.v1, .int .i64 l.loss, .int .u64 l.seed, .slice A n c] 26) = w0 at *
  refine region_class (fun w' => LkS w w.heap.size l A n c w') (by kernel_rfl) (by kernel_rfl) (LkS.drew L0) ?_
  clear L0
  repeat
    first
    | (refine class_want (by rfl) ?_
       apply Exists.intro
       refine ⟨fun w1 h1 => ?_, ?_⟩
       focus
         obtain ⟨c0, c1, c2, c3, c4, c5, c6⟩ := LkS.cells h1
         unfold Oper.quietAt Oper.quietUpon
         go_simp
         first
         | exact rfl
         | (with_reducible refine (C0.out _ (hA.next (LkS.bel h1))).mono ?_
            rintro e w2 ⟨rfl, hb⟩
            exact ⟨rfl, LkS.next h1 hb⟩)
         | (with_reducible refine (C1.out _ (hA.next (LkS.bel h1))).mono ?_
            rintro e w2 ⟨rfl, hb⟩
            exact ⟨rfl, LkS.next h1 hb⟩)
       simp only [Act.put, List.setIfInBounds_toArray, List.set_cons_zero, List.set_cons_succ])
  refine wpQuiet_nil ?_
  intro w1 h1
  go_wp2
  go_ret
  exact ⟨ret_int (by rw [hg]; exact wrap_i64_id (by omega)), h1.2⟩
theorem arrives_bad {l : Pl.Lk} {dir at_ m : Int} (h : ¬ Pl.errOf l = 0 ∨ Pl.okDir dir = false ∨ Pl.okAt at_ = false ∨ Pl.okN m = false) : Pl.arrives l dir at_ m = false := by
  unfold Pl.arrives
  rcases h with h | h | h | h
  · rw [decide_eq_false h]; rfl
  · rw [h]; simp
  · rw [h]; simp
  · rw [h]; simp
theorem arrives_good {l : Pl.Lk} {dir at_ m : Int} (h0 : Pl.errOf l = 0) (h1 : Pl.okDir dir = true) (h2 : Pl.okAt at_ = true) (h3 : Pl.okN m = true) : Pl.arrives l dir at_ m = !Pl.lost l dir m := by
  unfold Pl.arrives; rw [h1, h2, h3, h0]; simp
theorem arriveOf_no {l : Pl.Lk} {dir at_ m : Int} (h : Pl.arrives l dir at_ m = false) : Pl.arriveOf l dir at_ m = 0 := by
  unfold Pl.arriveOf; rw [h]; rfl
theorem arriveOf_yes {l : Pl.Lk} {dir at_ m : Int} (h : Pl.arrives l dir at_ m = true) : Pl.arriveOf l dir at_ m = at_ + Pl.delayOf l dir at_ + Pl.noiseOf l dir m := by
  unfold Pl.arriveOf; rw [if_pos h]
/-- What Arrive returns. -/
def arr (l : Pl.Lk) (dir at_ m : Int) : Ending := .returned (.tuple #[.int .i64 (Pl.arriveOf l dir at_ m), .bool (Pl.arrives l dir at_ m)])
theorem arr_no {l : Pl.Lk} {dir at_ m : Int} (h : Pl.arrives l dir at_ m = false) : Ending.returned (.tuple #[.int .i64 0, .bool false]) = arr l dir at_ m := by
  unfold arr; rw [arriveOf_no h, h]
theorem arr_yes {l : Pl.Lk} {dir at_ m x : Int} (h : Pl.arrives l dir at_ m = true) (hx : x = at_ + Pl.delayOf l dir at_ + Pl.noiseOf l dir m) : Ending.returned (.tuple #[.int .i64 x, .bool true]) = arr l dir at_ m := by
  unfold arr; rw [arriveOf_yes h, h, hx]
set_option maxHeartbeats 1000000 in
theorem arrive_any (l : Pl.Lk) (A : Option Addr) (c : Nat) (dir at_ m : Int) (w : World) (hA : IsCh w A l.ch) (hn : l.ch.length ≤ 100) (hR : Rnd w) :
    Calls Tryd.prog 23 #[.agg (lkCells l A l.ch.length c), .int .i64 dir, .int .i64 at_, .int .i64 m] w fun e w' => e = arr l dir at_ m ∧ Below w.heap.size w w' := by
  have L0 : LkS w w.heap.size l A l.ch.length c (w.alloc (.cells (lkCells l A l.ch.length c) 26)) := ⟨Bk.new _ _ _, (Below.refl w.heap.size w).alloc (Nat.le_refl _) _⟩
  have CK := fun w hA => check_any l A c w hA hn
  have CDe0 := fun dir w hA => delay_any l A c dir at_ w hA hn
  have CN0 := fun dir w hA hR => noise_any l A c dir m w hA hn hR
  generalize hN : l.ch.length = n at *
  replace hN := hid hN
  replace CK := hid CK
  generalize hE : Pl.errOf l = ev at *
  replace hE := hid hE
  unfold lkCells at *
  obtain ⟨c0, c1, c2, c3, c4, c5, c6⟩ := LkS.cells L0
  go_enter Tryd.func23, Tryd.ntmps23
  go_wp2_with fail
  clear c0 c1 c2 c3 c4 c5 c6
  generalize w.alloc (.cells #[.int .i64 l.d0, .int .i64 l.d1, .int .i64 l.v0, .int .i64 l.v1, .int .i64 l.loss, .int .u64 l.seed, .slice A n c] 26) = w0 at *
  refine (CK.out _ (hA.next (LkS.bel L0))).mono ?_
  rintro e w1 ⟨rfl, hb⟩
  have L1 := LkS.next L0 hb
  clear hb L0 CK
  by_cases ho : ev = 0
  case neg =>
    go_wp2
    go_ret2
    exact ⟨arr_no (arrives_bad (.inl (by rw [hE.out]; exact ho))), L1.2⟩
  subst ho
  go_wp2_with fail
  have hdirC := isDir_any dir w1
  cases hdir : Pl.okDir dir
  case false =>
    rw [hdir] at hdirC
    refine hdirC.mono ?_
    rintro e w2 ⟨rfl, rfl⟩
    clear hdirC
    go_wp2
    go_ret2
    exact ⟨arr_no (arrives_bad (.inr (.inl hdir))), L1.2⟩
  rw [hdir] at hdirC
  refine hdirC.mono ?_
  rintro e w2 ⟨rfl, rfl⟩
  clear hdirC
  go_wp2_with fail
  have hatC := isTime_any at_ w1
  cases hat : Pl.okAt at_
  case false =>
    rw [hat] at hatC
    refine hatC.mono ?_
    rintro e w2 ⟨rfl, rfl⟩
    clear hatC
    go_wp2
    go_ret2
    exact ⟨arr_no (arrives_bad (.inr (.inr (.inl hat)))), L1.2⟩
  rw [hat] at hatC
  refine hatC.mono ?_
  rintro e w2 ⟨rfl, rfl⟩
  clear hatC
  go_wp2_with fail
  have hnmC := isNumber_any m w1
  cases hnm : Pl.okN m
  case false =>
    rw [hnm] at hnmC
    refine hnmC.mono ?_
    rintro e w2 ⟨rfl, rfl⟩
    clear hnmC
    go_wp2
    go_ret2
    exact ⟨arr_no (arrives_bad (.inr (.inr (.inr hnm)))), L1.2⟩
  rw [hnm] at hnmC
  refine hnmC.mono ?_
  rintro e w2 ⟨rfl, rfl⟩
  clear hnmC
  have hg := arrives_good hE.out hdir hat hnm
  have hbad := fun h => arr_no (l := l) (dir := dir) (at_ := at_) (m := m) h
  obtain ⟨hm0, hm1⟩ := okN_of hnm
  obtain ⟨ha0, ha1⟩ := Pl.inR_true.1 hat
  obtain ⟨_, _, _, _, l0, l1⟩ := head_of hE.out
  obtain ⟨c0, c1, c2, c3, c4, c5, c6⟩ := LkS.cells L1
  rcases okDir_of hdir with rfl | rfl
  · have CM := fun w hR => mix_any l.seed (4 * m + 2 * 0) w hR
    have CDe := CDe0 0
    have CN := CN0 0
    clear CDe0 CN0
    have hy : Pl.arrives l 0 at_ m = true → ∀ x, x = at_ + Pl.delayOf l 0 at_ + Pl.noiseOf l 0 m → Ending.returned (.tuple #[.int .i64 x, .bool true]) = arr l 0 at_ m := fun h x hx => arr_yes h hx
    have hlost : Pl.lost l 0 m = decide (Pl.mix l.seed (4 * m + 2 * 0) % 1000 < l.loss) := rfl
    obtain ⟨rd0, rd1⟩ := delay_range l 0 at_
    obtain ⟨rn0, rn1⟩ := noise_range l 0 m
    generalize Pl.delayOf l 0 at_ = pD at *
    generalize Pl.noiseOf l 0 m = pN at *
    simp only [Int.mul_zero, Int.add_zero] at CM hlost
    replace CM := hid CM
    replace CDe := hid CDe
    replace CN := hid CN
    replace hy := hid hy
    go_wp2_with fail
    refine (CM.out _ (hR.next (LkS.bel L1))).mono ?_
    rintro e w2 ⟨rfl, hb⟩
    have L2 := LkS.next L1 hb
    clear c0 c1 c2 c3 c4 c5 c6 L1 CM
    obtain ⟨c0, c1, c2, c3, c4, c5, c6⟩ := LkS.cells L2
    generalize hM : Pl.mix l.seed _ = mx at *
    have hmx0 : 0 ≤ mx := by rw [← hM]; exact Pl.mix_nonneg _ _
    have hmx1 : mx ≤ 18446744073709551615 := by rw [← hM]; exact Pl.mix_le _ _
    have hr0 : 0 ≤ mx % 1000 := Int.emod_nonneg _ (by omega)
    have hr1 : mx % 1000 ≤ 999 := by have := Int.emod_lt_of_pos mx (show (0 : Int) < 1000 by omega); omega
    replace hM := hid hM
    by_cases hl : mx % 1000 < l.loss
    · go_wp2
      go_ret2
      exact ⟨hbad (by rw [hg, hlost, decide_eq_true hl]; rfl), L2.2⟩
    · replace hbad := hid hbad
      go_wp2_with fail
      clear c0 c1 c2 c3 c4 c5 c6
      refine region_class (fun w' => LkS w w.heap.size l A n c w') (by kernel_rfl) (by kernel_rfl) (LkS.drew L2) ?_
      clear L2
      repeat
        first
        | (refine class_want (by rfl) ?_
           apply Exists.intro
           refine ⟨fun w1 h1 => ?_, ?_⟩
           focus
             obtain ⟨c0, c1, c2, c3, c4, c5, c6⟩ := LkS.cells h1
             unfold Oper.quietAt Oper.quietUpon
             go_simp
             first
             | exact rfl
             | (with_reducible refine (CDe.out _ (hA.next (LkS.bel h1))).mono ?_
                rintro e w2 ⟨rfl, hb⟩
                exact ⟨rfl, LkS.next h1 hb⟩)
             | (with_reducible refine (CN.out _ (hA.next (LkS.bel h1)) (hR.next (LkS.bel h1))).mono ?_
                rintro e w2 ⟨rfl, hb⟩
                exact ⟨rfl, LkS.next h1 hb⟩)
           simp only [Act.put, List.setIfInBounds_toArray, List.set_cons_zero, List.set_cons_succ])
      refine wpQuiet_nil ?_
      intro w3 h3
      go_wp2
      go_ret2
      refine ⟨hy.out (by rw [hg, hlost, decide_eq_false (show ¬ mx % 1000 < l.loss by omega)]; rfl) (IntKind.i64.wrap (IntKind.i64.wrap (at_ + pD) + pN)) ?_, h3.2⟩
      rw [wrap_i64_id (x := at_ + pD) (by omega), wrap_i64_id (by omega)]
  · have CM := fun w hR => mix_any l.seed (4 * m + 2 * 1) w hR
    have CDe := CDe0 1
    have CN := CN0 1
    clear CDe0 CN0
    have hy : Pl.arrives l 1 at_ m = true → ∀ x, x = at_ + Pl.delayOf l 1 at_ + Pl.noiseOf l 1 m → Ending.returned (.tuple #[.int .i64 x, .bool true]) = arr l 1 at_ m := fun h x hx => arr_yes h hx
    have hlost : Pl.lost l 1 m = decide (Pl.mix l.seed (4 * m + 2 * 1) % 1000 < l.loss) := rfl
    obtain ⟨rd0, rd1⟩ := delay_range l 1 at_
    obtain ⟨rn0, rn1⟩ := noise_range l 1 m
    generalize Pl.delayOf l 1 at_ = pD at *
    generalize Pl.noiseOf l 1 m = pN at *
    simp only [Int.mul_one] at CM hlost
    replace CM := hid CM
    replace CDe := hid CDe
    replace CN := hid CN
    replace hy := hid hy
    go_wp2_with fail
    refine (CM.out _ (hR.next (LkS.bel L1))).mono ?_
    rintro e w2 ⟨rfl, hb⟩
    have L2 := LkS.next L1 hb
    clear c0 c1 c2 c3 c4 c5 c6 L1 CM
    obtain ⟨c0, c1, c2, c3, c4, c5, c6⟩ := LkS.cells L2
    generalize hM : Pl.mix l.seed _ = mx at *
    have hmx0 : 0 ≤ mx := by rw [← hM]; exact Pl.mix_nonneg _ _
    have hmx1 : mx ≤ 18446744073709551615 := by rw [← hM]; exact Pl.mix_le _ _
    have hr0 : 0 ≤ mx % 1000 := Int.emod_nonneg _ (by omega)
    have hr1 : mx % 1000 ≤ 999 := by have := Int.emod_lt_of_pos mx (show (0 : Int) < 1000 by omega); omega
    replace hM := hid hM
    by_cases hl : mx % 1000 < l.loss
    · go_wp2
      go_ret2
      exact ⟨hbad (by rw [hg, hlost, decide_eq_true hl]; rfl), L2.2⟩
    · replace hbad := hid hbad
      go_wp2_with fail
      clear c0 c1 c2 c3 c4 c5 c6
      refine region_class (fun w' => LkS w w.heap.size l A n c w') (by kernel_rfl) (by kernel_rfl) (LkS.drew L2) ?_
      clear L2
      repeat
        first
        | (refine class_want (by rfl) ?_
           apply Exists.intro
           refine ⟨fun w1 h1 => ?_, ?_⟩
           focus
             obtain ⟨c0, c1, c2, c3, c4, c5, c6⟩ := LkS.cells h1
             unfold Oper.quietAt Oper.quietUpon
             go_simp
             first
             | exact rfl
             | (with_reducible refine (CDe.out _ (hA.next (LkS.bel h1))).mono ?_
                rintro e w2 ⟨rfl, hb⟩
                exact ⟨rfl, LkS.next h1 hb⟩)
             | (with_reducible refine (CN.out _ (hA.next (LkS.bel h1)) (hR.next (LkS.bel h1))).mono ?_
                rintro e w2 ⟨rfl, hb⟩
                exact ⟨rfl, LkS.next h1 hb⟩)
           simp only [Act.put, List.setIfInBounds_toArray, List.set_cons_zero, List.set_cons_succ])
      refine wpQuiet_nil ?_
      intro w3 h3
      go_wp2
      go_ret2
      refine ⟨hy.out (by rw [hg, hlost, decide_eq_false (show ¬ mx % 1000 < l.loss by omega)]; rfl) (IntKind.i64.wrap (IntKind.i64.wrap (at_ + pD) + pN)) ?_, h3.2⟩
      rw [wrap_i64_id (x := at_ + pD) (by omega), wrap_i64_id (by omega)]
end Go.Proofs.YtjeojnlkjecojaaDoor
