/- The walk of LinkSources. -/
import Derived.Test.YtjeojnlkjecojaaDoorLinkW
namespace Go.Proofs.YtjeojnlkjecojaaDoor
open Go Go.RowKit
set_option maxHeartbeats 2000000 in
theorem linkSources_walk (l : Pl.Lk) (A : Option Addr) (c : Nat) (x y z : Int) (w : World) (hR : Rnd w) (hA : IsCh w A l.ch) :
    Calls Tryd.prog 9 #[.agg (lkCells l A l.ch.length c), .agg #[.int .i64 x, .int .i64 y, .int .i64 z]] w fun e w' => e = .returned (.bool true) ∧ Below w.heap.size w w' := by
  have LA : LkS w w.heap.size l A l.ch.length c (w.alloc (.cells (lkCells l A l.ch.length c) 26)) := ⟨Bk.new _ _ _, (Below.refl w.heap.size w).alloc (Nat.le_refl _) _⟩
  have L0 := LA.next ((Below.refl _ _).alloc (Nat.le_refl _) (.cells #[.int .i64 x, .int .i64 y, .int .i64 z] 41))
  have S0 := Bk.new (w.alloc (.cells (lkCells l A l.ch.length c) 26)) 41 #[.int .i64 x, .int .i64 y, .int .i64 z]
  have hg1 : (w.alloc (.cells (lkCells l A l.ch.length c) 26)).heap.size = w.heap.size + 1 := by simp
  rw [hg1] at S0
  clear LA hg1
  have SM := fun w => small_any l A l.ch.length c w
  generalize hS : decide ((l.ch.length : Int) ≤ 100) = sm at *
  have AW := fun w hR => awake_any w hR
  have CK := fun hn w hA => check_any l A c w hA hn
  have CA := fun hn w hA hR => arrive_any l A c x y z w hA hn hR
  have CN := fun hn w hA hR => noise_any l A c x z w hA hn hR
  have CD := fun hn w hA => delay_any l A c x y w hA hn
  unfold arr at *
  generalize hN : l.ch.length = n at *
  replace hN := hid hN
  replace SM := hid SM
  replace AW := hid AW
  replace CK := hid CK
  replace CA := hid CA
  replace CN := hid CN
  replace CD := hid CD
  unfold lkCells at *
  obtain ⟨c0, c1, c2, c3, c4, c5, c6⟩ := LkS.cells L0
  go_enter Tryd.func9, Tryd.ntmps9
  go_wp2_with fail
  clear c0 c1 c2 c3 c4 c5 c6
  generalize (w.alloc (.cells #[.int .i64 l.d0, .int .i64 l.d1, .int .i64 l.v0, .int .i64 l.v1, .int .i64 l.loss, .int .u64 l.seed, .slice A n c] 26)).alloc (.cells #[.int .i64 x, .int .i64 y, .int .i64 z] 41) = w0 at *
  refine (SM.out _).mono ?_
  rintro e w1 ⟨rfl, hb⟩
  have L1 := LkS.next L0 hb
  have S1 := S0.next hb
  clear hb L0 S0 SM
  cases sm
  case false =>
    go_wp2_with fail
    refine (AW.out _ (hR.next (LkS.bel L1))).mono ?_
    rintro e w9 ⟨rfl, hb⟩
    go_wp2
    go_ret
    exact ⟨rfl, bstep (LkS.bel L1) hb⟩
  have hn : n ≤ 100 := by have := of_decide_eq_true hS; omega
  clear hS
  obtain ⟨c0, c1, c2, c3, c4, c5, c6⟩ := LkS.cells L1
  have s0 := S1.cell 0
  have s1 := S1.cell 1
  have s2 := S1.cell 2
  simp only [List.getElem?_toArray, List.getElem?_cons_zero, List.getElem?_cons_succ] at s0 s1 s2
  go_wp2_with fail
  clear c0 c1 c2 c3 c4 c5 c6 s0 s1 s2
  cases hr : (Pl.okDir x && Pl.okAt y && Pl.okN z)
  case false =>
    refine (right_no hr _).mono ?_
    rintro e w2 ⟨rfl, rfl⟩
    go_wp2_with fail
    refine (AW.out _ (hR.next (LkS.bel L1))).mono ?_
    rintro e w9 ⟨rfl, hb⟩
    go_wp2
    go_ret
    exact ⟨rfl, bstep (LkS.bel L1) hb⟩
  rw [Bool.and_eq_true, Bool.and_eq_true] at hr
  obtain ⟨⟨hx, hy⟩, hz⟩ := hr
  refine (right_yes hx hy hz _).mono ?_
  rintro e w2 ⟨rfl, rfl⟩
  obtain ⟨c0, c1, c2, c3, c4, c5, c6⟩ := LkS.cells L1
  have s0 := S1.cell 0
  have s1 := S1.cell 1
  have s2 := S1.cell 2
  simp only [List.getElem?_toArray, List.getElem?_cons_zero, List.getElem?_cons_succ] at s0 s1 s2
  go_wp2_with fail
  clear c0 c1 c2 c3 c4 c5 c6 s0 s1 s2
  refine (CK.out hn _ (hA.next (LkS.bel L1))).mono ?_
  rintro e w2 ⟨rfl, hb⟩
  have L2 := LkS.next L1 hb
  have S2 := S1.next hb
  clear L1 S1 CK hb
  by_cases he : Pl.errOf l = 0
  case neg =>
    go_wp2_with fail
    refine (AW.out _ (hR.next (LkS.bel L2))).mono ?_
    rintro e w9 ⟨rfl, hb⟩
    go_wp2
    go_ret
    exact ⟨rfl, bstep (LkS.bel L2) hb⟩
  rw [he]
  obtain ⟨c0, c1, c2, c3, c4, c5, c6⟩ := LkS.cells L2
  have s0 := S2.cell 0
  have s1 := S2.cell 1
  have s2 := S2.cell 2
  simp only [List.getElem?_toArray, List.getElem?_cons_zero, List.getElem?_cons_succ] at s0 s1 s2
  obtain ⟨y0, y1⟩ := Pl.inR_true.1 hy
  obtain ⟨z0, z1⟩ := Pl.inR_true.1 hz
  rcases okDir_of hx with rfl | rfl
  · have CM := fun w hR => mix_any l.seed (4 * z + 1) w hR
    have CL := fun w hR => mix_any l.seed (4 * z) w hR
    generalize hm1 : Pl.mix l.seed (4 * z + 1) = m1 at *
    generalize hm2 : Pl.mix l.seed (4 * z) = m2 at *
    have hv := (base_range he 0).2
    rw [show Pl.vBase l 0 = l.v0 from rfl] at hv
    obtain ⟨v0, v1⟩ := hv
    have q1 : IntKind.u64.wrap (4 * z + 1) = 4 * z + 1 := by rw [IntKind.wrap_u64]; omega
    have q2 : IntKind.i64.wrap (l.v0 + 1) = l.v0 + 1 := by rw [IntKind.wrap_i64]; omega
    have q3 : IntKind.u64.wrap (l.v0 + 1) = l.v0 + 1 := by rw [IntKind.wrap_u64]; omega
    have q4 : ¬ l.v0 + 1 = 0 := by omega
    have hm10 : 0 ≤ m1 := by rw [← hm1]; exact Pl.mix_nonneg _ _
    have hm20 : 0 ≤ m2 := by rw [← hm2]; exact Pl.mix_nonneg _ _
    have hN1 : Pl.noiseOf l 0 z = m1 % (l.v0 + 1) := by
      rw [noiseOf_good he hx hz, show Pl.vBase l 0 = l.v0 from rfl, ← hm1]
      simp only [Int.mul_zero, Int.add_zero]
    have q5 : IntKind.i64.wrap (m1.tmod (l.v0 + 1)) = Pl.noiseOf l 0 z := by
      rw [Int.tmod_eq_emod_of_nonneg hm10, hN1]
      have h0 := Int.emod_nonneg m1 (show l.v0 + 1 ≠ 0 by omega)
      have h1 := Int.emod_lt_of_pos m1 (show 0 < l.v0 + 1 by omega)
      exact wrap_i64_id (by omega)
    have hlost : Pl.arrives l 0 y z = !decide (m2 % 1000 < l.loss) := by
      rw [arrives_good he hx hy hz]
      unfold Pl.lost
      rw [← hm2]
      simp only [Int.mul_zero, Int.add_zero]
    have ht : m2.tmod 1000 = m2 % 1000 := Int.tmod_eq_emod_of_nonneg hm20
    obtain ⟨ls0, ls1⟩ := (head_of he).2.2.2.2
    have q6 : IntKind.u64.wrap l.loss = l.loss := by rw [IntKind.wrap_u64]; omega
    have hay := arriveOf_yes (l := l) (dir := 0) (at_ := y) (m := z)
    obtain ⟨rd0, rd1⟩ := delay_range l 0 y
    obtain ⟨rn0, rn1⟩ := noise_range l 0 z
    generalize Pl.delayOf l 0 y = pD at *
    generalize Pl.noiseOf l 0 z = pN at *
    generalize Pl.arriveOf l 0 y z = pa at *
    generalize Pl.arrives l 0 y z = pb at *
    have q8 : IntKind.i64.wrap (y + pD) = y + pD := wrap_i64_id (by omega)
    have q9 : pb = true → IntKind.i64.wrap (y + pD + pN) = pa := fun h => by rw [hay h]; exact wrap_i64_id (by omega)
    clear hay hN1
    replace hm1 := hid hm1
    replace hm2 := hid hm2
    replace CM := hid CM
    replace CL := hid CL
    replace hlost := hid hlost
    replace q9 := hid q9
    replace ht := hid ht
    go_wp2_with fail
    clear c0 c1 c2 c3 c4 c5 c6 s0 s1 s2
    refine region_class (fun w' => LkS w w.heap.size l A n c w' ∧ Bk w' (w.heap.size + 1) 41 #[.int .i64 0, .int .i64 y, .int .i64 z]) (by kernel_rfl) (by kernel_rfl) ⟨LkS.drew L2, Bk.drew S2⟩ ?_
    clear L2 S2
    repeat
      first
      | (refine BigFrame.wpQuiet_skip (by rfl) ?_
         simp only [Act.put, List.setIfInBounds_toArray, List.set_cons_zero, List.set_cons_succ])
      | (refine class_want (by rfl) ?_
         apply Exists.intro
         refine ⟨fun w1 h1 => ?_, ?_⟩
         focus
           obtain ⟨c0, c1, c2, c3, c4, c5, c6⟩ := LkS.cells h1.1
           have s0 := h1.2.cell 0
           have s1 := h1.2.cell 1
           have s2 := h1.2.cell 2
           simp only [List.getElem?_toArray, List.getElem?_cons_zero, List.getElem?_cons_succ] at s0 s1 s2
           unfold Oper.quietAt Oper.quietUpon
           go_simp
           first
           | exact rfl
           | (with_reducible refine (CM.out _ (hR.next (LkS.bel h1.1))).mono ?_
              rintro e w2 ⟨rfl, hb2⟩
              exact ⟨rfl, LkS.next h1.1 hb2, h1.2.next hb2⟩)
         simp only [Act.put, List.setIfInBounds_toArray, List.set_cons_zero, List.set_cons_succ])
    refine wpQuiet_nil ?_
    intro w3 ⟨L3, S3⟩
    obtain ⟨c0, c1, c2, c3, c4, c5, c6⟩ := LkS.cells L3
    have s0 := S3.cell 0
    have s1 := S3.cell 1
    have s2 := S3.cell 2
    simp only [List.getElem?_toArray, List.getElem?_cons_zero, List.getElem?_cons_succ] at s0 s1 s2
    go_wp2_with fail
    clear c0 c1 c2 c3 c4 c5 c6 s0 s1 s2
    refine (CA.out hn _ (hA.next (LkS.bel L3)) (hR.next (LkS.bel L3))).mono ?_
    rintro e w4 ⟨rfl, hb⟩
    have L4 := LkS.next L3 hb
    have S4 := S3.next hb
    clear L3 S3 CA hb q1 q2 q3 q4 q5
    replace hn := hid hn
    go_wp2_with fail
    by_cases hl : m2 % 1000 < l.loss
    · have hpb : pb = false := by rw [hlost.out, decide_eq_true hl]; rfl
      have q7 : (l.loss ≤ m2.tmod 1000) = False := eq_false (by rw [ht.out]; omega)
      clear hl hlost ht q9
      subst hpb
      refine region_class (fun w' => LkS w w.heap.size l A n c w' ∧ Bk w' (w.heap.size + 1) 41 #[.int .i64 0, .int .i64 y, .int .i64 z]) (by kernel_rfl) (by kernel_rfl) ⟨LkS.drew L4, Bk.drew S4⟩ ?_
      clear L4 S4
      repeat
        first
        | (refine BigFrame.wpQuiet_skip (by rfl) ?_
           simp only [Act.put, List.setIfInBounds_toArray, List.set_cons_zero, List.set_cons_succ])
        | (refine class_want (by rfl) ?_
           apply Exists.intro
           refine ⟨fun w1 h1 => ?_, ?_⟩
           focus
             obtain ⟨c0, c1, c2, c3, c4, c5, c6⟩ := LkS.cells h1.1
             have s0 := h1.2.cell 0
             have s1 := h1.2.cell 1
             have s2 := h1.2.cell 2
             simp only [List.getElem?_toArray, List.getElem?_cons_zero, List.getElem?_cons_succ] at s0 s1 s2
             unfold Oper.quietAt Oper.quietUpon
             go_simp
             first
             | exact rfl
             | (with_reducible refine (CN.out hn.out _ (hA.next (LkS.bel h1.1)) (hR.next (LkS.bel h1.1))).mono ?_
                rintro e w2 ⟨rfl, hb2⟩
                exact ⟨rfl, LkS.next h1.1 hb2, h1.2.next hb2⟩)
             | (with_reducible refine (CL.out _ (hR.next (LkS.bel h1.1))).mono ?_
                rintro e w2 ⟨rfl, hb2⟩
                exact ⟨rfl, LkS.next h1.1 hb2, h1.2.next hb2⟩)
           simp only [Act.put, List.setIfInBounds_toArray, List.set_cons_zero, List.set_cons_succ])
      refine wpQuiet_nil ?_
      intro w5 ⟨L5, S5⟩
      go_wp2_with fail
      refine region_class (fun w' => LkS w w.heap.size l A n c w' ∧ Bk w' (w.heap.size + 1) 41 #[.int .i64 0, .int .i64 y, .int .i64 z]) (by kernel_rfl) (by kernel_rfl) ⟨LkS.drew L5, Bk.drew S5⟩ ?_
      clear L5 S5
      obtain ⟨bt, hbt⟩ : ∃ bt, bt = Value.bool true := ⟨_, rfl⟩
      replace hbt := hid hbt
      refine class_want (by rfl) ⟨.bool false, fun w1 h1 => ?_, ?_⟩
      · unfold Oper.quietAt Oper.quietUpon
        go_simp
      simp only [Act.put, List.setIfInBounds_toArray, List.set_cons_zero, List.set_cons_succ]
      refine class_want (by rfl) ⟨.bool true, fun w1 h1 => ?_, ?_⟩
      · unfold Oper.quietAt Oper.quietUpon
        go_simp
      simp only [Act.put, List.setIfInBounds_toArray, List.set_cons_zero, List.set_cons_succ]
      refine class_want (by rfl) ⟨bt, fun w1 h1 => ?_, ?_⟩
      · unfold Oper.quietAt Oper.quietUpon
        go_simp
        exact hbt.out.symm
      simp only [Act.put, List.setIfInBounds_toArray, List.set_cons_zero, List.set_cons_succ]
      iterate 13
        refine BigFrame.wpQuiet_skip (by have h := hbt.out; subst h; rfl) ?_
        simp only [Act.put, List.setIfInBounds_toArray, List.set_cons_zero, List.set_cons_succ]
      refine class_want (by rfl) ⟨.bool true, fun w1 h1 => ?_, ?_⟩
      · have h := hbt.out
        subst h
        unfold Oper.quietAt Oper.quietUpon
        go_simp
      simp only [Act.put, List.setIfInBounds_toArray, List.set_cons_zero, List.set_cons_succ]
      repeat
        first
        | (refine BigFrame.wpQuiet_skip (by rfl) ?_
           simp only [Act.put, List.setIfInBounds_toArray, List.set_cons_zero, List.set_cons_succ])
        | (refine class_want (by rfl) ?_
           apply Exists.intro
           refine ⟨fun w1 h1 => ?_, ?_⟩
           focus
             obtain ⟨c0, c1, c2, c3, c4, c5, c6⟩ := LkS.cells h1.1
             have s0 := h1.2.cell 0
             have s1 := h1.2.cell 1
             have s2 := h1.2.cell 2
             simp only [List.getElem?_toArray, List.getElem?_cons_zero, List.getElem?_cons_succ] at s0 s1 s2
             unfold Oper.quietAt Oper.quietUpon
             go_simp
             first
             | exact rfl
             | (with_reducible refine (AW.out _ (hR.next (LkS.bel h1.1))).mono ?_
                rintro e w2 ⟨rfl, hb2⟩
                exact ⟨rfl, LkS.next h1.1 hb2, h1.2.next hb2⟩)
           simp only [Act.put, List.setIfInBounds_toArray, List.set_cons_zero, List.set_cons_succ])
      refine wpQuiet_nil ?_
      intro w6 h6
      go_wp2
      go_ret
      exact ⟨rfl, h6.1.2⟩
    · have hpb : pb = true := by rw [hlost.out, decide_eq_false hl]; rfl
      have q7 : (l.loss ≤ m2.tmod 1000) = True := eq_true (by rw [ht.out]; omega)
      have q10 := q9.out hpb
      clear hl hlost ht q9
      subst hpb
      refine region_class (fun w' => LkS w w.heap.size l A n c w' ∧ Bk w' (w.heap.size + 1) 41 #[.int .i64 0, .int .i64 y, .int .i64 z]) (by kernel_rfl) (by kernel_rfl) ⟨LkS.drew L4, Bk.drew S4⟩ ?_
      clear L4 S4
      repeat
        first
        | (refine BigFrame.wpQuiet_skip (by rfl) ?_
           simp only [Act.put, List.setIfInBounds_toArray, List.set_cons_zero, List.set_cons_succ])
        | (refine class_want (by rfl) ?_
           apply Exists.intro
           refine ⟨fun w1 h1 => ?_, ?_⟩
           focus
             obtain ⟨c0, c1, c2, c3, c4, c5, c6⟩ := LkS.cells h1.1
             have s0 := h1.2.cell 0
             have s1 := h1.2.cell 1
             have s2 := h1.2.cell 2
             simp only [List.getElem?_toArray, List.getElem?_cons_zero, List.getElem?_cons_succ] at s0 s1 s2
             unfold Oper.quietAt Oper.quietUpon
             go_simp
             first
             | exact rfl
             | (with_reducible refine (CN.out hn.out _ (hA.next (LkS.bel h1.1)) (hR.next (LkS.bel h1.1))).mono ?_
                rintro e w2 ⟨rfl, hb2⟩
                exact ⟨rfl, LkS.next h1.1 hb2, h1.2.next hb2⟩)
             | (with_reducible refine (CL.out _ (hR.next (LkS.bel h1.1))).mono ?_
                rintro e w2 ⟨rfl, hb2⟩
                exact ⟨rfl, LkS.next h1.1 hb2, h1.2.next hb2⟩)
           simp only [Act.put, List.setIfInBounds_toArray, List.set_cons_zero, List.set_cons_succ])
      refine wpQuiet_nil ?_
      intro w5 ⟨L5, S5⟩
      go_wp2_with fail
      refine region_class (fun w' => LkS w w.heap.size l A n c w' ∧ Bk w' (w.heap.size + 1) 41 #[.int .i64 0, .int .i64 y, .int .i64 z]) (by kernel_rfl) (by kernel_rfl) ⟨LkS.drew L5, Bk.drew S5⟩ ?_
      clear L5 S5
      repeat
        first
        | (refine BigFrame.wpQuiet_skip (by rfl) ?_
           simp only [Act.put, List.setIfInBounds_toArray, List.set_cons_zero, List.set_cons_succ])
        | (refine class_want (by rfl) ?_
           apply Exists.intro
           refine ⟨fun w1 h1 => ?_, ?_⟩
           focus
             obtain ⟨c0, c1, c2, c3, c4, c5, c6⟩ := LkS.cells h1.1
             have s0 := h1.2.cell 0
             have s1 := h1.2.cell 1
             have s2 := h1.2.cell 2
             simp only [List.getElem?_toArray, List.getElem?_cons_zero, List.getElem?_cons_succ] at s0 s1 s2
             unfold Oper.quietAt Oper.quietUpon
             go_simp
             first
             | exact rfl
             | (with_reducible refine (CD.out hn.out _ (hA.next (LkS.bel h1.1))).mono ?_
                rintro e w2 ⟨rfl, hb2⟩
                exact ⟨rfl, LkS.next h1.1 hb2, h1.2.next hb2⟩)
             | (with_reducible refine (AW.out _ (hR.next (LkS.bel h1.1))).mono ?_
                rintro e w2 ⟨rfl, hb2⟩
                exact ⟨rfl, LkS.next h1.1 hb2, h1.2.next hb2⟩)
           simp only [Act.put, List.setIfInBounds_toArray, List.set_cons_zero, List.set_cons_succ])
      refine wpQuiet_nil ?_
      intro w6 h6
      go_wp2
      go_ret
      exact ⟨rfl, h6.1.2⟩
  · have CM := fun w hR => mix_any l.seed (4 * z + 2 + 1) w hR
    have CL := fun w hR => mix_any l.seed (4 * z + 2) w hR
    generalize hm1 : Pl.mix l.seed (4 * z + 2 + 1) = m1 at *
    generalize hm2 : Pl.mix l.seed (4 * z + 2) = m2 at *
    have hv := (base_range he 1).2
    rw [show Pl.vBase l 1 = l.v1 from rfl] at hv
    obtain ⟨v0, v1⟩ := hv
    have q1 : IntKind.u64.wrap (4 * z + 2 + 1) = 4 * z + 2 + 1 := by rw [IntKind.wrap_u64]; omega
    have q2 : IntKind.i64.wrap (l.v1 + 1) = l.v1 + 1 := by rw [IntKind.wrap_i64]; omega
    have q3 : IntKind.u64.wrap (l.v1 + 1) = l.v1 + 1 := by rw [IntKind.wrap_u64]; omega
    have q4 : ¬ l.v1 + 1 = 0 := by omega
    have hm10 : 0 ≤ m1 := by rw [← hm1]; exact Pl.mix_nonneg _ _
    have hm20 : 0 ≤ m2 := by rw [← hm2]; exact Pl.mix_nonneg _ _
    have hN1 : Pl.noiseOf l 1 z = m1 % (l.v1 + 1) := by
      rw [noiseOf_good he hx hz, show Pl.vBase l 1 = l.v1 from rfl, ← hm1]
      simp only [Int.mul_one]
    have q5 : IntKind.i64.wrap (m1.tmod (l.v1 + 1)) = Pl.noiseOf l 1 z := by
      rw [Int.tmod_eq_emod_of_nonneg hm10, hN1]
      have h0 := Int.emod_nonneg m1 (show l.v1 + 1 ≠ 0 by omega)
      have h1 := Int.emod_lt_of_pos m1 (show 0 < l.v1 + 1 by omega)
      exact wrap_i64_id (by omega)
    have hlost : Pl.arrives l 1 y z = !decide (m2 % 1000 < l.loss) := by
      rw [arrives_good he hx hy hz]
      unfold Pl.lost
      rw [← hm2]
      simp only [Int.mul_one]
    have ht : m2.tmod 1000 = m2 % 1000 := Int.tmod_eq_emod_of_nonneg hm20
    obtain ⟨ls0, ls1⟩ := (head_of he).2.2.2.2
    have q6 : IntKind.u64.wrap l.loss = l.loss := by rw [IntKind.wrap_u64]; omega
    have hay := arriveOf_yes (l := l) (dir := 1) (at_ := y) (m := z)
    obtain ⟨rd0, rd1⟩ := delay_range l 1 y
    obtain ⟨rn0, rn1⟩ := noise_range l 1 z
    generalize Pl.delayOf l 1 y = pD at *
    generalize Pl.noiseOf l 1 z = pN at *
    generalize Pl.arriveOf l 1 y z = pa at *
    generalize Pl.arrives l 1 y z = pb at *
    have q8 : IntKind.i64.wrap (y + pD) = y + pD := wrap_i64_id (by omega)
    have q9 : pb = true → IntKind.i64.wrap (y + pD + pN) = pa := fun h => by rw [hay h]; exact wrap_i64_id (by omega)
    clear hay hN1
    replace hm1 := hid hm1
    replace hm2 := hid hm2
    replace CM := hid CM
    replace CL := hid CL
    replace hlost := hid hlost
    replace q9 := hid q9
    replace ht := hid ht
    go_wp2_with fail
    clear c0 c1 c2 c3 c4 c5 c6 s0 s1 s2
    refine region_class (fun w' => LkS w w.heap.size l A n c w' ∧ Bk w' (w.heap.size + 1) 41 #[.int .i64 1, .int .i64 y, .int .i64 z]) (by kernel_rfl) (by kernel_rfl) ⟨LkS.drew L2, Bk.drew S2⟩ ?_
    clear L2 S2
    repeat
      first
      | (refine BigFrame.wpQuiet_skip (by rfl) ?_
         simp only [Act.put, List.setIfInBounds_toArray, List.set_cons_zero, List.set_cons_succ])
      | (refine class_want (by rfl) ?_
         apply Exists.intro
         refine ⟨fun w1 h1 => ?_, ?_⟩
         focus
           obtain ⟨c0, c1, c2, c3, c4, c5, c6⟩ := LkS.cells h1.1
           have s0 := h1.2.cell 0
           have s1 := h1.2.cell 1
           have s2 := h1.2.cell 2
           simp only [List.getElem?_toArray, List.getElem?_cons_zero, List.getElem?_cons_succ] at s0 s1 s2
           unfold Oper.quietAt Oper.quietUpon
           go_simp
           first
           | exact rfl
           | (with_reducible refine (CM.out _ (hR.next (LkS.bel h1.1))).mono ?_
              rintro e w2 ⟨rfl, hb2⟩
              exact ⟨rfl, LkS.next h1.1 hb2, h1.2.next hb2⟩)
         simp only [Act.put, List.setIfInBounds_toArray, List.set_cons_zero, List.set_cons_succ])
    refine wpQuiet_nil ?_
    intro w3 ⟨L3, S3⟩
    obtain ⟨c0, c1, c2, c3, c4, c5, c6⟩ := LkS.cells L3
    have s0 := S3.cell 0
    have s1 := S3.cell 1
    have s2 := S3.cell 2
    simp only [List.getElem?_toArray, List.getElem?_cons_zero, List.getElem?_cons_succ] at s0 s1 s2
    go_wp2_with fail
    clear c0 c1 c2 c3 c4 c5 c6 s0 s1 s2
    refine (CA.out hn _ (hA.next (LkS.bel L3)) (hR.next (LkS.bel L3))).mono ?_
    rintro e w4 ⟨rfl, hb⟩
    have L4 := LkS.next L3 hb
    have S4 := S3.next hb
    clear L3 S3 CA hb q1 q2 q3 q4 q5
    replace hn := hid hn
    go_wp2_with fail
    by_cases hl : m2 % 1000 < l.loss
    · have hpb : pb = false := by rw [hlost.out, decide_eq_true hl]; rfl
      have q7 : (l.loss ≤ m2.tmod 1000) = False := eq_false (by rw [ht.out]; omega)
      clear hl hlost ht q9
      subst hpb
      refine region_class (fun w' => LkS w w.heap.size l A n c w' ∧ Bk w' (w.heap.size + 1) 41 #[.int .i64 1, .int .i64 y, .int .i64 z]) (by kernel_rfl) (by kernel_rfl) ⟨LkS.drew L4, Bk.drew S4⟩ ?_
      clear L4 S4
      repeat
        first
        | (refine BigFrame.wpQuiet_skip (by rfl) ?_
           simp only [Act.put, List.setIfInBounds_toArray, List.set_cons_zero, List.set_cons_succ])
        | (refine class_want (by rfl) ?_
           apply Exists.intro
           refine ⟨fun w1 h1 => ?_, ?_⟩
           focus
             obtain ⟨c0, c1, c2, c3, c4, c5, c6⟩ := LkS.cells h1.1
             have s0 := h1.2.cell 0
             have s1 := h1.2.cell 1
             have s2 := h1.2.cell 2
             simp only [List.getElem?_toArray, List.getElem?_cons_zero, List.getElem?_cons_succ] at s0 s1 s2
             unfold Oper.quietAt Oper.quietUpon
             go_simp
             first
             | exact rfl
             | (with_reducible refine (CN.out hn.out _ (hA.next (LkS.bel h1.1)) (hR.next (LkS.bel h1.1))).mono ?_
                rintro e w2 ⟨rfl, hb2⟩
                exact ⟨rfl, LkS.next h1.1 hb2, h1.2.next hb2⟩)
             | (with_reducible refine (CL.out _ (hR.next (LkS.bel h1.1))).mono ?_
                rintro e w2 ⟨rfl, hb2⟩
                exact ⟨rfl, LkS.next h1.1 hb2, h1.2.next hb2⟩)
           simp only [Act.put, List.setIfInBounds_toArray, List.set_cons_zero, List.set_cons_succ])
      refine wpQuiet_nil ?_
      intro w5 ⟨L5, S5⟩
      go_wp2_with fail
      refine region_class (fun w' => LkS w w.heap.size l A n c w' ∧ Bk w' (w.heap.size + 1) 41 #[.int .i64 1, .int .i64 y, .int .i64 z]) (by kernel_rfl) (by kernel_rfl) ⟨LkS.drew L5, Bk.drew S5⟩ ?_
      clear L5 S5
      obtain ⟨bt, hbt⟩ : ∃ bt, bt = Value.bool true := ⟨_, rfl⟩
      replace hbt := hid hbt
      refine class_want (by rfl) ⟨.bool false, fun w1 h1 => ?_, ?_⟩
      · unfold Oper.quietAt Oper.quietUpon
        go_simp
      simp only [Act.put, List.setIfInBounds_toArray, List.set_cons_zero, List.set_cons_succ]
      refine class_want (by rfl) ⟨.bool true, fun w1 h1 => ?_, ?_⟩
      · unfold Oper.quietAt Oper.quietUpon
        go_simp
      simp only [Act.put, List.setIfInBounds_toArray, List.set_cons_zero, List.set_cons_succ]
      refine class_want (by rfl) ⟨bt, fun w1 h1 => ?_, ?_⟩
      · unfold Oper.quietAt Oper.quietUpon
        go_simp
        exact hbt.out.symm
      simp only [Act.put, List.setIfInBounds_toArray, List.set_cons_zero, List.set_cons_succ]
      iterate 13
        refine BigFrame.wpQuiet_skip (by have h := hbt.out; subst h; rfl) ?_
        simp only [Act.put, List.setIfInBounds_toArray, List.set_cons_zero, List.set_cons_succ]
      refine class_want (by rfl) ⟨.bool true, fun w1 h1 => ?_, ?_⟩
      · have h := hbt.out
        subst h
        unfold Oper.quietAt Oper.quietUpon
        go_simp
      simp only [Act.put, List.setIfInBounds_toArray, List.set_cons_zero, List.set_cons_succ]
      repeat
        first
        | (refine BigFrame.wpQuiet_skip (by rfl) ?_
           simp only [Act.put, List.setIfInBounds_toArray, List.set_cons_zero, List.set_cons_succ])
        | (refine class_want (by rfl) ?_
           apply Exists.intro
           refine ⟨fun w1 h1 => ?_, ?_⟩
           focus
             obtain ⟨c0, c1, c2, c3, c4, c5, c6⟩ := LkS.cells h1.1
             have s0 := h1.2.cell 0
             have s1 := h1.2.cell 1
             have s2 := h1.2.cell 2
             simp only [List.getElem?_toArray, List.getElem?_cons_zero, List.getElem?_cons_succ] at s0 s1 s2
             unfold Oper.quietAt Oper.quietUpon
             go_simp
             first
             | exact rfl
             | (with_reducible refine (AW.out _ (hR.next (LkS.bel h1.1))).mono ?_
                rintro e w2 ⟨rfl, hb2⟩
                exact ⟨rfl, LkS.next h1.1 hb2, h1.2.next hb2⟩)
           simp only [Act.put, List.setIfInBounds_toArray, List.set_cons_zero, List.set_cons_succ])
      refine wpQuiet_nil ?_
      intro w6 h6
      go_wp2
      go_ret
      exact ⟨rfl, h6.1.2⟩
    · have hpb : pb = true := by rw [hlost.out, decide_eq_false hl]; rfl
      have q7 : (l.loss ≤ m2.tmod 1000) = True := eq_true (by rw [ht.out]; omega)
      have q10 := q9.out hpb
      clear hl hlost ht q9
      subst hpb
      refine region_class (fun w' => LkS w w.heap.size l A n c w' ∧ Bk w' (w.heap.size + 1) 41 #[.int .i64 1, .int .i64 y, .int .i64 z]) (by kernel_rfl) (by kernel_rfl) ⟨LkS.drew L4, Bk.drew S4⟩ ?_
      clear L4 S4
      repeat
        first
        | (refine BigFrame.wpQuiet_skip (by rfl) ?_
           simp only [Act.put, List.setIfInBounds_toArray, List.set_cons_zero, List.set_cons_succ])
        | (refine class_want (by rfl) ?_
           apply Exists.intro
           refine ⟨fun w1 h1 => ?_, ?_⟩
           focus
             obtain ⟨c0, c1, c2, c3, c4, c5, c6⟩ := LkS.cells h1.1
             have s0 := h1.2.cell 0
             have s1 := h1.2.cell 1
             have s2 := h1.2.cell 2
             simp only [List.getElem?_toArray, List.getElem?_cons_zero, List.getElem?_cons_succ] at s0 s1 s2
             unfold Oper.quietAt Oper.quietUpon
             go_simp
             first
             | exact rfl
             | (with_reducible refine (CN.out hn.out _ (hA.next (LkS.bel h1.1)) (hR.next (LkS.bel h1.1))).mono ?_
                rintro e w2 ⟨rfl, hb2⟩
                exact ⟨rfl, LkS.next h1.1 hb2, h1.2.next hb2⟩)
             | (with_reducible refine (CL.out _ (hR.next (LkS.bel h1.1))).mono ?_
                rintro e w2 ⟨rfl, hb2⟩
                exact ⟨rfl, LkS.next h1.1 hb2, h1.2.next hb2⟩)
           simp only [Act.put, List.setIfInBounds_toArray, List.set_cons_zero, List.set_cons_succ])
      refine wpQuiet_nil ?_
      intro w5 ⟨L5, S5⟩
      go_wp2_with fail
      refine region_class (fun w' => LkS w w.heap.size l A n c w' ∧ Bk w' (w.heap.size + 1) 41 #[.int .i64 1, .int .i64 y, .int .i64 z]) (by kernel_rfl) (by kernel_rfl) ⟨LkS.drew L5, Bk.drew S5⟩ ?_
      clear L5 S5
      repeat
        first
        | (refine BigFrame.wpQuiet_skip (by rfl) ?_
           simp only [Act.put, List.setIfInBounds_toArray, List.set_cons_zero, List.set_cons_succ])
        | (refine class_want (by rfl) ?_
           apply Exists.intro
           refine ⟨fun w1 h1 => ?_, ?_⟩
           focus
             obtain ⟨c0, c1, c2, c3, c4, c5, c6⟩ := LkS.cells h1.1
             have s0 := h1.2.cell 0
             have s1 := h1.2.cell 1
             have s2 := h1.2.cell 2
             simp only [List.getElem?_toArray, List.getElem?_cons_zero, List.getElem?_cons_succ] at s0 s1 s2
             unfold Oper.quietAt Oper.quietUpon
             go_simp
             first
             | exact rfl
             | (with_reducible refine (CD.out hn.out _ (hA.next (LkS.bel h1.1))).mono ?_
                rintro e w2 ⟨rfl, hb2⟩
                exact ⟨rfl, LkS.next h1.1 hb2, h1.2.next hb2⟩)
             | (with_reducible refine (AW.out _ (hR.next (LkS.bel h1.1))).mono ?_
                rintro e w2 ⟨rfl, hb2⟩
                exact ⟨rfl, LkS.next h1.1 hb2, h1.2.next hb2⟩)
           simp only [Act.put, List.setIfInBounds_toArray, List.set_cons_zero, List.set_cons_succ])
      refine wpQuiet_nil ?_
      intro w6 h6
      go_wp2
      go_ret
      exact ⟨rfl, h6.1.2⟩
end Go.Proofs.YtjeojnlkjecojaaDoor
