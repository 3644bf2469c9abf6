/- The walks of LinkWithin. -/
import Derived.Test.YtjeojnlkjecojaaDoorLinkW
namespace Go.Proofs.YtjeojnlkjecojaaDoor
open Go Go.RowKit
set_option maxHeartbeats 2000000 in
theorem linkWithin_walk (l : Pl.Lk) (A : Option Addr) (c : Nat) (x y z : Int) (w : World) (hR : Rnd w) (hA : IsCh w A l.ch) :
    Calls Tryd.prog 7 #[.agg (lkCells l A l.ch.length c), .agg #[.int .i64 x, .int .i64 y, .int .i64 z]] w fun e w' => e = .returned (.bool true) ∧ Below w.heap.size w w' := by
  have LA : LkS w w.heap.size l A l.ch.length c (w.alloc (.cells (lkCells l A l.ch.length c) 26)) := ⟨Bk.new _ _ _, (Below.refl w.heap.size w).alloc (Nat.le_refl _) _⟩
  have L0 := LA.next ((Below.refl _ _).alloc (Nat.le_refl _) (.cells #[.int .i64 x, .int .i64 y, .int .i64 z] 41))
  have S0 := Bk.new (w.alloc (.cells (lkCells l A l.ch.length c) 26)) 41 #[.int .i64 x, .int .i64 y, .int .i64 z]
  have hg1 : (w.alloc (.cells (lkCells l A l.ch.length c) 26)).heap.size = w.heap.size + 1 := by simp
  rw [hg1] at S0
  clear LA hg1
  have SM := fun w => small_any l A l.ch.length c w
  generalize hS : decide ((l.ch.length : Int) ≤ 100) = sm at *
  have AW := fun w hR => awake_any w hR
  have CA := fun hn w hA hR => arrive_any l A c x y z w hA hn hR
  have CK := fun hn w hA => check_any l A c w hA hn
  have CB := fun hn w hA => bounds_any l A c x w hA hn
  have CD := fun hn w hA => delay_any l A c x y w hA hn
  unfold arr at *
  unfold bnd at *
  generalize hN : l.ch.length = n at *
  replace hN := hid hN
  replace SM := hid SM
  replace AW := hid AW
  replace CA := hid CA
  replace CK := hid CK
  replace CB := hid CB
  replace CD := hid CD
  unfold lkCells at *
  obtain ⟨c0, c1, c2, c3, c4, c5, c6⟩ := LkS.cells L0
  go_enter Tryd.func7, Tryd.ntmps7
  go_wp2_with fail
  clear c0 c1 c2 c3 c4 c5 c6
  generalize (w.alloc (.cells #[.int .i64 l.d0, .int .i64 l.d1, .int .i64 l.v0, .int .i64 l.v1, .int .i64 l.loss, .int .u64 l.seed, .slice A n c] 26)).alloc (.cells #[.int .i64 x, .int .i64 y, .int .i64 z] 41) = w0 at *
  refine (SM.out _).mono ?_
  rintro e w1 ⟨rfl, hb⟩
  have L1 := LkS.next L0 hb
  have S1 := S0.next hb
  clear hb L0 S0 SM
  cases sm
  case false =>
    go_wp2_with fail
    refine (AW.out _ (hR.next (LkS.bel L1))).mono ?_
    rintro e w2 ⟨rfl, hb⟩
    go_wp2
    go_ret
    exact ⟨rfl, bstep L1.2 hb⟩
  have hn : n ≤ 100 := by have := of_decide_eq_true hS; omega
  clear hS
  have s0 := S1.cell 0
  have s1 := S1.cell 1
  have s2 := S1.cell 2
  simp only [List.getElem?_toArray, List.getElem?_cons_zero, List.getElem?_cons_succ] at s0 s1 s2
  go_wp2_with fail
  clear s0 s1 s2
  cases hr : (Pl.okDir x && Pl.okAt y && Pl.okN z)
  · refine (right_no hr _).mono ?_
    rintro e w2 ⟨rfl, rfl⟩
    go_wp2_with fail
    refine (AW.out _ (hR.next (LkS.bel L1))).mono ?_
    rintro e w2 ⟨rfl, hb⟩
    go_wp2
    go_ret
    exact ⟨rfl, bstep L1.2 hb⟩
  rw [Bool.and_eq_true, Bool.and_eq_true] at hr
  obtain ⟨⟨hx, hy⟩, hz⟩ := hr
  refine (right_yes hx hy hz _).mono ?_
  rintro e w2 ⟨rfl, rfl⟩
  obtain ⟨c0, c1, c2, c3, c4, c5, c6⟩ := LkS.cells L1
  have s0 := S1.cell 0
  have s1 := S1.cell 1
  have s2 := S1.cell 2
  simp only [List.getElem?_toArray, List.getElem?_cons_zero, List.getElem?_cons_succ] at s0 s1 s2
  go_wp2_with fail
  clear c0 c1 c2 c3 c4 c5 c6 s0 s1 s2
  refine (CA.out hn _ (hA.next (LkS.bel L1)) (hR.next (LkS.bel L1))).mono ?_
  rintro e w2 ⟨rfl, hb⟩
  have L2 := LkS.next L1 hb
  have S2 := S1.next hb
  clear L1 S1 CA hb
  obtain ⟨c0, c1, c2, c3, c4, c5, c6⟩ := LkS.cells L2
  have s0 := S2.cell 0
  have s1 := S2.cell 1
  have s2 := S2.cell 2
  simp only [List.getElem?_toArray, List.getElem?_cons_zero, List.getElem?_cons_succ] at s0 s1 s2
  go_wp2_with fail
  clear c0 c1 c2 c3 c4 c5 c6 s0 s1 s2
  refine (CK.out hn _ (hA.next (LkS.bel L2))).mono ?_
  rintro e w3 ⟨rfl, hb⟩
  have L3 := LkS.next L2 hb
  have S3 := S2.next hb
  clear L2 S2 CK hb
  by_cases he : Pl.errOf l = 0
  case neg =>
    have hb1 : Pl.arrives l x y z = false := arrives_bad (.inl he)
    have ha1 := arriveOf_no hb1
    rw [hb1, ha1]
    go_wp2_with fail
    refine (AW.out _ (hR.next (LkS.bel L3))).mono ?_
    rintro e w2 ⟨rfl, hb⟩
    go_wp2
    go_ret
    exact ⟨rfl, bstep L3.2 hb⟩
  rw [he]
  obtain ⟨b0, b1, b2⟩ := within_bounds he hx
  obtain ⟨d0, d1⟩ := within_delay he hx hy z
  have hno := not_arrives_loss (m := z) he hx hy hz
  have hay := arriveOf_yes (l := l) (dir := x) (at_ := y) (m := z)
  have han := arriveOf_no (l := l) (dir := x) (at_ := y) (m := z)
  have hnv := noise_le (dir := x) he z
  obtain ⟨dd0, dd1⟩ := delay_range l x y
  obtain ⟨nn0, nn1⟩ := noise_range l x z
  obtain ⟨y0, y1⟩ := Pl.inR_true.1 hy
  generalize bLo l x = lo at *
  generalize bHi l x = hi at *
  generalize Pl.delayOf l x y = pD at *
  generalize Pl.noiseOf l x z = pN at *
  generalize Pl.arriveOf l x y z = pa at *
  generalize Pl.arrives l x y z = pb at *
  replace hno := hid hno
  replace hay := hid hay
  replace han := hid han
  obtain ⟨c0, c1, c2, c3, c4, c5, c6⟩ := LkS.cells L3
  have s0 := S3.cell 0
  have s1 := S3.cell 1
  have s2 := S3.cell 2
  simp only [List.getElem?_toArray, List.getElem?_cons_zero, List.getElem?_cons_succ] at s0 s1 s2
  go_wp2_with fail
  clear c0 c1 c2 c3 c4 c5 c6 s0 s1 s2
  refine (CB.out hn _ (hA.next (LkS.bel L3))).mono ?_
  rintro e w4 ⟨rfl, hb⟩
  have L4 := (LkS.next L3 hb).next ((Below.refl _ _).alloc (Nat.le_refl _) (.cells #[.int .i64 lo, .int .i64 hi] 35))
  have S4 := (S3.next hb).alloc (.cells #[.int .i64 lo, .int .i64 hi] 35)
  have I4 := Bk.new w4 35 #[.int .i64 lo, .int .i64 hi]
  clear L3 S3 CB hb
  have i0 := I4.cell 0
  have i1 := I4.cell 1
  simp only [List.getElem?_toArray, List.getElem?_cons_zero, List.getElem?_cons_succ] at i0 i1
  cases pb
  case false =>
    have hpa := han.out rfl
    have hl0 := hno.out rfl
    clear hno hay han
    subst hpa
    obtain ⟨c0, c1, c2, c3, c4, c5, c6⟩ := LkS.cells L4
    go_wp2_with fail
    refine (AW.out _ (hR.next (LkS.bel L4))).mono ?_
    rintro e w2 ⟨rfl, hb⟩
    go_wp2
    go_ret
    exact ⟨rfl, bstep L4.2 hb⟩
  case true =>
    have hpa := hid (hay.out rfl)
    clear hno hay han
    obtain ⟨c0, c1, c2, c3, c4, c5, c6⟩ := LkS.cells L4
    have s0 := S4.cell 0
    have s1 := S4.cell 1
    have s2 := S4.cell 2
    simp only [List.getElem?_toArray, List.getElem?_cons_zero, List.getElem?_cons_succ] at s0 s1 s2
    go_wp2_with fail
    clear c0 c1 c2 c3 c4 c5 c6 s0 s1 s2 i0 i1
    generalize w4.alloc (.cells #[.int .i64 lo, .int .i64 hi] 35) = w5 at *
    generalize w4.heap.size = g at *
    refine (CD.out hn _ (hA.next (LkS.bel L4))).mono ?_
    rintro e w6 ⟨rfl, hb⟩
    have L6 := LkS.next L4 hb
    have S6 := S4.next hb
    have I6 := I4.next hb
    clear L4 S4 I4 CD hb
    go_wp2_with fail
    refine region_class (fun w' => LkS w w.heap.size l A n c w' ∧ Bk w' (w.heap.size + 1) 41 #[.int .i64 x, .int .i64 y, .int .i64 z] ∧ Bk w' g 35 #[.int .i64 lo, .int .i64 hi]) (by kernel_rfl) (by kernel_rfl) ⟨LkS.drew L6, Bk.drew S6, Bk.drew I6⟩ ?_
    clear L6 S6 I6
    have hpo := hpa.out
    have k1 : y ≤ pa := by omega
    have k2 : IntKind.i64.wrap (pa - y) = pD + pN := by rw [wrap_i64_id] <;> omega
    have k3 : lo ≤ pD + pN := by omega
    have k4 : pD ≤ pD + pN := by omega
    have k5 : IntKind.i64.wrap (pD + pN - pD) = pN := by rw [wrap_i64_id] <;> omega
    have k6 : pN ≤ Pl.vBase l x := hnv
    have hxx := okDir_of hx
    clear hpa hpo
    rcases hxx with rfl | rfl
    · have k7 : Pl.vBase l 0 = l.v0 := rfl
      rw [k7] at k6
      repeat
        first
        | (refine BigFrame.wpQuiet_skip (by rfl) ?_
           simp only [Act.put, List.setIfInBounds_toArray, List.set_cons_zero, List.set_cons_succ])
        | (refine class_want (by rfl) ?_
           apply Exists.intro
           refine ⟨fun w1 h1 => ?_, ?_⟩
           focus
             obtain ⟨c0, c1, c2, c3, c4, c5, c6⟩ := LkS.cells h1.1
             have s0 := h1.2.1.cell 0
             have s1 := h1.2.1.cell 1
             have s2 := h1.2.1.cell 2
             have i0 := h1.2.2.cell 0
             have i1 := h1.2.2.cell 1
             simp only [List.getElem?_toArray, List.getElem?_cons_zero, List.getElem?_cons_succ] at s0 s1 s2 i0 i1
             unfold Oper.quietAt Oper.quietUpon
             go_simp
             first
             | exact rfl
             | (with_reducible refine (AW.out _ (hR.next (LkS.bel h1.1))).mono ?_
                rintro e w2 ⟨rfl, hb2⟩
                exact ⟨rfl, LkS.next h1.1 hb2, h1.2.1.next hb2, h1.2.2.next hb2⟩)
           simp only [Act.put, List.setIfInBounds_toArray, List.set_cons_zero, List.set_cons_succ])
      refine wpQuiet_nil ?_
      intro w7 h7
      go_wp2
      go_ret
      exact ⟨rfl, h7.1.2⟩
    · have k7 : Pl.vBase l 1 = l.v1 := rfl
      rw [k7] at k6
      repeat
        first
        | (refine BigFrame.wpQuiet_skip (by rfl) ?_
           simp only [Act.put, List.setIfInBounds_toArray, List.set_cons_zero, List.set_cons_succ])
        | (refine class_want (by rfl) ?_
           apply Exists.intro
           refine ⟨fun w1 h1 => ?_, ?_⟩
           focus
             obtain ⟨c0, c1, c2, c3, c4, c5, c6⟩ := LkS.cells h1.1
             have s0 := h1.2.1.cell 0
             have s1 := h1.2.1.cell 1
             have s2 := h1.2.1.cell 2
             have i0 := h1.2.2.cell 0
             have i1 := h1.2.2.cell 1
             simp only [List.getElem?_toArray, List.getElem?_cons_zero, List.getElem?_cons_succ] at s0 s1 s2 i0 i1
             unfold Oper.quietAt Oper.quietUpon
             go_simp
             first
             | exact rfl
             | (with_reducible refine (AW.out _ (hR.next (LkS.bel h1.1))).mono ?_
                rintro e w2 ⟨rfl, hb2⟩
                exact ⟨rfl, LkS.next h1.1 hb2, h1.2.1.next hb2, h1.2.2.next hb2⟩)
           simp only [Act.put, List.setIfInBounds_toArray, List.set_cons_zero, List.set_cons_succ])
      refine wpQuiet_nil ?_
      intro w7 h7
      go_wp2
      go_ret
      exact ⟨rfl, h7.1.2⟩
end Go.Proofs.YtjeojnlkjecojaaDoor
