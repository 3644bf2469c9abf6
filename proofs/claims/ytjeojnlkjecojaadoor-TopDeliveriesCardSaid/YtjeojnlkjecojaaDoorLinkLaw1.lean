/- The walks of LinkChecks, LinkDelays, LinkBounds. -/
import Derived.Test.YtjeojnlkjecojaaDoorLinkAw
namespace Go.Proofs.YtjeojnlkjecojaaDoor
open Go Go.RowKit
theorem small_any (l : Pl.Lk) (A : Option Addr) (n c : Nat) (w : World) : Calls Tryd.prog 11 #[.agg (lkCells l A n c)] w fun e w' => e = .returned (.bool (decide ((n : Int) ≤ 100))) ∧ Below w.heap.size w w' := by
  have L0 : LkS w w.heap.size l A n c (w.alloc (.cells (lkCells l A n c) 26)) := ⟨Bk.new _ _ _, (Below.refl w.heap.size w).alloc (Nat.le_refl _) _⟩
  unfold lkCells at *
  obtain ⟨c0, c1, c2, c3, c4, c5, c6⟩ := LkS.cells L0
  go_enter Tryd.func11, Tryd.ntmps11
  go_wp2
  go_ret
  exact ⟨rfl, L0.2⟩
set_option maxHeartbeats 1000000 in
theorem linkChecks_walk (l : Pl.Lk) (A : Option Addr) (c : Nat) (w : World) (hR : Rnd w) (hA : IsCh w A l.ch) :
    Calls Tryd.prog 3 #[.agg (lkCells l A l.ch.length c)] w fun e w' => e = .returned (.bool true) ∧ Below w.heap.size w w' := by
  have L0 : LkS w w.heap.size l A l.ch.length c (w.alloc (.cells (lkCells l A l.ch.length c) 26)) := ⟨Bk.new _ _ _, (Below.refl w.heap.size w).alloc (Nat.le_refl _) _⟩
  have SM := fun w => small_any l A l.ch.length c w
  generalize hS : decide ((l.ch.length : Int) ≤ 100) = sm at *
  have AW := fun w hR => awake_any w hR
  have C0 := fun hn w hA => check_any l A c w hA hn
  have C1 := fun hn w hA => refCheck_any l A c w hA hn
  generalize hN : l.ch.length = n at *
  replace hN := hid hN
  replace SM := hid SM
  replace AW := hid AW
  replace C0 := hid C0
  replace C1 := hid C1
  unfold lkCells at *
  obtain ⟨c0, c1, c2, c3, c4, c5, c6⟩ := LkS.cells L0
  go_enter Tryd.func3, Tryd.ntmps3
  go_wp2_with fail
  clear c0 c1 c2 c3 c4 c5 c6
  generalize w.alloc (.cells #[.int .i64 l.d0, .int .i64 l.d1, .int .i64 l.v0, .int .i64 l.v1, .int .i64 l.loss, .int .u64 l.seed, .slice A n c] 26) = w0 at *
  refine (SM.out _).mono ?_
  rintro e w1 ⟨rfl, hb⟩
  have L1 := LkS.next L0 hb
  clear hb L0 SM
  cases sm
  case false =>
    go_wp2_with fail
    refine (AW.out _ (hR.next (LkS.bel L1))).mono ?_
    rintro e w2 ⟨rfl, hb⟩
    go_wp2
    go_ret
    exact ⟨rfl, bstep L1.2 hb⟩
  case true =>
    have hn : n ≤ 100 := by have := of_decide_eq_true hS; omega
    clear hS
    go_wp2_with fail
    refine region_class (fun w' => LkS w w.heap.size l A n c w') (by kernel_rfl) (by kernel_rfl) (LkS.drew L1) ?_
    clear L1
    repeat
      first
      | (refine BigFrame.wpQuiet_skip (by rfl) ?_
         simp only [Act.put, List.setIfInBounds_toArray, List.set_cons_zero, List.set_cons_succ])
      | (refine class_want (by rfl) ?_
         apply Exists.intro
         refine ⟨fun w1 h1 => ?_, ?_⟩
         focus
           obtain ⟨c0, c1, c2, c3, c4, c5, c6⟩ := LkS.cells h1
           unfold Oper.quietAt Oper.quietUpon
           go_simp
           first
           | exact rfl
           | (with_reducible refine (C0.out hn _ (hA.next (LkS.bel h1))).mono ?_
              rintro e w2 ⟨rfl, hb⟩
              exact ⟨rfl, LkS.next h1 hb⟩)
           | (with_reducible refine (C1.out hn _ (hA.next (LkS.bel h1))).mono ?_
              rintro e w2 ⟨rfl, hb⟩
              exact ⟨rfl, LkS.next h1 hb⟩)
           | (with_reducible refine (AW.out _ (hR.next (LkS.bel h1))).mono ?_
              rintro e w2 ⟨rfl, hb⟩
              exact ⟨rfl, LkS.next h1 hb⟩)
         simp only [Act.put, List.setIfInBounds_toArray, List.set_cons_zero, List.set_cons_succ])
    refine wpQuiet_nil ?_
    intro w3 h3
    go_wp2
    go_ret
    exact ⟨rfl, h3.2⟩
set_option maxHeartbeats 1000000 in
theorem linkDelays_walk (l : Pl.Lk) (A : Option Addr) (c : Nat) (dir at_ : Int) (w : World) (hR : Rnd w) (hA : IsCh w A l.ch) :
    Calls Tryd.prog 4 #[.agg (lkCells l A l.ch.length c), .int .i64 dir, .int .i64 at_] w fun e w' => e = .returned (.bool true) ∧ Below w.heap.size w w' := by
  have L0 : LkS w w.heap.size l A l.ch.length c (w.alloc (.cells (lkCells l A l.ch.length c) 26)) := ⟨Bk.new _ _ _, (Below.refl w.heap.size w).alloc (Nat.le_refl _) _⟩
  have SM := fun w => small_any l A l.ch.length c w
  generalize hS : decide ((l.ch.length : Int) ≤ 100) = sm at *
  have AW := fun w hR => awake_any w hR
  have C0 := fun hn w hA => delay_any l A c dir at_ w hA hn
  have C1 := fun hn w hA => refDelay_any l A c dir at_ w hA hn
  have C2 := fun hn w hA => asym_any l A c at_ w hA hn
  have C3 := fun hn w hA => refAsym_any l A c at_ w hA hn
  generalize hN : l.ch.length = n at *
  replace hN := hid hN
  replace SM := hid SM
  replace AW := hid AW
  replace C0 := hid C0
  replace C1 := hid C1
  replace C2 := hid C2
  replace C3 := hid C3
  unfold lkCells at *
  obtain ⟨c0, c1, c2, c3, c4, c5, c6⟩ := LkS.cells L0
  go_enter Tryd.func4, Tryd.ntmps4
  go_wp2_with fail
  clear c0 c1 c2 c3 c4 c5 c6
  generalize w.alloc (.cells #[.int .i64 l.d0, .int .i64 l.d1, .int .i64 l.v0, .int .i64 l.v1, .int .i64 l.loss, .int .u64 l.seed, .slice A n c] 26) = w0 at *
  refine (SM.out _).mono ?_
  rintro e w1 ⟨rfl, hb⟩
  have L1 := LkS.next L0 hb
  clear hb L0 SM
  cases sm
  case false =>
    go_wp2_with fail
    refine (AW.out _ (hR.next (LkS.bel L1))).mono ?_
    rintro e w2 ⟨rfl, hb⟩
    go_wp2
    go_ret
    exact ⟨rfl, bstep L1.2 hb⟩
  case true =>
    have hn : n ≤ 100 := by have := of_decide_eq_true hS; omega
    clear hS
    go_wp2_with fail
    refine region_class (fun w' => LkS w w.heap.size l A n c w') (by kernel_rfl) (by kernel_rfl) (LkS.drew L1) ?_
    clear L1
    repeat
      first
      | (refine BigFrame.wpQuiet_skip (by rfl) ?_
         simp only [Act.put, List.setIfInBounds_toArray, List.set_cons_zero, List.set_cons_succ])
      | (refine class_want (by rfl) ?_
         apply Exists.intro
         refine ⟨fun w1 h1 => ?_, ?_⟩
         focus
           obtain ⟨c0, c1, c2, c3, c4, c5, c6⟩ := LkS.cells h1
           unfold Oper.quietAt Oper.quietUpon
           go_simp
           first
           | exact rfl
           | (with_reducible refine (C0.out hn _ (hA.next (LkS.bel h1))).mono ?_
              rintro e w2 ⟨rfl, hb⟩
              exact ⟨rfl, LkS.next h1 hb⟩)
           | (with_reducible refine (C1.out hn _ (hA.next (LkS.bel h1))).mono ?_
              rintro e w2 ⟨rfl, hb⟩
              exact ⟨rfl, LkS.next h1 hb⟩)
           | (with_reducible refine (C2.out hn _ (hA.next (LkS.bel h1))).mono ?_
              rintro e w2 ⟨rfl, hb⟩
              exact ⟨rfl, LkS.next h1 hb⟩)
           | (with_reducible refine (C3.out hn _ (hA.next (LkS.bel h1))).mono ?_
              rintro e w2 ⟨rfl, hb⟩
              exact ⟨rfl, LkS.next h1 hb⟩)
           | (with_reducible refine (AW.out _ (hR.next (LkS.bel h1))).mono ?_
              rintro e w2 ⟨rfl, hb⟩
              exact ⟨rfl, LkS.next h1 hb⟩)
         simp only [Act.put, List.setIfInBounds_toArray, List.set_cons_zero, List.set_cons_succ])
    refine wpQuiet_nil ?_
    intro w3 h3
    go_wp2
    go_ret
    exact ⟨rfl, h3.2⟩
attribute [local simp high] guard_bind_iv eql_iv neq_iv
set_option maxHeartbeats 1000000 in
theorem linkBounds_walk (l : Pl.Lk) (A : Option Addr) (c : Nat) (dir m : Int) (w : World) (hR : Rnd w) (hA : IsCh w A l.ch) :
    Calls Tryd.prog 5 #[.agg (lkCells l A l.ch.length c), .int .i64 dir, .int .i64 m] w fun e w' => e = .returned (.bool true) ∧ Below w.heap.size w w' := by
  have L0 : LkS w w.heap.size l A l.ch.length c (w.alloc (.cells (lkCells l A l.ch.length c) 26)) := ⟨Bk.new _ _ _, (Below.refl w.heap.size w).alloc (Nat.le_refl _) _⟩
  have SM := fun w => small_any l A l.ch.length c w
  generalize hS : decide ((l.ch.length : Int) ≤ 100) = sm at *
  have AW := fun w hR => awake_any w hR
  have C0 := fun hn w hA hR => noise_any l A c dir m w hA hn hR
  have C1 := fun hn w hA => refNoise_any l A c dir m w hA hn
  have C2 := fun hn w hA => bounds_any l A c dir w hA hn
  have C3 := fun hn w hA => refBounds_any l A c dir w hA hn
  unfold bnd at *
  generalize hN : l.ch.length = n at *
  replace hN := hid hN
  replace SM := hid SM
  replace AW := hid AW
  replace C0 := hid C0
  replace C1 := hid C1
  replace C2 := hid C2
  replace C3 := hid C3
  unfold lkCells at *
  obtain ⟨c0, c1, c2, c3, c4, c5, c6⟩ := LkS.cells L0
  go_enter Tryd.func5, Tryd.ntmps5
  go_wp2_with fail
  clear c0 c1 c2 c3 c4 c5 c6
  generalize w.alloc (.cells #[.int .i64 l.d0, .int .i64 l.d1, .int .i64 l.v0, .int .i64 l.v1, .int .i64 l.loss, .int .u64 l.seed, .slice A n c] 26) = w0 at *
  refine (SM.out _).mono ?_
  rintro e w1 ⟨rfl, hb⟩
  have L1 := LkS.next L0 hb
  clear hb L0 SM
  cases sm
  case false =>
    go_wp2_with fail
    refine (AW.out _ (hR.next (LkS.bel L1))).mono ?_
    rintro e w2 ⟨rfl, hb⟩
    go_wp2
    go_ret
    exact ⟨rfl, bstep L1.2 hb⟩
  case true =>
    have hn : n ≤ 100 := by have := of_decide_eq_true hS; omega
    clear hS
    go_wp2_with fail
    refine region_class (fun w' => LkS w w.heap.size l A n c w') (by kernel_rfl) (by kernel_rfl) (LkS.drew L1) ?_
    clear L1
    repeat
      first
      | (refine BigFrame.wpQuiet_skip (by rfl) ?_
         simp only [Act.put, List.setIfInBounds_toArray, List.set_cons_zero, List.set_cons_succ])
      | (refine class_want (by rfl) ?_
         apply Exists.intro
         refine ⟨fun w1 h1 => ?_, ?_⟩
         focus
           obtain ⟨c0, c1, c2, c3, c4, c5, c6⟩ := LkS.cells h1
           unfold Oper.quietAt Oper.quietUpon
           go_simp
           first
           | exact rfl
           | (with_reducible refine (C0.out hn _ (hA.next (LkS.bel h1)) (hR.next (LkS.bel h1))).mono ?_
              rintro e w2 ⟨rfl, hb⟩
              exact ⟨rfl, LkS.next h1 hb⟩)
           | (with_reducible refine (C1.out hn _ (hA.next (LkS.bel h1))).mono ?_
              rintro e w2 ⟨rfl, hb⟩
              exact ⟨rfl, LkS.next h1 hb⟩)
           | (with_reducible refine (C2.out hn _ (hA.next (LkS.bel h1))).mono ?_
              rintro e w2 ⟨rfl, hb⟩
              exact ⟨rfl, LkS.next h1 hb⟩)
           | (with_reducible refine (C3.out hn _ (hA.next (LkS.bel h1))).mono ?_
              rintro e w2 ⟨rfl, hb⟩
              exact ⟨rfl, LkS.next h1 hb⟩)
           | (with_reducible refine (AW.out _ (hR.next (LkS.bel h1))).mono ?_
              rintro e w2 ⟨rfl, hb⟩
              exact ⟨rfl, LkS.next h1 hb⟩)
         simp only [Act.put, List.setIfInBounds_toArray, List.set_cons_zero, List.set_cons_succ])
    refine wpQuiet_nil ?_
    intro w3 h3
    go_wp2
    go_ret
    exact ⟨rfl, h3.2⟩
end Go.Proofs.YtjeojnlkjecojaaDoor
