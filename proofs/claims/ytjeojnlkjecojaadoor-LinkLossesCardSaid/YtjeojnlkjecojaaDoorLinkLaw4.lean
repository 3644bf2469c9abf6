/- The walk of LinkLosses. -/
import Derived.Test.YtjeojnlkjecojaaDoorLinkW
namespace Go.Proofs.YtjeojnlkjecojaaDoor
open Go Go.RowKit
set_option maxHeartbeats 2000000 in
theorem linkLosses_walk (l : Pl.Lk) (A : Option Addr) (c : Nat) (x y z o : Int) (w : World) (hR : Rnd w) (hA : IsCh w A l.ch) :
    Calls Tryd.prog 8 #[.agg (lkCells l A l.ch.length c), .agg #[.int .i64 x, .int .i64 y, .int .i64 z], .int .i64 o] w fun e w' => e = .returned (.bool true) ∧ Below w.heap.size w w' := by
  have LA : LkS w w.heap.size l A l.ch.length c (w.alloc (.cells (lkCells l A l.ch.length c) 26)) := ⟨Bk.new _ _ _, (Below.refl w.heap.size w).alloc (Nat.le_refl _) _⟩
  have L0 := LA.next ((Below.refl _ _).alloc (Nat.le_refl _) (.cells #[.int .i64 x, .int .i64 y, .int .i64 z] 41))
  have S0 := Bk.new (w.alloc (.cells (lkCells l A l.ch.length c) 26)) 41 #[.int .i64 x, .int .i64 y, .int .i64 z]
  have hg1 : (w.alloc (.cells (lkCells l A l.ch.length c) 26)).heap.size = w.heap.size + 1 := by simp
  rw [hg1] at S0
  clear LA hg1
  have SM := fun w => small_any l A l.ch.length c w
  generalize hS : decide ((l.ch.length : Int) ≤ 100) = sm at *
  have AW := fun w hR => awake_any w hR
  have CK := fun hn w hA => check_any l A c w hA hn
  have CA := fun hn w hA hR => arrive_any l A c x y z w hA hn hR
  have CO := fun hn w hA hR => arrive_any (withLoss l o) A c x y z w hA hn hR
  have CT := fun hn w hA hR => arrive_any (withLoss l 1000) A c x y z w hA hn hR
  unfold arr at *
  have hO : (withLoss l o).ch = l.ch := rfl
  have hT : (withLoss l 1000).ch = l.ch := rfl
  rw [hO] at CO
  rw [hT] at CT
  clear hO hT
  generalize hN : l.ch.length = n at *
  replace hN := hid hN
  replace SM := hid SM
  replace AW := hid AW
  replace CK := hid CK
  replace CA := hid CA
  replace CO := hid CO
  replace CT := hid CT
  unfold lkCells at *
  obtain ⟨c0, c1, c2, c3, c4, c5, c6⟩ := LkS.cells L0
  go_enter Tryd.func8, Tryd.ntmps8
  go_wp2_with fail
  clear c0 c1 c2 c3 c4 c5 c6
  generalize (w.alloc (.cells #[.int .i64 l.d0, .int .i64 l.d1, .int .i64 l.v0, .int .i64 l.v1, .int .i64 l.loss, .int .u64 l.seed, .slice A n c] 26)).alloc (.cells #[.int .i64 x, .int .i64 y, .int .i64 z] 41) = w0 at *
  refine (SM.out _).mono ?_
  rintro e w1 ⟨rfl, hb⟩
  have L1 := LkS.next L0 hb
  have S1 := S0.next hb
  clear hb L0 S0 SM
  cases sm
  case false =>
    go_wp2_with fail
    refine (AW.out _ (hR.next (LkS.bel L1))).mono ?_
    rintro e w9 ⟨rfl, hb⟩
    go_wp2
    go_ret
    exact ⟨rfl, bstep (LkS.bel L1) hb⟩
  have hn : n ≤ 100 := by have := of_decide_eq_true hS; omega
  clear hS
  obtain ⟨c0, c1, c2, c3, c4, c5, c6⟩ := LkS.cells L1
  have s0 := S1.cell 0
  have s1 := S1.cell 1
  have s2 := S1.cell 2
  simp only [List.getElem?_toArray, List.getElem?_cons_zero, List.getElem?_cons_succ] at s0 s1 s2
  go_wp2_with fail
  clear c0 c1 c2 c3 c4 c5 c6 s0 s1 s2
  cases hr : (Pl.okDir x && Pl.okAt y && Pl.okN z)
  case false =>
    refine (right_no hr _).mono ?_
    rintro e w2 ⟨rfl, rfl⟩
    go_wp2_with fail
    refine (AW.out _ (hR.next (LkS.bel L1))).mono ?_
    rintro e w9 ⟨rfl, hb⟩
    go_wp2
    go_ret
    exact ⟨rfl, bstep (LkS.bel L1) hb⟩
  rw [Bool.and_eq_true, Bool.and_eq_true] at hr
  obtain ⟨⟨hx, hy⟩, hz⟩ := hr
  refine (right_yes hx hy hz _).mono ?_
  rintro e w2 ⟨rfl, rfl⟩
  obtain ⟨c0, c1, c2, c3, c4, c5, c6⟩ := LkS.cells L1
  have s0 := S1.cell 0
  have s1 := S1.cell 1
  have s2 := S1.cell 2
  simp only [List.getElem?_toArray, List.getElem?_cons_zero, List.getElem?_cons_succ] at s0 s1 s2
  go_wp2_with fail
  clear c0 c1 c2 c3 c4 c5 c6 s0 s1 s2
  refine (CK.out hn _ (hA.next (LkS.bel L1))).mono ?_
  rintro e w2 ⟨rfl, hb⟩
  have L2 := LkS.next L1 hb
  have S2 := S1.next hb
  clear L1 S1 CK hb
  by_cases he : Pl.errOf l = 0
  case neg =>
    go_wp2_with fail
    refine (AW.out _ (hR.next (LkS.bel L2))).mono ?_
    rintro e w9 ⟨rfl, hb⟩
    go_wp2
    go_ret
    exact ⟨rfl, bstep (LkS.bel L2) hb⟩
  rw [he]
  obtain ⟨c0, c1, c2, c3, c4, c5, c6⟩ := LkS.cells L2
  have s0 := S2.cell 0
  have s1 := S2.cell 1
  have s2 := S2.cell 2
  simp only [List.getElem?_toArray, List.getElem?_cons_zero, List.getElem?_cons_succ] at s0 s1 s2
  by_cases ho0 : o < 0
  case pos =>
    go_wp2_with fail
    refine (AW.out _ (hR.next (LkS.bel L2))).mono ?_
    rintro e w9 ⟨rfl, hb⟩
    go_wp2
    go_ret
    exact ⟨rfl, bstep (LkS.bel L2) hb⟩
  by_cases ho1 : l.loss < o
  case pos =>
    go_wp2_with fail
    refine (AW.out _ (hR.next (LkS.bel L2))).mono ?_
    rintro e w9 ⟨rfl, hb⟩
    go_wp2
    go_ret
    exact ⟨rfl, bstep (LkS.bel L2) hb⟩
  have hl1000 := (head_of he).2.2.2.2.2
  have f1 := less_loss (x := o) he hx hy hz (by omega) (by omega)
  have f2 := no_loss he hx hy hz
  have f3 := all_loss he hx hy hz
  have f4 : o = 0 → Pl.arrives (withLoss l o) x y z = true := fun h => by rw [h]; exact f2
  clear f2
  rw [f3] at CT
  generalize Pl.arriveOf l x y z = pa at *
  generalize Pl.arrives l x y z = pb at *
  generalize Pl.arriveOf (withLoss l o) x y z = qa at *
  generalize Pl.arrives (withLoss l o) x y z = qb at *
  generalize Pl.arriveOf (withLoss l 1000) x y z = ra at *
  replace f1 := hid f1
  replace f4 := hid f4
  clear f3 hl1000
  go_wp2_with fail
  clear c0 c1 c2 c3 c4 c5 c6 s0 s1 s2
  refine (CA.out hn _ (hA.next (LkS.bel L2)) (hR.next (LkS.bel L2))).mono ?_
  rintro e w3 ⟨rfl, hb⟩
  have L3 := LkS.next L2 hb
  have S3 := S2.next hb
  clear L2 S2 CA hb
  have f := L3.1.free 4
  have L4 : LkS w w.heap.size (withLoss l o) A n c (w3.setCell ⟨w.heap.size, 4, none⟩ (.int .i64 o)) := ⟨L3.1.put 4 _, L3.2.setCell (Nat.le_refl _) _⟩
  have S4 := S3.far (p := ⟨w.heap.size, 4, none⟩) (by dsimp only; omega) (.int .i64 o)
  obtain ⟨c0, c1, c2, c3, c4, c5, c6⟩ := LkS.cells L3
  have s0 := S3.cell 0
  have s1 := S3.cell 1
  have s2 := S3.cell 2
  simp only [List.getElem?_toArray, List.getElem?_cons_zero, List.getElem?_cons_succ] at s0 s1 s2
  go_wp2_with fail
  generalize w3.setCell ⟨w.heap.size, 4, none⟩ (.int .i64 o) = w4 at *
  clear f L3 S3
  clear c0 c1 c2 c3 c4 c5 c6 s0 s1 s2
  refine (CO.out hn _ (hA.next (LkS.bel L4)) (hR.next (LkS.bel L4))).mono ?_
  rintro e w5 ⟨rfl, hb⟩
  have L5 := LkS.next L4 hb
  have S5 := S4.next hb
  clear L4 S4 CO hb
  have hcase : (pb = true ∧ qb = true ∧ qa = pa) ∨ (pb = false ∧ qb = true) ∨ (pb = false ∧ qb = false ∧ ¬ o = 0) := by
    cases pb with
    | true => exact .inl ⟨rfl, f1.out rfl⟩
    | false =>
      cases qb with
      | true => exact .inr (.inl ⟨rfl, rfl⟩)
      | false => exact .inr (.inr ⟨rfl, rfl, fun h => by have := f4.out h; cases this⟩)
  clear f1 f4
  have f := L5.1.free 4
  have L6 : LkS w w.heap.size (withLoss l 1000) A n c (w5.setCell ⟨w.heap.size, 4, none⟩ (.int .i64 1000)) := ⟨L5.1.put 4 _, L5.2.setCell (Nat.le_refl _) _⟩
  have S6 := S5.far (p := ⟨w.heap.size, 4, none⟩) (by dsimp only; omega) (.int .i64 1000)
  obtain ⟨c0, c1, c2, c3, c4, c5, c6⟩ := LkS.cells L5
  have s0 := S5.cell 0
  have s1 := S5.cell 1
  have s2 := S5.cell 2
  simp only [List.getElem?_toArray, List.getElem?_cons_zero, List.getElem?_cons_succ] at s0 s1 s2
  have d0 : (withLoss l o).d0 = l.d0 := rfl
  have d1 : (withLoss l o).d1 = l.d1 := rfl
  have d2 : (withLoss l o).v0 = l.v0 := rfl
  have d3 : (withLoss l o).v1 = l.v1 := rfl
  have d5 : (withLoss l o).seed = l.seed := rfl
  rw [d0] at c0
  rw [d1] at c1
  rw [d2] at c2
  rw [d3] at c3
  rw [d5] at c5
  clear d0 d1 d2 d3 d5
  rcases hcase with ⟨rfl, rfl, rfl⟩ | ⟨rfl, rfl⟩ | ⟨rfl, rfl, ho⟩
  · by_cases ho : o = 0
    · go_wp2_with fail
      clear c0 c1 c2 c3 c4 c5 c6 s0 s1 s2
      generalize w5.setCell ⟨w.heap.size, 4, none⟩ (.int .i64 1000) = w6 at *
      clear f L5 S5
      refine (CT.out hn _ (hA.next (LkS.bel L6)) (hR.next (LkS.bel L6))).mono ?_
      rintro e w7 ⟨rfl, hb⟩
      have L7 := LkS.next L6 hb
      clear L6 S6 CT hb
      go_wp2_with fail
      refine (AW.out _ (hR.next (LkS.bel L7))).mono ?_
      rintro e w9 ⟨rfl, hb⟩
      go_wp2
      go_ret
      exact ⟨rfl, bstep (LkS.bel L7) hb⟩
    · go_wp2_with fail
      clear c0 c1 c2 c3 c4 c5 c6 s0 s1 s2
      generalize w5.setCell ⟨w.heap.size, 4, none⟩ (.int .i64 1000) = w6 at *
      clear f L5 S5
      refine (CT.out hn _ (hA.next (LkS.bel L6)) (hR.next (LkS.bel L6))).mono ?_
      rintro e w7 ⟨rfl, hb⟩
      have L7 := LkS.next L6 hb
      clear L6 S6 CT hb
      go_wp2_with fail
      refine (AW.out _ (hR.next (LkS.bel L7))).mono ?_
      rintro e w9 ⟨rfl, hb⟩
      go_wp2
      go_ret
      exact ⟨rfl, bstep (LkS.bel L7) hb⟩
  · by_cases ho : o = 0
    · go_wp2_with fail
      clear c0 c1 c2 c3 c4 c5 c6 s0 s1 s2
      generalize w5.setCell ⟨w.heap.size, 4, none⟩ (.int .i64 1000) = w6 at *
      clear f L5 S5
      refine (CT.out hn _ (hA.next (LkS.bel L6)) (hR.next (LkS.bel L6))).mono ?_
      rintro e w7 ⟨rfl, hb⟩
      have L7 := LkS.next L6 hb
      clear L6 S6 CT hb
      go_wp2_with fail
      refine (AW.out _ (hR.next (LkS.bel L7))).mono ?_
      rintro e w9 ⟨rfl, hb⟩
      go_wp2
      go_ret
      exact ⟨rfl, bstep (LkS.bel L7) hb⟩
    · go_wp2_with fail
      clear c0 c1 c2 c3 c4 c5 c6 s0 s1 s2
      generalize w5.setCell ⟨w.heap.size, 4, none⟩ (.int .i64 1000) = w6 at *
      clear f L5 S5
      refine (CT.out hn _ (hA.next (LkS.bel L6)) (hR.next (LkS.bel L6))).mono ?_
      rintro e w7 ⟨rfl, hb⟩
      have L7 := LkS.next L6 hb
      clear L6 S6 CT hb
      go_wp2_with fail
      refine (AW.out _ (hR.next (LkS.bel L7))).mono ?_
      rintro e w9 ⟨rfl, hb⟩
      go_wp2
      go_ret
      exact ⟨rfl, bstep (LkS.bel L7) hb⟩
  · go_wp2_with fail
    clear c0 c1 c2 c3 c4 c5 c6 s0 s1 s2
    generalize w5.setCell ⟨w.heap.size, 4, none⟩ (.int .i64 1000) = w6 at *
    clear f L5 S5
    refine (CT.out hn _ (hA.next (LkS.bel L6)) (hR.next (LkS.bel L6))).mono ?_
    rintro e w7 ⟨rfl, hb⟩
    have L7 := LkS.next L6 hb
    clear L6 S6 CT hb
    go_wp2_with fail
    refine (AW.out _ (hR.next (LkS.bel L7))).mono ?_
    rintro e w9 ⟨rfl, hb⟩
    go_wp2
    go_ret
    exact ⟨rfl, bstep (LkS.bel L7) hb⟩
end Go.Proofs.YtjeojnlkjecojaaDoor
