/- The walk of LinkArrives. -/
import Derived.Test.YtjeojnlkjecojaaDoorLinkLaw1
namespace Go.Proofs.YtjeojnlkjecojaaDoor
open Go Go.RowKit
set_option maxHeartbeats 1000000 in
theorem linkArrives_walk (l : Pl.Lk) (A : Option Addr) (c : Nat) (B : Option Addr) (c' : Nat) (xs : List Pl.Chg) (w : World) (hR : Rnd w) (hA : IsCh w A l.ch) (hB : IsCh w B xs) :
    Calls Tryd.prog 6 #[.agg (lkCells l A l.ch.length c), .slice B xs.length c'] w fun e w' => e = .returned (.bool true) ∧ Below w.heap.size w w' := by
  have L0 : LkS w w.heap.size l A l.ch.length c (w.alloc (.cells (lkCells l A l.ch.length c) 26)) := ⟨Bk.new _ _ _, (Below.refl w.heap.size w).alloc (Nat.le_refl _) _⟩
  have SM := fun w => small_any l A l.ch.length c w
  generalize hS : decide ((l.ch.length : Int) ≤ 100) = sm at *
  have AW := fun w hR => awake_any w hR
  have C0 := fun hn dir at_ m w hA hR => arrive_any l A c dir at_ m w hA hn hR
  have C1 := fun hn dir at_ m w hA => refArrive_any l A c dir at_ m w hA hn
  unfold arr at *
  generalize hN : l.ch.length = n at *
  generalize hX : xs.length = q at *
  replace hN := hid hN
  replace hX := hid hX
  replace SM := hid SM
  replace AW := hid AW
  replace C0 := hid C0
  replace C1 := hid C1
  unfold lkCells at *
  obtain ⟨c0, c1, c2, c3, c4, c5, c6⟩ := LkS.cells L0
  go_enter Tryd.func6, Tryd.ntmps6
  go_wp2_with fail
  clear c0 c1 c2 c3 c4 c5 c6
  generalize w.alloc (.cells #[.int .i64 l.d0, .int .i64 l.d1, .int .i64 l.v0, .int .i64 l.v1, .int .i64 l.loss, .int .u64 l.seed, .slice A n c] 26) = w0 at *
  refine (SM.out _).mono ?_
  rintro e w1 ⟨rfl, hb⟩
  have L1 := LkS.next L0 hb
  clear hb L0 SM
  cases sm
  case false =>
    go_wp2_with fail
    refine (AW.out _ (hR.next (LkS.bel L1))).mono ?_
    rintro e w2 ⟨rfl, hb⟩
    go_wp2
    go_ret
    exact ⟨rfl, bstep L1.2 hb⟩
  have hn : n ≤ 100 := by have := of_decide_eq_true hS; omega
  clear hS
  by_cases hq : 40 < q
  · have hq' : (40 : Int) < q := by omega
    go_wp2_with fail
    refine (AW.out _ (hR.next (LkS.bel L1))).mono ?_
    rintro e w2 ⟨rfl, hb⟩
    go_wp2
    go_ret
    exact ⟨rfl, bstep L1.2 hb⟩
  go_wp2
  go_loopw [5] (fun i wr => ∃ k : Nat, i = .int .i64 k ∧ k ≤ q ∧ LkS w w.heap.size l A n c wr) (fun i _ => q - (intOf i).toNat)
  case atStart => exact ⟨0, rfl, Nat.zero_le _, L1⟩
  case round =>
    obtain ⟨k, rfl, hk, Lr⟩ := hrel
    clear L1
    by_cases hkq : k < q
    · have hkl : k < xs.length := by rw [hX.out]; exact hkq
      obtain ⟨⟨x, d, y⟩, hx⟩ : ∃ c, xs[k]? = some c := ⟨_, List.getElem?_eq_getElem hkl⟩
      rcases hB.row with h0 | ⟨b, off, rfl, hb, hcells⟩
      · omega
      obtain ⟨e0, e1, e2⟩ := hcells k _ hx
      simp only at e0 e1 e2
      clear hcells hx hkl
      replace C0 := C0.out hn x d y
      replace C1 := C1.out hn x d y
      generalize Pl.arriveOf l x d y = pa at *
      generalize Pl.arrives l x d y = pb at *
      replace C0 := hid C0
      replace C1 := hid C1
      replace hn := hid hn
      go_wp2_with fail
      refine region_class (fun w' => LkS w w.heap.size l A n c w') (by kernel_rfl) (by kernel_rfl) (LkS.drew Lr) ?_
      clear Lr
      repeat
        first
        | (refine BigFrame.wpQuiet_skip (by rfl) ?_
           simp only [Act.put, List.setIfInBounds_toArray, List.set_cons_zero, List.set_cons_succ])
        | (refine class_want (by rfl) ?_
           apply Exists.intro
           refine ⟨fun w1 h1 => ?_, ?_⟩
           focus
             obtain ⟨c0, c1, c2, c3, c4, c5, c6⟩ := LkS.cells h1
             have f0 := (h1.2.cell (p := ⟨b, off + k * 3, none⟩) hb).trans e0
             have f1 := (h1.2.cell (p := ⟨b, off + k * 3 + 1, none⟩) hb).trans e1
             have f2 := (h1.2.cell (p := ⟨b, off + k * 3 + 2, none⟩) hb).trans e2
             unfold Oper.quietAt Oper.quietUpon
             go_simp
             first
             | exact rfl
             | (with_reducible refine (C0.out _ (hA.next (LkS.bel h1)) (hR.next (LkS.bel h1))).mono ?_
                rintro e w2 ⟨rfl, hb2⟩
                exact ⟨rfl, LkS.next h1 hb2⟩)
           simp only [Act.put, List.setIfInBounds_toArray, List.set_cons_zero, List.set_cons_succ])
      refine wpQuiet_nil ?_
      intro w3 L3
      go_wp2_with fail
      refine region_class (fun w' => LkS w w.heap.size l A n c w') (by kernel_rfl) (by kernel_rfl) (LkS.drew L3) ?_
      clear L3
      repeat
        first
        | (refine BigFrame.wpQuiet_skip (by rfl) ?_
           simp only [Act.put, List.setIfInBounds_toArray, List.set_cons_zero, List.set_cons_succ])
        | (refine class_want (by rfl) ?_
           apply Exists.intro
           refine ⟨fun w1 h1 => ?_, ?_⟩
           focus
             obtain ⟨c0, c1, c2, c3, c4, c5, c6⟩ := LkS.cells h1
             have f0 := (h1.2.cell (p := ⟨b, off + k * 3, none⟩) hb).trans e0
             have f1 := (h1.2.cell (p := ⟨b, off + k * 3 + 1, none⟩) hb).trans e1
             have f2 := (h1.2.cell (p := ⟨b, off + k * 3 + 2, none⟩) hb).trans e2
             unfold Oper.quietAt Oper.quietUpon
             go_simp
             first
             | exact rfl
             | (with_reducible refine (C1.out _ (hA.next (LkS.bel h1))).mono ?_
                rintro e w2 ⟨rfl, hb2⟩
                exact ⟨rfl, LkS.next h1 hb2⟩)
           simp only [Act.put, List.setIfInBounds_toArray, List.set_cons_zero, List.set_cons_succ])
      refine wpQuiet_nil ?_
      intro w4 L4
      go_wp2
      go_roundw
      case rel => exact ⟨k + 1, by simp, by omega, L4⟩
      case measure => simp [intOf]; omega
    · go_wp2_with fail
      refine (AW.out _ (hR.next (LkS.bel Lr))).mono ?_
      rintro e w2 ⟨rfl, hb⟩
      go_wp2
      go_ret
      exact ⟨rfl, bstep Lr.2 hb⟩
end Go.Proofs.YtjeojnlkjecojaaDoor
