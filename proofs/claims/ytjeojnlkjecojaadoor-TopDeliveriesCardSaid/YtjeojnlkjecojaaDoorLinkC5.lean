/- The delays of both directions of a valid link. -/
import Derived.Test.YtjeojnlkjecojaaDoorLinkC4
namespace Go.Proofs.YtjeojnlkjecojaaDoor
open Go Go.RowKit
theorem upd_skip {dir at_ base x d y : Int} (h : ¬ (x ≤ at_ ∧ d = dir)) : Pl.upd dir at_ base (x, d, y) = base := by unfold Pl.upd; rw [if_neg h]
theorem upd_take {dir at_ base x d y : Int} (h : x ≤ at_ ∧ d = dir) : Pl.upd dir at_ base (x, d, y) = y := by unfold Pl.upd; rw [if_pos h]
theorem dir_of {l : Pl.Lk} {k : Nat} {x d y : Int} (ho : Pl.errOf l = 0) (hx : l.ch[k]? = some (x, d, y)) : (0 ≤ x ∧ x ≤ 1125899906842624) ∧ (d = 0 ∨ d = 1) ∧ 0 ≤ y ∧ y ≤ 10000000000 := by
  have h := List.all_eq_true.1 (Pl.ok_of ho).2.1 _ (List.mem_of_getElem? hx)
  unfold Pl.chgOk at h
  simp only [Bool.and_eq_true, Pl.inR_true] at h
  omega
set_option maxHeartbeats 1000000 in
theorem delays_any (l : Pl.Lk) (A : Option Addr) (c : Nat) (at_ : Int) (w : World) (hA : IsCh w A l.ch) (ho : Pl.errOf l = 0) :
    Calls Tryd.prog 36 #[.agg (lkCells l A l.ch.length c), .int .i64 at_] w fun e w' => e = .returned (.agg #[.int .i64 (Pl.nowOf l.d0 0 at_ l.ch), .int .i64 (Pl.nowOf l.d1 1 at_ l.ch)]) ∧ Below w.heap.size w w' := by
  have L0 : LkS w w.heap.size l A l.ch.length c (w.alloc (.cells (lkCells l A l.ch.length c) 26)) := ⟨Bk.new _ _ _, (Below.refl w.heap.size w).alloc (Nat.le_refl _) _⟩
  have L1 := (L0.next ((Below.refl _ _).alloc (Nat.le_refl _) (.cells #[.int .i64 0, .int .i64 0] 22)))
  have L2 := L1.next ((Below.refl _ _).alloc (Nat.le_refl _) (.cells #[.int .i64 l.d0, .int .i64 l.d1] 22))
  have R2 := (Bk.new (w.alloc (.cells (lkCells l A l.ch.length c) 26)) 22 #[.int .i64 0, .int .i64 0]).alloc (.cells #[.int .i64 l.d0, .int .i64 l.d1] 22)
  have K2 := Bk.new ((w.alloc (.cells (lkCells l A l.ch.length c) 26)).alloc (.cells #[.int .i64 0, .int .i64 0] 22)) 22 #[.int .i64 l.d0, .int .i64 l.d1]
  have hg1 : (w.alloc (.cells (lkCells l A l.ch.length c) 26)).heap.size = w.heap.size + 1 := by simp
  have hg2 : ((w.alloc (.cells (lkCells l A l.ch.length c) 26)).alloc (.cells #[.int .i64 0, .int .i64 0] 22)).heap.size = w.heap.size + 1 + 1 := by simp
  rw [hg1] at R2
  rw [hg2] at K2
  clear L0 L1 hg1 hg2
  have hn16 := (Pl.ok_of ho).2.2.1
  generalize hN : l.ch.length = n at *
  replace hN := hid hN
  unfold lkCells at *
  go_enter Tryd.func36, Tryd.ntmps36
  go_wp2_with fail
  generalize ((w.alloc (.cells #[.int .i64 l.d0, .int .i64 l.d1, .int .i64 l.v0, .int .i64 l.v1, .int .i64 l.loss, .int .u64 l.seed, .slice A n c] 26)).alloc (.cells #[.int .i64 0, .int .i64 0] 22)).alloc (.cells #[.int .i64 l.d0, .int .i64 l.d1] 22) = w2 at *
  go_loopw [13] (fun i wr => ∃ k : Nat, i = .int .i64 k ∧ k ≤ n ∧ LkS w w.heap.size l A n c wr ∧ Bk wr (w.heap.size + 1) 22 #[.int .i64 0, .int .i64 0] ∧ Bk wr (w.heap.size + 1 + 1) 22 #[.int .i64 (Pl.nowOf l.d0 0 at_ (l.ch.take k)), .int .i64 (Pl.nowOf l.d1 1 at_ (l.ch.take k))]) (fun i _ => n - (intOf i).toNat)
  case atStart => exact ⟨0, rfl, Nat.zero_le _, L2, R2, K2⟩
  case round =>
    obtain ⟨k, rfl, hk, Lr, Rr, Kr⟩ := hrel
    clear L2 R2 K2
    by_cases hkn : k < n
    · have hkl : k < l.ch.length := by rw [hN.out]; exact hkn
      obtain ⟨⟨x, d, y⟩, hx⟩ : ∃ c, l.ch[k]? = some c := ⟨_, List.getElem?_eq_getElem hkl⟩
      rcases hA.row with h0 | ⟨b, off, rfl, hb, hcells⟩
      · omega
      have ht0 := Pl.nowOf_take hx l.d0 0 at_
      have ht1 := Pl.nowOf_take hx l.d1 1 at_
      have hdd := (dir_of ho hx).2.1
      generalize Pl.nowOf l.d0 0 at_ (l.ch.take k) = p0 at *
      generalize Pl.nowOf l.d1 1 at_ (l.ch.take k) = p1 at *
      obtain ⟨e0, e1, e2⟩ := hcells k _ hx
      simp only at e0 e1 e2
      have Bw := Lr.2
      have f0 := (Bw.cell (p := ⟨b, off + k * 3, none⟩) hb).trans e0
      have f1 := (Bw.cell (p := ⟨b, off + k * 3 + 1, none⟩) hb).trans e1
      have f2 := (Bw.cell (p := ⟨b, off + k * 3 + 2, none⟩) hb).trans e2
      clear e0 e1 e2
      have hlt : w.heap.size + 1 + 1 < wr.heap.size := Kr.lt
      by_cases hxa : x ≤ at_
      · rcases hdd with rfl | rfl
        · have q0 := Kr.cell 0
          have fr0 := Kr.free 0
          simp only [List.getElem?_toArray, List.getElem?_cons_zero] at q0
          go_wp2
          go_roundw
          case rel =>
            refine ⟨k + 1, by simp, by omega, ⟨(Lr.1.far (by dsimp only; omega) _).alloc _, (Lr.2.setCell (by dsimp only; omega) _).alloc (by simp; omega) _⟩, (Rr.far (by dsimp only; omega) _).alloc _, ?_⟩
            rw [ht0, ht1, upd_take ⟨hxa, rfl⟩, upd_skip (by omega)]
            exact (Kr.put 0 _).alloc _
          case measure => simp [intOf]; omega
        · have q0 := Kr.cell 1
          have fr0 := Kr.free 1
          simp only [List.getElem?_toArray, List.getElem?_cons_zero, List.getElem?_cons_succ] at q0
          go_wp2
          go_roundw
          case rel =>
            refine ⟨k + 1, by simp, by omega, ⟨(Lr.1.far (by dsimp only; omega) _).alloc _, (Lr.2.setCell (by dsimp only; omega) _).alloc (by simp; omega) _⟩, (Rr.far (by dsimp only; omega) _).alloc _, ?_⟩
            rw [ht0, ht1, upd_skip (by omega), upd_take ⟨hxa, rfl⟩]
            exact (Kr.put 1 _).alloc _
          case measure => simp [intOf]; omega
      · go_wp2
        go_roundw
        case rel =>
          refine ⟨k + 1, by simp, by omega, Lr.next ((Below.refl _ _).alloc (Nat.le_refl _) _), Rr.alloc _, ?_⟩
          rw [ht0, ht1, upd_skip (fun h => hxa h.1), upd_skip (fun h => hxa h.1)]
          exact Kr.alloc _
        case measure => simp [intOf]; omega
    · have hkn2 : k = n := by omega
      subst hkn2
      rw [← hN.out, List.take_length] at Kr
      obtain ⟨q0, q1⟩ := Kr.two
      obtain ⟨r0, r1⟩ := Rr.two
      have fr0 := Rr.free 0
      have fr1 := Rr.free 1
      go_wp2
      refine bodyPost_ret (results_cell_row rfl _ _ (w.heap.size + 1) 22 #[.int .i64 (Pl.nowOf l.d0 0 at_ l.ch), .int .i64 (Pl.nowOf l.d1 1 at_ l.ch)] (0, 0) _ rfl ((Rr.put 0 _).put 1 _) Tryd.underlying22 rfl (by kernel_rfl)) rfl ⟨rfl, ?_⟩
      exact (Lr.2.setCell (by dsimp only; omega) _).setCell (by dsimp only; omega) _
end Go.Proofs.YtjeojnlkjecojaaDoor
