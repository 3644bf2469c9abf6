/- The contracts of Delay and Asymmetry of package link and of its reference. -/
import Derived.Test.YtjeojnlkjecojaaDoorLinkC5
namespace Go.Proofs.YtjeojnlkjecojaaDoor
open Go Go.RowKit
theorem LkS.bel {W w : World} {g n c : Nat} {l : Pl.Lk} {A : Option Addr} (h : LkS W g l A n c w) : Below W.heap.size W w := h.2
theorem delayOf_bad {l : Pl.Lk} {dir at_ : Int} (h : ¬ Pl.errOf l = 0 ∨ Pl.okDir dir = false ∨ Pl.okAt at_ = false) : Pl.delayOf l dir at_ = 0 := by
  unfold Pl.delayOf
  rw [if_neg]
  rintro ⟨h0, h1, h2⟩
  rcases h with h | h | h
  · exact h h0
  · rw [h1] at h; cases h
  · rw [h2] at h; cases h
theorem delayOf_good {l : Pl.Lk} {dir at_ : Int} (h0 : Pl.errOf l = 0) (h1 : Pl.okDir dir = true) (h2 : Pl.okAt at_ = true) : Pl.delayOf l dir at_ = Pl.nowOf (Pl.dBase l dir) dir at_ l.ch := by
  unfold Pl.delayOf; rw [if_pos ⟨h0, h1, h2⟩]
theorem idx2_0 (a b : Int) (w : World) : (Instr.index 22 (.agg #[.int .i64 a, .int .i64 b]) (.int .i64 0)).run Tryd.prog w = .ok (.int .i64 a) w := by kernel_rfl
theorem idx2_1 (a b : Int) (w : World) : (Instr.index 22 (.agg #[.int .i64 a, .int .i64 b]) (.int .i64 1)).run Tryd.prog w = .ok (.int .i64 b) w := by kernel_rfl
theorem okDir_of {dir : Int} (h : Pl.okDir dir = true) : dir = 0 ∨ dir = 1 := by
  have := Pl.inR_true.1 h; omega
set_option maxHeartbeats 1000000 in
theorem delay_any (l : Pl.Lk) (A : Option Addr) (c : Nat) (dir at_ : Int) (w : World) (hA : IsCh w A l.ch) (hn : l.ch.length ≤ 100) :
    Calls Tryd.prog 15 #[.agg (lkCells l A l.ch.length c), .int .i64 dir, .int .i64 at_] w fun e w' => e = .returned (.int .i64 (Pl.delayOf l dir at_)) ∧ Below w.heap.size w w' := by
  have L0 : LkS w w.heap.size l A l.ch.length c (w.alloc (.cells (lkCells l A l.ch.length c) 26)) := ⟨Bk.new _ _ _, (Below.refl w.heap.size w).alloc (Nat.le_refl _) _⟩
  have CK := fun w hA => check_any l A c w hA hn
  generalize hN : l.ch.length = n at *
  replace hN := hid hN
  replace CK := hid CK
  generalize hE : Pl.errOf l = ev at *
  replace hE := hid hE
  unfold lkCells at *
  obtain ⟨c0, c1, c2, c3, c4, c5, c6⟩ := LkS.cells L0
  go_enter Tryd.func15, Tryd.ntmps15
  go_wp2_with fail
  clear c0 c1 c2 c3 c4 c5 c6
  generalize w.alloc (.cells #[.int .i64 l.d0, .int .i64 l.d1, .int .i64 l.v0, .int .i64 l.v1, .int .i64 l.loss, .int .u64 l.seed, .slice A n c] 26) = w0 at *
  refine (CK.out _ (hA.next (LkS.bel L0))).mono ?_
  rintro e w1 ⟨rfl, hb⟩
  have L1 := LkS.next L0 hb
  clear hb L0 CK
  by_cases ho : ev = 0
  case neg =>
    go_wp2
    go_ret
    exact ⟨ret_int (delayOf_bad (.inl (by rw [hE.out]; exact ho))).symm, L1.2⟩
  subst ho
  go_wp2_with fail
  have hdirC := isDir_any dir w1
  cases hdir : Pl.okDir dir
  case false =>
    rw [hdir] at hdirC
    refine hdirC.mono ?_
    rintro e w2 ⟨rfl, rfl⟩
    clear hdirC
    go_wp2
    go_ret
    exact ⟨ret_int (delayOf_bad (.inr (.inl hdir))).symm, L1.2⟩
  rw [hdir] at hdirC
  refine hdirC.mono ?_
  rintro e w2 ⟨rfl, rfl⟩
  clear hdirC
  go_wp2_with fail
  have hatC := isTime_any at_ w1
  cases hat : Pl.okAt at_
  case false =>
    rw [hat] at hatC
    refine hatC.mono ?_
    rintro e w2 ⟨rfl, rfl⟩
    clear hatC
    go_wp2
    go_ret
    exact ⟨ret_int (delayOf_bad (.inr (.inr hat))).symm, L1.2⟩
  rw [hat] at hatC
  refine hatC.mono ?_
  rintro e w2 ⟨rfl, rfl⟩
  clear hatC
  have CD := fun w hA => delays_any l A c at_ w hA hE.out
  unfold lkCells at CD
  rw [hN.out] at CD
  have hg := delayOf_good hE.out hdir hat
  obtain ⟨c0, c1, c2, c3, c4, c5, c6⟩ := LkS.cells L1
  rcases okDir_of hdir with rfl | rfl
  · replace CD := hid CD
    go_wp2_with fail
    clear c0 c1 c2 c3 c4 c5 c6
    refine (CD.out _ (hA.next (LkS.bel L1))).mono ?_
    rintro e w2 ⟨rfl, hb⟩
    have i0 := idx2_0 (Pl.nowOf l.d0 0 at_ l.ch) (Pl.nowOf l.d1 1 at_ l.ch)
    go_wp2
    go_ret
    exact ⟨ret_int hg.symm, bstep L1.2 hb⟩
  · replace CD := hid CD
    go_wp2_with fail
    clear c0 c1 c2 c3 c4 c5 c6
    refine (CD.out _ (hA.next (LkS.bel L1))).mono ?_
    rintro e w2 ⟨rfl, hb⟩
    have i0 := idx2_1 (Pl.nowOf l.d0 0 at_ l.ch) (Pl.nowOf l.d1 1 at_ l.ch)
    go_wp2
    go_ret
    exact ⟨ret_int hg.symm, bstep L1.2 hb⟩
set_option maxHeartbeats 1000000 in
theorem refDelay_any (l : Pl.Lk) (A : Option Addr) (c : Nat) (dir at_ : Int) (w : World) (hA : IsCh w A l.ch) (hn : l.ch.length ≤ 100) :
    Calls Tryd.prog 16 #[.agg (lkCells l A l.ch.length c), .int .i64 dir, .int .i64 at_] w fun e w' => e = .returned (.int .i64 (Pl.delayOf l dir at_)) ∧ Below w.heap.size w w' := by
  have L0 : LkS w w.heap.size l A l.ch.length c (w.alloc (.cells (lkCells l A l.ch.length c) 26)) := ⟨Bk.new _ _ _, (Below.refl w.heap.size w).alloc (Nat.le_refl _) _⟩
  have CK := fun w hA => refCheck_any l A c w hA hn
  generalize hN : l.ch.length = n at *
  replace hN := hid hN
  replace CK := hid CK
  generalize hE : Pl.errOf l = ev at *
  replace hE := hid hE
  unfold lkCells at *
  obtain ⟨c0, c1, c2, c3, c4, c5, c6⟩ := LkS.cells L0
  go_enter Tryd.func16, Tryd.ntmps16
  go_wp2_with fail
  clear c0 c1 c2 c3 c4 c5 c6
  generalize w.alloc (.cells #[.int .i64 l.d0, .int .i64 l.d1, .int .i64 l.v0, .int .i64 l.v1, .int .i64 l.loss, .int .u64 l.seed, .slice A n c] 26) = w0 at *
  refine (CK.out _ (hA.next (LkS.bel L0))).mono ?_
  rintro e w1 ⟨rfl, hb⟩
  have L1 := LkS.next L0 hb
  clear hb L0 CK
  by_cases ho : ev = 0
  case neg =>
    go_wp2
    go_ret
    exact ⟨ret_int (delayOf_bad (.inl (by rw [hE.out]; exact ho))).symm, L1.2⟩
  subst ho
  go_wp2_with fail
  have hdirC := refRight_any dir 1 w1
  cases hdir : Pl.inR dir 1
  case false =>
    rw [hdir] at hdirC
    refine hdirC.mono ?_
    rintro e w2 ⟨rfl, rfl⟩
    clear hdirC
    go_wp2
    go_ret
    exact ⟨ret_int (delayOf_bad (.inr (.inl hdir))).symm, L1.2⟩
  rw [hdir] at hdirC
  refine hdirC.mono ?_
  rintro e w2 ⟨rfl, rfl⟩
  clear hdirC
  go_wp2_with fail
  have hatC := refRight_any at_ 1125899906842624 w1
  cases hat : Pl.inR at_ 1125899906842624
  case false =>
    rw [hat] at hatC
    refine hatC.mono ?_
    rintro e w2 ⟨rfl, rfl⟩
    clear hatC
    go_wp2
    go_ret
    exact ⟨ret_int (delayOf_bad (.inr (.inr hat))).symm, L1.2⟩
  rw [hat] at hatC
  refine hatC.mono ?_
  rintro e w2 ⟨rfl, rfl⟩
  clear hatC
  have hg := delayOf_good hE.out hdir hat
  obtain ⟨c0, c1, c2, c3, c4, c5, c6⟩ := LkS.cells L1
  rcases okDir_of hdir with rfl | rfl
  · have hb0 : Pl.dBase l 0 = l.d0 := rfl
    rw [hb0] at hg
    clear hb0
    go_wp2_with fail
    clear c0 c1 c2 c3 c4 c5 c6
    go_loopw [7, 8] (fun p i wr => ∃ k : Nat, i = .int .i64 k ∧ k ≤ n ∧ LkS w w.heap.size l A n c wr ∧ p = .int .i64 (Pl.nowOf l.d0 0 at_ (l.ch.take k))) (fun _ i _ => n - (intOf i).toNat)
    case atStart => exact ⟨0, rfl, Nat.zero_le _, L1, rfl⟩
    case round =>
      obtain ⟨k, rfl, hk, Lr, rfl⟩ := hrel
      clear L1
      have c6 := (LkS.cells Lr).2.2.2.2.2.2
      by_cases hkn : k < n
      · have hkl : k < l.ch.length := by rw [hN.out]; exact hkn
        obtain ⟨⟨x, d, y⟩, hx⟩ : ∃ c, l.ch[k]? = some c := ⟨_, List.getElem?_eq_getElem hkl⟩
        rcases hA.row with h0 | ⟨b, off, rfl, hb, hcells⟩
        · omega
        have ht := Pl.nowOf_take hx l.d0 0 at_
        generalize Pl.nowOf l.d0 0 at_ (l.ch.take k) = p0 at *
        obtain ⟨e0, e1, e2⟩ := hcells k _ hx
        simp only at e0 e1 e2
        have Bw := Lr.2
        have f0 := (Bw.cell (p := ⟨b, off + k * 3, none⟩) hb).trans e0
        have f1 := (Bw.cell (p := ⟨b, off + k * 3 + 1, none⟩) hb).trans e1
        have f2 := (Bw.cell (p := ⟨b, off + k * 3 + 2, none⟩) hb).trans e2
        clear e0 e1 e2 Bw
        by_cases hxa : x ≤ at_
        · by_cases hd : d = 0
          · subst hd
            go_wp2
            go_roundw
            case rel =>
              exact ⟨k + 1, by simp, by omega, Lr, by rw [ht, upd_take ⟨hxa, rfl⟩]⟩
            case measure => simp [intOf]; omega
          · go_wp2
            go_roundw
            case rel =>
              exact ⟨k + 1, by simp, by omega, Lr, by rw [ht, upd_skip (fun h => hd h.2)]⟩
            case measure => simp [intOf]; omega
        · go_wp2
          go_roundw
          case rel =>
            exact ⟨k + 1, by simp, by omega, Lr, by rw [ht, upd_skip (fun h => hxa h.1)]⟩
          case measure => simp [intOf]; omega
      · have hkn2 : k = n := by omega
        subst hkn2
        rw [← hN.out, List.take_length]
        rw [← hN.out] at c6
        go_wp2
        go_ret
        exact ⟨ret_int hg.symm, Lr.2⟩
  · have hb0 : Pl.dBase l 1 = l.d1 := rfl
    rw [hb0] at hg
    clear hb0
    go_wp2_with fail
    clear c0 c1 c2 c3 c4 c5 c6
    go_loopw [7, 8] (fun p i wr => ∃ k : Nat, i = .int .i64 k ∧ k ≤ n ∧ LkS w w.heap.size l A n c wr ∧ p = .int .i64 (Pl.nowOf l.d1 1 at_ (l.ch.take k))) (fun _ i _ => n - (intOf i).toNat)
    case atStart => exact ⟨0, rfl, Nat.zero_le _, L1, rfl⟩
    case round =>
      obtain ⟨k, rfl, hk, Lr, rfl⟩ := hrel
      clear L1
      have c6 := (LkS.cells Lr).2.2.2.2.2.2
      by_cases hkn : k < n
      · have hkl : k < l.ch.length := by rw [hN.out]; exact hkn
        obtain ⟨⟨x, d, y⟩, hx⟩ : ∃ c, l.ch[k]? = some c := ⟨_, List.getElem?_eq_getElem hkl⟩
        rcases hA.row with h0 | ⟨b, off, rfl, hb, hcells⟩
        · omega
        have ht := Pl.nowOf_take hx l.d1 1 at_
        generalize Pl.nowOf l.d1 1 at_ (l.ch.take k) = p0 at *
        obtain ⟨e0, e1, e2⟩ := hcells k _ hx
        simp only at e0 e1 e2
        have Bw := Lr.2
        have f0 := (Bw.cell (p := ⟨b, off + k * 3, none⟩) hb).trans e0
        have f1 := (Bw.cell (p := ⟨b, off + k * 3 + 1, none⟩) hb).trans e1
        have f2 := (Bw.cell (p := ⟨b, off + k * 3 + 2, none⟩) hb).trans e2
        clear e0 e1 e2 Bw
        by_cases hxa : x ≤ at_
        · by_cases hd : d = 1
          · subst hd
            go_wp2
            go_roundw
            case rel =>
              exact ⟨k + 1, by simp, by omega, Lr, by rw [ht, upd_take ⟨hxa, rfl⟩]⟩
            case measure => simp [intOf]; omega
          · go_wp2
            go_roundw
            case rel =>
              exact ⟨k + 1, by simp, by omega, Lr, by rw [ht, upd_skip (fun h => hd h.2)]⟩
            case measure => simp [intOf]; omega
        · go_wp2
          go_roundw
          case rel =>
            exact ⟨k + 1, by simp, by omega, Lr, by rw [ht, upd_skip (fun h => hxa h.1)]⟩
          case measure => simp [intOf]; omega
      · have hkn2 : k = n := by omega
        subst hkn2
        rw [← hN.out, List.take_length]
        rw [← hN.out] at c6
        go_wp2
        go_ret
        exact ⟨ret_int hg.symm, Lr.2⟩
end Go.Proofs.YtjeojnlkjecojaaDoor
