/- The contracts of Bounds of package link and of its reference. -/
import Derived.Test.YtjeojnlkjecojaaDoorLinkC9
namespace Go.Proofs.YtjeojnlkjecojaaDoor
open Go Go.RowKit
def bLo (l : Pl.Lk) (dir : Int) : Int := if Pl.errOf l = 0 ∧ Pl.okDir dir = true then Pl.loOf (Pl.dBase l dir) dir l.ch else 0
def bHi (l : Pl.Lk) (dir : Int) : Int := if Pl.errOf l = 0 ∧ Pl.okDir dir = true then Pl.hiOf (Pl.dBase l dir) dir l.ch + Pl.vBase l dir else 0
def bnd (l : Pl.Lk) (dir : Int) : Value := .agg #[.int .i64 (bLo l dir), .int .i64 (bHi l dir)]
theorem bnd_bad {l : Pl.Lk} {dir : Int} (h : ¬ Pl.errOf l = 0 ∨ Pl.okDir dir = false) : Ending.returned (.agg #[.int .i64 0, .int .i64 0]) = .returned (bnd l dir) := by
  unfold bnd bLo bHi
  rw [if_neg, if_neg]
  · rintro ⟨h0, h1⟩
    rcases h with h | h
    · exact h h0
    · rw [h1] at h; cases h
  · rintro ⟨h0, h1⟩
    rcases h with h | h
    · exact h h0
    · rw [h1] at h; cases h
theorem bnd_good {l : Pl.Lk} {dir : Int} (h0 : Pl.errOf l = 0) (h1 : Pl.okDir dir = true) : Ending.returned (.agg #[.int .i64 (Pl.loOf (Pl.dBase l dir) dir l.ch), .int .i64 (Pl.hiOf (Pl.dBase l dir) dir l.ch + Pl.vBase l dir)]) = .returned (bnd l dir) := by
  unfold bnd bLo bHi
  rw [if_pos ⟨h0, h1⟩, if_pos ⟨h0, h1⟩]
theorem hi_range (dir : Int) : ∀ (cs : List Pl.Chg) (base : Int), cs.all Pl.chgOk = true → 0 ≤ base ∧ base ≤ 10000000000 → 0 ≤ Pl.hiOf base dir cs ∧ Pl.hiOf base dir cs ≤ 10000000000
  | [], base, _, hb => hb
  | (x, d, y) :: cs, base, h, hb => by
    rw [List.all_cons, Bool.and_eq_true] at h
    refine hi_range dir cs (if d = dir then max base y else base) h.2 ?_
    have h1 := h.1
    unfold Pl.chgOk at h1
    simp only [Bool.and_eq_true, Pl.inR_true] at h1
    split <;> omega
set_option maxHeartbeats 1000000 in
theorem bounds_any (l : Pl.Lk) (A : Option Addr) (c : Nat) (dir : Int) (w : World) (hA : IsCh w A l.ch) (hn : l.ch.length ≤ 100) :
    Calls Tryd.prog 21 #[.agg (lkCells l A l.ch.length c), .int .i64 dir] w fun e w' => e = .returned (bnd l dir) ∧ Below w.heap.size w w' := by
  have LA : LkS w w.heap.size l A l.ch.length c (w.alloc (.cells (lkCells l A l.ch.length c) 26)) := ⟨Bk.new _ _ _, (Below.refl w.heap.size w).alloc (Nat.le_refl _) _⟩
  have L0 := LA.next ((Below.refl _ _).alloc (Nat.le_refl _) (.cells #[.int .i64 0, .int .i64 0] 35))
  have R0 := Bk.new (w.alloc (.cells (lkCells l A l.ch.length c) 26)) 35 #[.int .i64 0, .int .i64 0]
  have hg1 : (w.alloc (.cells (lkCells l A l.ch.length c) 26)).heap.size = w.heap.size + 1 := by simp
  rw [hg1] at R0
  clear LA hg1
  have CK := fun w hA => check_any l A c w hA hn
  generalize hN : l.ch.length = n at *
  replace hN := hid hN
  replace CK := hid CK
  generalize hE : Pl.errOf l = ev at *
  replace hE := hid hE
  unfold lkCells at *
  obtain ⟨c0, c1, c2, c3, c4, c5, c6⟩ := LkS.cells L0
  go_enter Tryd.func21, Tryd.ntmps21
  go_wp2_with fail
  clear c0 c1 c2 c3 c4 c5 c6
  generalize (w.alloc (.cells #[.int .i64 l.d0, .int .i64 l.d1, .int .i64 l.v0, .int .i64 l.v1, .int .i64 l.loss, .int .u64 l.seed, .slice A n c] 26)).alloc (.cells #[.int .i64 0, .int .i64 0] 35) = w0 at *
  refine (CK.out _ (hA.next (LkS.bel L0))).mono ?_
  rintro e w1 ⟨rfl, hb⟩
  have L1 := LkS.next L0 hb
  have R1 := R0.next hb
  clear hb L0 CK R0
  by_cases ho : ev = 0
  case neg =>
    obtain ⟨q0, q1⟩ := R1.two
    have r0 := R1.free 0
    have r1 := R1.free 1
    go_wp2
    refine bodyPost_ret (results_cell_row rfl _ _ (w.heap.size + 1) 35 #[.int .i64 0, .int .i64 0] (0, 0) _ rfl ((R1.put 0 _).put 1 _) Tryd.underlying35 rfl (by kernel_rfl)) rfl ⟨bnd_bad (.inl (by rw [hE.out]; exact ho)), ?_⟩
    exact (L1.2.setCell (by dsimp only; omega) _).setCell (by dsimp only; omega) _
  subst ho
  go_wp2_with fail
  have GC := isDir_any dir w1
  cases hdir : Pl.okDir dir
  case false =>
    rw [hdir] at GC
    refine GC.mono ?_
    rintro e w2 ⟨rfl, rfl⟩
    clear GC
    obtain ⟨q0, q1⟩ := R1.two
    have r0 := R1.free 0
    have r1 := R1.free 1
    go_wp2
    refine bodyPost_ret (results_cell_row rfl _ _ (w.heap.size + 1) 35 #[.int .i64 0, .int .i64 0] (0, 0) _ rfl ((R1.put 0 _).put 1 _) Tryd.underlying35 rfl (by kernel_rfl)) rfl ⟨bnd_bad (.inr hdir), ?_⟩
    exact (L1.2.setCell (by dsimp only; omega) _).setCell (by dsimp only; omega) _
  rw [hdir] at GC
  refine GC.mono ?_
  rintro e w2 ⟨rfl, rfl⟩
  clear GC
  have hy := bnd_good hE.out hdir
  obtain ⟨⟨d0a, d0b⟩, ⟨d1a, d1b⟩, ⟨v0a, v0b⟩, ⟨v1a, v1b⟩, _, _⟩ := head_of hE.out
  have hch := (Pl.ok_of hE.out).2.1
  obtain ⟨c0, c1, c2, c3, c4, c5, c6⟩ := LkS.cells L1
  rcases okDir_of hdir with rfl | rfl
  · have hb0 : Pl.dBase l 0 = l.d0 := rfl
    have hv0 : Pl.vBase l 0 = l.v0 := rfl
    rw [hb0, hv0] at hy
    replace hy := hid hy
    clear hb0 hv0
    go_wp2_with fail
    go_quiet (fail)
    have L2 := LkS.drewN L1 nq
    have R2 := Bk.drewN R1 nq
    clear L1 R1
    go_wp2_with fail
    generalize w1.drewN nq = w2 at *
    clear c0 c1 c2 c3 c4 c5 c6
    go_loopw [5, 6, 29] (fun p q i wr => ∃ k : Nat, i = .int .i64 k ∧ k ≤ n ∧ LkS w w.heap.size l A n c wr ∧ Bk wr (w.heap.size + 1) 35 #[.int .i64 0, .int .i64 0] ∧ p = .int .i64 (Pl.loOf l.d0 0 (l.ch.take k)) ∧ q = .int .i64 (Pl.hiOf l.d0 0 (l.ch.take k))) (fun _ _ i _ => n - (intOf i).toNat)
    case atStart => exact ⟨0, rfl, Nat.zero_le _, L2, R2, rfl, rfl⟩
    case round =>
      obtain ⟨k, rfl, hk, Lr, Rr, rfl, rfl⟩ := hrel
      clear L2 R2
      obtain ⟨c0, c1, c2, c3, c4, c5, c6⟩ := LkS.cells Lr
      by_cases hkn : k < n
      · have hkl : k < l.ch.length := by rw [hN.out]; exact hkn
        obtain ⟨⟨x, d, y⟩, hx⟩ : ∃ c, l.ch[k]? = some c := ⟨_, List.getElem?_eq_getElem hkl⟩
        rcases hA.row with h0 | ⟨b, off, rfl, hb, hcells⟩
        · omega
        have ht := Pl.loOf_take hx l.d0 0
        have hu := Pl.hiOf_take hx l.d0 0
        generalize Pl.loOf l.d0 0 (l.ch.take k) = p0 at *
        generalize Pl.hiOf l.d0 0 (l.ch.take k) = q0 at *
        obtain ⟨e0, e1, e2⟩ := hcells k _ hx
        simp only at e0 e1 e2 ht hu
        have Bw := Lr.2
        have f0 := (Bw.cell (p := ⟨b, off + k * 3, none⟩) hb).trans e0
        have f1 := (Bw.cell (p := ⟨b, off + k * 3 + 1, none⟩) hb).trans e1
        have f2 := (Bw.cell (p := ⟨b, off + k * 3 + 2, none⟩) hb).trans e2
        clear e0 e1 e2 Bw
        by_cases hd : d = 0
        · subst hd
          rw [if_pos rfl] at ht hu
          replace ht := hid ht
          replace hu := hid hu
          go_wp2
          go_roundw
          case rel =>
            refine ⟨k + 1, by simp, by omega, Lr.next ((Below.refl _ _).alloc (Nat.le_refl _) _), Rr.alloc _, ?_, ?_⟩
            · rw [ht.out]; congr 1; split <;> omega
            · rw [hu.out]; congr 1; split <;> omega
          case measure => simp [intOf]; omega
        · rw [if_neg hd] at ht hu
          replace ht := hid ht
          replace hu := hid hu
          go_wp2
          go_roundw
          case rel =>
            exact ⟨k + 1, by simp, by omega, Lr.next ((Below.refl _ _).alloc (Nat.le_refl _) _), Rr.alloc _, by rw [ht.out], by rw [hu.out]⟩
          case measure => simp [intOf]; omega
      · have hkn2 : k = n := by omega
        subst hkn2
        have hlk : l.ch.take k = l.ch := by rw [← hN.out, List.take_length]
        rw [hlk]
        obtain ⟨rh0, rh1⟩ := hi_range 0 l.ch l.d0 hch (by omega)
        generalize Pl.loOf l.d0 0 l.ch = p0 at *
        generalize Pl.hiOf l.d0 0 l.ch = q0 at *
        obtain ⟨z0, z1⟩ := Rr.two
        have r0 := Rr.free 0
        have r1 := Rr.free 1
        go_wp2
        refine bodyPost_ret (results_cell_row rfl _ _ (w.heap.size + 1) 35 #[.int .i64 p0, .int .i64 (q0 + l.v0)] (0, 0) _ rfl ((Rr.put 0 _).put 1 _) Tryd.underlying35 rfl (by kernel_rfl)) rfl ⟨hy.out, ?_⟩
        exact (Lr.2.setCell (by dsimp only; omega) _).setCell (by dsimp only; omega) _
  · have hb0 : Pl.dBase l 1 = l.d1 := rfl
    have hv0 : Pl.vBase l 1 = l.v1 := rfl
    rw [hb0, hv0] at hy
    replace hy := hid hy
    clear hb0 hv0
    go_wp2_with fail
    go_quiet (fail)
    have L2 := LkS.drewN L1 nq
    have R2 := Bk.drewN R1 nq
    clear L1 R1
    go_wp2_with fail
    generalize w1.drewN nq = w2 at *
    clear c0 c1 c2 c3 c4 c5 c6
    go_loopw [5, 6, 29] (fun p q i wr => ∃ k : Nat, i = .int .i64 k ∧ k ≤ n ∧ LkS w w.heap.size l A n c wr ∧ Bk wr (w.heap.size + 1) 35 #[.int .i64 0, .int .i64 0] ∧ p = .int .i64 (Pl.loOf l.d1 1 (l.ch.take k)) ∧ q = .int .i64 (Pl.hiOf l.d1 1 (l.ch.take k))) (fun _ _ i _ => n - (intOf i).toNat)
    case atStart => exact ⟨0, rfl, Nat.zero_le _, L2, R2, rfl, rfl⟩
    case round =>
      obtain ⟨k, rfl, hk, Lr, Rr, rfl, rfl⟩ := hrel
      clear L2 R2
      obtain ⟨c0, c1, c2, c3, c4, c5, c6⟩ := LkS.cells Lr
      by_cases hkn : k < n
      · have hkl : k < l.ch.length := by rw [hN.out]; exact hkn
        obtain ⟨⟨x, d, y⟩, hx⟩ : ∃ c, l.ch[k]? = some c := ⟨_, List.getElem?_eq_getElem hkl⟩
        rcases hA.row with h0 | ⟨b, off, rfl, hb, hcells⟩
        · omega
        have ht := Pl.loOf_take hx l.d1 1
        have hu := Pl.hiOf_take hx l.d1 1
        generalize Pl.loOf l.d1 1 (l.ch.take k) = p0 at *
        generalize Pl.hiOf l.d1 1 (l.ch.take k) = q0 at *
        obtain ⟨e0, e1, e2⟩ := hcells k _ hx
        simp only at e0 e1 e2 ht hu
        have Bw := Lr.2
        have f0 := (Bw.cell (p := ⟨b, off + k * 3, none⟩) hb).trans e0
        have f1 := (Bw.cell (p := ⟨b, off + k * 3 + 1, none⟩) hb).trans e1
        have f2 := (Bw.cell (p := ⟨b, off + k * 3 + 2, none⟩) hb).trans e2
        clear e0 e1 e2 Bw
        by_cases hd : d = 1
        · subst hd
          rw [if_pos rfl] at ht hu
          replace ht := hid ht
          replace hu := hid hu
          go_wp2
          go_roundw
          case rel =>
            refine ⟨k + 1, by simp, by omega, Lr.next ((Below.refl _ _).alloc (Nat.le_refl _) _), Rr.alloc _, ?_, ?_⟩
            · rw [ht.out]; congr 1; split <;> omega
            · rw [hu.out]; congr 1; split <;> omega
          case measure => simp [intOf]; omega
        · rw [if_neg hd] at ht hu
          replace ht := hid ht
          replace hu := hid hu
          go_wp2
          go_roundw
          case rel =>
            exact ⟨k + 1, by simp, by omega, Lr.next ((Below.refl _ _).alloc (Nat.le_refl _) _), Rr.alloc _, by rw [ht.out], by rw [hu.out]⟩
          case measure => simp [intOf]; omega
      · have hkn2 : k = n := by omega
        subst hkn2
        have hlk : l.ch.take k = l.ch := by rw [← hN.out, List.take_length]
        rw [hlk]
        obtain ⟨rh0, rh1⟩ := hi_range 1 l.ch l.d1 hch (by omega)
        generalize Pl.loOf l.d1 1 l.ch = p0 at *
        generalize Pl.hiOf l.d1 1 l.ch = q0 at *
        obtain ⟨z0, z1⟩ := Rr.two
        have r0 := Rr.free 0
        have r1 := Rr.free 1
        go_wp2
        refine bodyPost_ret (results_cell_row rfl _ _ (w.heap.size + 1) 35 #[.int .i64 p0, .int .i64 (q0 + l.v1)] (0, 0) _ rfl ((Rr.put 0 _).put 1 _) Tryd.underlying35 rfl (by kernel_rfl)) rfl ⟨hy.out, ?_⟩
        exact (Lr.2.setCell (by dsimp only; omega) _).setCell (by dsimp only; omega) _
set_option maxHeartbeats 1000000 in
theorem refBounds_any (l : Pl.Lk) (A : Option Addr) (c : Nat) (dir : Int) (w : World) (hA : IsCh w A l.ch) (hn : l.ch.length ≤ 100) :
    Calls Tryd.prog 22 #[.agg (lkCells l A l.ch.length c), .int .i64 dir] w fun e w' => e = .returned (bnd l dir) ∧ Below w.heap.size w w' := by
  have LA : LkS w w.heap.size l A l.ch.length c (w.alloc (.cells (lkCells l A l.ch.length c) 26)) := ⟨Bk.new _ _ _, (Below.refl w.heap.size w).alloc (Nat.le_refl _) _⟩
  have L0 := LA.next ((Below.refl _ _).alloc (Nat.le_refl _) (.cells #[.int .i64 0, .int .i64 0] 35))
  have R0 := Bk.new (w.alloc (.cells (lkCells l A l.ch.length c) 26)) 35 #[.int .i64 0, .int .i64 0]
  have hg1 : (w.alloc (.cells (lkCells l A l.ch.length c) 26)).heap.size = w.heap.size + 1 := by simp
  rw [hg1] at R0
  clear LA hg1
  have CK := fun w hA => refCheck_any l A c w hA hn
  generalize hN : l.ch.length = n at *
  replace hN := hid hN
  replace CK := hid CK
  generalize hE : Pl.errOf l = ev at *
  replace hE := hid hE
  unfold lkCells at *
  obtain ⟨c0, c1, c2, c3, c4, c5, c6⟩ := LkS.cells L0
  go_enter Tryd.func22, Tryd.ntmps22
  go_wp2_with fail
  clear c0 c1 c2 c3 c4 c5 c6
  generalize (w.alloc (.cells #[.int .i64 l.d0, .int .i64 l.d1, .int .i64 l.v0, .int .i64 l.v1, .int .i64 l.loss, .int .u64 l.seed, .slice A n c] 26)).alloc (.cells #[.int .i64 0, .int .i64 0] 35) = w0 at *
  refine (CK.out _ (hA.next (LkS.bel L0))).mono ?_
  rintro e w1 ⟨rfl, hb⟩
  have L1 := LkS.next L0 hb
  have R1 := R0.next hb
  clear hb L0 CK R0
  by_cases ho : ev = 0
  case neg =>
    obtain ⟨q0, q1⟩ := R1.two
    have r0 := R1.free 0
    have r1 := R1.free 1
    go_wp2
    refine bodyPost_ret (results_cell_row rfl _ _ (w.heap.size + 1) 35 #[.int .i64 0, .int .i64 0] (0, 0) _ rfl ((R1.put 0 _).put 1 _) Tryd.underlying35 rfl (by kernel_rfl)) rfl ⟨bnd_bad (.inl (by rw [hE.out]; exact ho)), ?_⟩
    exact (L1.2.setCell (by dsimp only; omega) _).setCell (by dsimp only; omega) _
  subst ho
  go_wp2_with fail
  have GC := refRight_any dir 1 w1
  cases hdir : Pl.inR dir 1
  case false =>
    rw [hdir] at GC
    refine GC.mono ?_
    rintro e w2 ⟨rfl, rfl⟩
    clear GC
    obtain ⟨q0, q1⟩ := R1.two
    have r0 := R1.free 0
    have r1 := R1.free 1
    go_wp2
    refine bodyPost_ret (results_cell_row rfl _ _ (w.heap.size + 1) 35 #[.int .i64 0, .int .i64 0] (0, 0) _ rfl ((R1.put 0 _).put 1 _) Tryd.underlying35 rfl (by kernel_rfl)) rfl ⟨bnd_bad (.inr hdir), ?_⟩
    exact (L1.2.setCell (by dsimp only; omega) _).setCell (by dsimp only; omega) _
  rw [hdir] at GC
  refine GC.mono ?_
  rintro e w2 ⟨rfl, rfl⟩
  clear GC
  have hy := bnd_good hE.out hdir
  obtain ⟨⟨d0a, d0b⟩, ⟨d1a, d1b⟩, ⟨v0a, v0b⟩, ⟨v1a, v1b⟩, _, _⟩ := head_of hE.out
  have hch := (Pl.ok_of hE.out).2.1
  obtain ⟨c0, c1, c2, c3, c4, c5, c6⟩ := LkS.cells L1
  rcases okDir_of hdir with rfl | rfl
  · have hb0 : Pl.dBase l 0 = l.d0 := rfl
    have hv0 : Pl.vBase l 0 = l.v0 := rfl
    rw [hb0, hv0] at hy
    replace hy := hid hy
    clear hb0 hv0
    go_wp2_with fail
    go_quiet (fail)
    have L2 := LkS.drewN L1 nq
    have R2 := Bk.drewN R1 nq
    clear L1 R1
    go_wp2_with fail
    generalize w1.drewN nq = w2 at *
    clear c0 c1 c2 c3 c4 c5 c6
    go_loopw [5, 6, 7] (fun p q i wr => ∃ k : Nat, i = .int .i64 k ∧ k ≤ n ∧ LkS w w.heap.size l A n c wr ∧ Bk wr (w.heap.size + 1) 35 #[.int .i64 0, .int .i64 0] ∧ p = .int .i64 (Pl.loOf l.d0 0 (l.ch.take k)) ∧ q = .int .i64 (Pl.hiOf l.d0 0 (l.ch.take k))) (fun _ _ i _ => n - (intOf i).toNat)
    case atStart => exact ⟨0, rfl, Nat.zero_le _, L2, R2, rfl, rfl⟩
    case round =>
      obtain ⟨k, rfl, hk, Lr, Rr, rfl, rfl⟩ := hrel
      clear L2 R2
      obtain ⟨c0, c1, c2, c3, c4, c5, c6⟩ := LkS.cells Lr
      by_cases hkn : k < n
      · have hkl : k < l.ch.length := by rw [hN.out]; exact hkn
        obtain ⟨⟨x, d, y⟩, hx⟩ : ∃ c, l.ch[k]? = some c := ⟨_, List.getElem?_eq_getElem hkl⟩
        rcases hA.row with h0 | ⟨b, off, rfl, hb, hcells⟩
        · omega
        have ht := Pl.loOf_take hx l.d0 0
        have hu := Pl.hiOf_take hx l.d0 0
        generalize Pl.loOf l.d0 0 (l.ch.take k) = p0 at *
        generalize Pl.hiOf l.d0 0 (l.ch.take k) = q0 at *
        obtain ⟨e0, e1, e2⟩ := hcells k _ hx
        simp only at e0 e1 e2 ht hu
        have Bw := Lr.2
        have f0 := (Bw.cell (p := ⟨b, off + k * 3, none⟩) hb).trans e0
        have f1 := (Bw.cell (p := ⟨b, off + k * 3 + 1, none⟩) hb).trans e1
        have f2 := (Bw.cell (p := ⟨b, off + k * 3 + 2, none⟩) hb).trans e2
        clear e0 e1 e2 Bw
        by_cases hd : d = 0
        · subst hd
          rw [if_pos rfl] at ht hu
          replace ht := hid ht
          replace hu := hid hu
          go_wp2
          go_roundw
          case rel =>
            refine ⟨k + 1, by simp, by omega, Lr, Rr, ?_, ?_⟩
            · rw [ht.out]; congr 1; split <;> omega
            · rw [hu.out]; congr 1; split <;> omega
          case measure => simp [intOf]; omega
        · rw [if_neg hd] at ht hu
          replace ht := hid ht
          replace hu := hid hu
          go_wp2
          go_roundw
          case rel =>
            exact ⟨k + 1, by simp, by omega, Lr, Rr, by rw [ht.out], by rw [hu.out]⟩
          case measure => simp [intOf]; omega
      · have hkn2 : k = n := by omega
        subst hkn2
        have hlk : l.ch.take k = l.ch := by rw [← hN.out, List.take_length]
        rw [hlk]
        obtain ⟨rh0, rh1⟩ := hi_range 0 l.ch l.d0 hch (by omega)
        generalize Pl.loOf l.d0 0 l.ch = p0 at *
        generalize Pl.hiOf l.d0 0 l.ch = q0 at *
        obtain ⟨z0, z1⟩ := Rr.two
        have r0 := Rr.free 0
        have r1 := Rr.free 1
        go_wp2
        refine bodyPost_ret (results_cell_row rfl _ _ (w.heap.size + 1) 35 #[.int .i64 p0, .int .i64 (q0 + l.v0)] (0, 0) _ rfl ((Rr.put 0 _).put 1 _) Tryd.underlying35 rfl (by kernel_rfl)) rfl ⟨hy.out, ?_⟩
        exact (Lr.2.setCell (by dsimp only; omega) _).setCell (by dsimp only; omega) _
  · have hb0 : Pl.dBase l 1 = l.d1 := rfl
    have hv0 : Pl.vBase l 1 = l.v1 := rfl
    rw [hb0, hv0] at hy
    replace hy := hid hy
    clear hb0 hv0
    go_wp2_with fail
    go_quiet (fail)
    have L2 := LkS.drewN L1 nq
    have R2 := Bk.drewN R1 nq
    clear L1 R1
    go_wp2_with fail
    generalize w1.drewN nq = w2 at *
    clear c0 c1 c2 c3 c4 c5 c6
    go_loopw [5, 6, 7] (fun p q i wr => ∃ k : Nat, i = .int .i64 k ∧ k ≤ n ∧ LkS w w.heap.size l A n c wr ∧ Bk wr (w.heap.size + 1) 35 #[.int .i64 0, .int .i64 0] ∧ p = .int .i64 (Pl.loOf l.d1 1 (l.ch.take k)) ∧ q = .int .i64 (Pl.hiOf l.d1 1 (l.ch.take k))) (fun _ _ i _ => n - (intOf i).toNat)
    case atStart => exact ⟨0, rfl, Nat.zero_le _, L2, R2, rfl, rfl⟩
    case round =>
      obtain ⟨k, rfl, hk, Lr, Rr, rfl, rfl⟩ := hrel
      clear L2 R2
      obtain ⟨c0, c1, c2, c3, c4, c5, c6⟩ := LkS.cells Lr
      by_cases hkn : k < n
      · have hkl : k < l.ch.length := by rw [hN.out]; exact hkn
        obtain ⟨⟨x, d, y⟩, hx⟩ : ∃ c, l.ch[k]? = some c := ⟨_, List.getElem?_eq_getElem hkl⟩
        rcases hA.row with h0 | ⟨b, off, rfl, hb, hcells⟩
        · omega
        have ht := Pl.loOf_take hx l.d1 1
        have hu := Pl.hiOf_take hx l.d1 1
        generalize Pl.loOf l.d1 1 (l.ch.take k) = p0 at *
        generalize Pl.hiOf l.d1 1 (l.ch.take k) = q0 at *
        obtain ⟨e0, e1, e2⟩ := hcells k _ hx
        simp only at e0 e1 e2 ht hu
        have Bw := Lr.2
        have f0 := (Bw.cell (p := ⟨b, off + k * 3, none⟩) hb).trans e0
        have f1 := (Bw.cell (p := ⟨b, off + k * 3 + 1, none⟩) hb).trans e1
        have f2 := (Bw.cell (p := ⟨b, off + k * 3 + 2, none⟩) hb).trans e2
        clear e0 e1 e2 Bw
        by_cases hd : d = 1
        · subst hd
          rw [if_pos rfl] at ht hu
          replace ht := hid ht
          replace hu := hid hu
          go_wp2
          go_roundw
          case rel =>
            refine ⟨k + 1, by simp, by omega, Lr, Rr, ?_, ?_⟩
            · rw [ht.out]; congr 1; split <;> omega
            · rw [hu.out]; congr 1; split <;> omega
          case measure => simp [intOf]; omega
        · rw [if_neg hd] at ht hu
          replace ht := hid ht
          replace hu := hid hu
          go_wp2
          go_roundw
          case rel =>
            exact ⟨k + 1, by simp, by omega, Lr, Rr, by rw [ht.out], by rw [hu.out]⟩
          case measure => simp [intOf]; omega
      · have hkn2 : k = n := by omega
        subst hkn2
        have hlk : l.ch.take k = l.ch := by rw [← hN.out, List.take_length]
        rw [hlk]
        obtain ⟨rh0, rh1⟩ := hi_range 1 l.ch l.d1 hch (by omega)
        generalize Pl.loOf l.d1 1 l.ch = p0 at *
        generalize Pl.hiOf l.d1 1 l.ch = q0 at *
        obtain ⟨z0, z1⟩ := Rr.two
        have r0 := Rr.free 0
        have r1 := Rr.free 1
        go_wp2
        refine bodyPost_ret (results_cell_row rfl _ _ (w.heap.size + 1) 35 #[.int .i64 p0, .int .i64 (q0 + l.v1)] (0, 0) _ rfl ((Rr.put 0 _).put 1 _) Tryd.underlying35 rfl (by kernel_rfl)) rfl ⟨hy.out, ?_⟩
        exact (Lr.2.setCell (by dsimp only; omega) _).setCell (by dsimp only; omega) _
end Go.Proofs.YtjeojnlkjecojaaDoor
