/- Check of the reference of package link. -/
import Derived.Test.YtjeojnlkjecojaaDoorLinkC3
namespace Go.Proofs.YtjeojnlkjecojaaDoor
open Go Go.RowKit
set_option maxHeartbeats 1000000 in
theorem refCheck_any (l : Pl.Lk) (A : Option Addr) (c : Nat) (w : World) (hA : IsCh w A l.ch) (hn : l.ch.length ≤ 100) :
    Calls Tryd.prog 14 #[.agg (lkCells l A l.ch.length c)] w fun e w' => e = .returned (.int .i64 (Pl.errOf l)) ∧ Below w.heap.size w w' := by
  have L0 : LkS w w.heap.size l A l.ch.length c (w.alloc (.cells (lkCells l A l.ch.length c) 26)) := ⟨Bk.new _ _ _, (Below.refl w.heap.size w).alloc (Nat.le_refl _) _⟩
  generalize hN : l.ch.length = n at *
  replace hN := hid hN
  unfold lkCells
  unfold lkCells at L0
  go_enter Tryd.func14, Tryd.ntmps14
  go_wp2_with fail
  generalize w.alloc (.cells #[.int .i64 l.d0, .int .i64 l.d1, .int .i64 l.v0, .int .i64 l.v1, .int .i64 l.loss, .int .u64 l.seed, .slice A n c] 26) = w0 at *
  obtain ⟨c0, c1, c2, c3, c4, _, c6⟩ := LkS.cells L0
  have C := refRight_any l.d0 10000000000 w0
  cases h0 : Pl.inR l.d0 10000000000
  · rw [h0] at C
    refine C.mono ?_
    rintro e w1 ⟨rfl, rfl⟩
    clear C
    go_wp2
    go_ret
    exact ⟨ret_int (Pl.errOf_head (by unfold Pl.headOk; simp [h0])).symm, L0.2⟩
  rw [h0] at C
  refine C.mono ?_
  rintro e w1 ⟨rfl, rfl⟩
  clear C
  go_wp2_with fail
  have C := refRight_any l.d1 10000000000 w0
  cases h1 : Pl.inR l.d1 10000000000
  · rw [h1] at C
    refine C.mono ?_
    rintro e w1 ⟨rfl, rfl⟩
    clear C
    go_wp2
    go_ret
    exact ⟨ret_int (Pl.errOf_head (by unfold Pl.headOk; simp [h1])).symm, L0.2⟩
  rw [h1] at C
  refine C.mono ?_
  rintro e w1 ⟨rfl, rfl⟩
  clear C
  go_wp2_with fail
  have C := refRight_any l.v0 10000000000 w0
  cases h2 : Pl.inR l.v0 10000000000
  · rw [h2] at C
    refine C.mono ?_
    rintro e w1 ⟨rfl, rfl⟩
    clear C
    go_wp2
    go_ret
    exact ⟨ret_int (Pl.errOf_head (by unfold Pl.headOk; simp [h2])).symm, L0.2⟩
  rw [h2] at C
  refine C.mono ?_
  rintro e w1 ⟨rfl, rfl⟩
  clear C
  go_wp2_with fail
  have C := refRight_any l.v1 10000000000 w0
  cases h3 : Pl.inR l.v1 10000000000
  · rw [h3] at C
    refine C.mono ?_
    rintro e w1 ⟨rfl, rfl⟩
    clear C
    go_wp2
    go_ret
    exact ⟨ret_int (Pl.errOf_head (by unfold Pl.headOk; simp [h3])).symm, L0.2⟩
  rw [h3] at C
  refine C.mono ?_
  rintro e w1 ⟨rfl, rfl⟩
  clear C
  go_wp2_with fail
  have C := refRight_any l.loss 1000 w0
  cases h4 : Pl.inR l.loss 1000
  · rw [h4] at C
    refine C.mono ?_
    rintro e w1 ⟨rfl, rfl⟩
    clear C
    go_wp2
    go_ret
    exact ⟨ret_int (Pl.errOf_head (by unfold Pl.headOk; simp [h4])).symm, L0.2⟩
  rw [h4] at C
  refine C.mono ?_
  rintro e w1 ⟨rfl, rfl⟩
  clear C
  go_wp2
  have hl : Pl.headOk l = true := by unfold Pl.headOk; simp [h0, h1, h2, h3, h4]
  go_loopw [3] (fun i wr => ∃ k : Nat, i = .int .i64 k ∧ k ≤ n ∧ LkS w w.heap.size l A n c wr ∧ (∀ j, j < k → ∀ c, l.ch[j]? = some c → Pl.chgOk c = true)) (fun i _ => n - (intOf i).toNat)
  case atStart => exact ⟨0, rfl, Nat.zero_le _, L0, fun j hj => absurd hj (Nat.not_lt_zero j)⟩
  case round =>
    obtain ⟨k, rfl, hk, Lr, hq⟩ := hrel
    clear L0 c0 c1 c2 c3 c4 c6
    have c6 := (LkS.cells Lr).2.2.2.2.2.2
    by_cases hkn : k < n
    · have hkl : k < l.ch.length := by rw [hN.out]; exact hkn
      obtain ⟨⟨x, d, y⟩, hx⟩ : ∃ c, l.ch[k]? = some c := ⟨_, List.getElem?_eq_getElem hkl⟩
      rcases hA.row with h0 | ⟨b, off, rfl, hb, hcells⟩
      · omega
      obtain ⟨e0, e1, e2⟩ := hcells k _ hx
      simp only at e0 e1 e2
      have Bw := Lr.2
      have f0 := (Bw.cell (p := ⟨b, off + k * 3, none⟩) hb).trans e0
      have f1 := (Bw.cell (p := ⟨b, off + k * 3 + 1, none⟩) hb).trans e1
      have f2 := (Bw.cell (p := ⟨b, off + k * 3 + 2, none⟩) hb).trans e2
      clear e0 e1 e2
      have L2 : LkS w w.heap.size l (some ⟨b, off, none⟩) n c (wr.alloc (.cells #[.int .i64 x, .int .i64 d, .int .i64 y] 59)) := Lr.next ((Below.refl _ _).alloc (Nat.le_refl _) _)
      have K2 := Bk.new wr 59 #[.int .i64 x, .int .i64 d, .int .i64 y]
      go_wp2_with fail
      generalize wr.alloc (.cells #[.int .i64 x, .int .i64 d, .int .i64 y] 59) = w2 at *
      have k0 := K2.cell 0
      have k1 := K2.cell 1
      have k2 := K2.cell 2
      simp only [List.getElem?_toArray, List.getElem?_cons_zero, List.getElem?_cons_succ] at k0 k1 k2
      clear K2 f0 f1 f2 Lr Bw c6
      have C := refRight_any x 1125899906842624 w2
      cases b5 : Pl.inR x 1125899906842624
      · rw [b5] at C
        refine C.mono ?_
        rintro e w3 ⟨rfl, rfl⟩
        clear C
        go_wp2
        go_ret
        exact ⟨ret_int (Pl.errOf_chg hx (by unfold Pl.chgOk; simp [b5])).symm, L2.2⟩
      rw [b5] at C
      refine C.mono ?_
      rintro e w3 ⟨rfl, rfl⟩
      clear C
      go_wp2_with fail
      have C := refRight_any d 1 w2
      cases b6 : Pl.inR d 1
      · rw [b6] at C
        refine C.mono ?_
        rintro e w3 ⟨rfl, rfl⟩
        clear C
        go_wp2
        go_ret
        exact ⟨ret_int (Pl.errOf_chg hx (by unfold Pl.chgOk; simp [b6])).symm, L2.2⟩
      rw [b6] at C
      refine C.mono ?_
      rintro e w3 ⟨rfl, rfl⟩
      clear C
      go_wp2_with fail
      have C := refRight_any y 10000000000 w2
      cases b7 : Pl.inR y 10000000000
      · rw [b7] at C
        refine C.mono ?_
        rintro e w3 ⟨rfl, rfl⟩
        clear C
        go_wp2
        go_ret
        exact ⟨ret_int (Pl.errOf_chg hx (by unfold Pl.chgOk; simp [b7])).symm, L2.2⟩
      rw [b7] at C
      refine C.mono ?_
      rintro e w3 ⟨rfl, rfl⟩
      clear C
      go_wp2
      go_roundw
      case rel =>
        refine ⟨k + 1, by simp, by omega, L2, fun j hj c hc => ?_⟩
        by_cases hjk : j = k
        · subst hjk
          rw [hx] at hc; cases hc
          unfold Pl.chgOk
          simp [b5, b6, b7]
        · exact hq j (by omega) c hc
      case measure => simp [intOf]; omega
    · have hkn2 : k = n := by omega
      subst hkn2
      have hall : l.ch.all Pl.chgOk = true := Pl.all_of fun j c hc => hq j (by have := (List.getElem?_eq_some_iff.1 hc).1; rw [hN.out] at this; exact this) c hc
      by_cases h16 : 16 < k
      · have hj : (16 : Int) < k := by omega
        go_wp2
        go_ret
        exact ⟨ret_int (Pl.errOf_long hl hall (by rw [hN.out]; exact h16)).symm, Lr.2⟩
      · go_wp2
        go_loopw [5] (fun i wr => ∃ m : Nat, i = .int .i64 m ∧ 1 ≤ m ∧ LkS w w.heap.size l A k c wr ∧ (∀ j a b, j + 1 < m → l.ch[j]? = some a → l.ch[j + 1]? = some b → a.1 ≤ b.1)) (fun i _ => k - (intOf i).toNat)
        case atStart => exact ⟨1, rfl, Nat.le_refl _, Lr, fun j a b hj => absurd hj (by omega)⟩
        case round =>
          obtain ⟨m, rfl, hm, Lm, hqm⟩ := hrel
          clear Lr c6 hq
          have c6 := (LkS.cells Lm).2.2.2.2.2.2
          by_cases hmk : m < k
          · have hml : m < l.ch.length := by rw [hN.out]; exact hmk
            obtain ⟨⟨x, d, y⟩, hx⟩ : ∃ c, l.ch[m]? = some c := ⟨_, List.getElem?_eq_getElem hml⟩
            obtain ⟨⟨x', d', y'⟩, hx'⟩ : ∃ c, l.ch[m - 1]? = some c := ⟨_, List.getElem?_eq_getElem (by omega)⟩
            rcases hA.row with h0 | ⟨b, off, rfl, hb, hcells⟩
            · omega
            have e0 := (hcells m _ hx).1
            have e0' := (hcells (m - 1) _ hx').1
            simp only at e0 e0'
            have f0 := (Lm.2.cell (p := ⟨b, off + m * 3, none⟩) hb).trans e0
            have f1 := (Lm.2.cell (p := ⟨b, off + (m - 1) * 3, none⟩) hb).trans e0'
            clear e0 e0'
            go_wp2_with fail
            have hsub : l.ch[m - 1 + 1]? = some (x, d, y) := by rw [Nat.sub_add_cancel hm]; exact hx
            by_cases hlt : x < x'
            · go_quiet (fail)
              go_wp2
              go_ret
              exact ⟨ret_int (Pl.errOf_order hl hall (by rw [hN.out]; omega) hx' hsub hlt).symm, bdrewN Lm.2 nq⟩
            · go_quiet (fail)
              go_wp2
              go_roundw
              case rel =>
                refine ⟨m + 1, by simp, by omega, LkS.drewN Lm nq, fun j a b hj ha hb => ?_⟩
                by_cases hjm : j = m - 1
                · subst hjm
                  rw [hx'] at ha; rw [hsub] at hb
                  cases ha; cases hb
                  show x' ≤ x
                  omega
                · exact hqm j a b (by omega) ha hb
              case measure => simp [intOf]; omega
          · have ho : Pl.ordered l.ch = true := Pl.ordered_of l.ch fun j a b ha hb => hqm j a b (by have := (List.getElem?_eq_some_iff.1 hb).1; rw [hN.out] at this; omega) ha hb
            go_wp2
            go_ret
            exact ⟨ret_int (Pl.errOf_ok hl hall (by rw [hN.out]; omega) ho).symm, Lm.2⟩
end Go.Proofs.YtjeojnlkjecojaaDoor
