/- Check of package link where the head of the link is valid. -/
import Derived.Test.YtjeojnlkjecojaaDoorLinkC2
namespace Go.Proofs.YtjeojnlkjecojaaDoor
open Go Go.RowKit
attribute [local simp high] guard_bind eql_two neq_two
theorem bdrewN {B : Nat} {a w : World} (h : Below B a w) (n : Nat) : Below B a (w.drewN n) := ⟨h.os, h.tape, h.output, h.size, h.block⟩
theorem Bk.drewN {w : World} {g : Nat} {t : TypeId} {cs : Array Value} (h : Bk w g t cs) (n : Nat) : Bk (w.drewN n) g t cs := h
theorem LkS.drewN {W w : World} {g n c : Nat} {l : Pl.Lk} {A : Option Addr} (h : LkS W g l A n c w) (m : Nat) : LkS W g l A n c (w.drewN m) := ⟨Bk.drewN h.1 m, bdrewN h.2 m⟩
set_option maxHeartbeats 1000000 in
theorem check_good (l : Pl.Lk) (A : Option Addr) (c : Nat) (w : World) (hl : Pl.headOk l = true) (hA : IsCh w A l.ch) (hn : l.ch.length ≤ 100) :
    Calls Tryd.prog 13 #[.agg (lkCells l A l.ch.length c)] w fun e w' => e = .returned (.int .i64 (Pl.errOf l)) ∧ Below w.heap.size w w' := by
  have hd : Pl.clampD l.d0 = l.d0 ∧ Pl.clampD l.d1 = l.d1 ∧ Pl.clampD l.v0 = l.v0 ∧ Pl.clampD l.v1 = l.v1 ∧ 0 ≤ l.loss ∧ l.loss ≤ 1000 := by
    simp only [Pl.clampD_eq]
    unfold Pl.headOk at hl
    simp only [Bool.and_eq_true, Pl.inR_true] at hl
    omega
  obtain ⟨hd0, hd1, hv0, hv1, hs0, hs1⟩ := hd
  have L0 : LkS w w.heap.size l A l.ch.length c (w.alloc (.cells (lkCells l A l.ch.length c) 26)) := ⟨Bk.new _ _ _, (Below.refl w.heap.size w).alloc (Nat.le_refl _) _⟩
  have CD := fun w => limited_any l.d0 l.d1 w
  have CV := fun w => limited_any l.v0 l.v1 w
  rw [hd0, hd1] at CD
  rw [hv0, hv1] at CV
  replace CD := hid CD
  replace CV := hid CV
  have g0 : (l.loss < 0) = False := eq_false (by omega)
  have g1 : (1000 < l.loss) = False := eq_false (by omega)
  clear hd0 hd1 hv0 hv1
  generalize hN : l.ch.length = n at *
  replace hN := hid hN
  unfold lkCells
  unfold lkCells at L0
  go_enter Tryd.func13, Tryd.ntmps13
  go_wp2_with fail
  generalize w.alloc (.cells #[.int .i64 l.d0, .int .i64 l.d1, .int .i64 l.v0, .int .i64 l.v1, .int .i64 l.loss, .int .u64 l.seed, .slice A n c] 26) = w0 at *
  refine region_class (fun w' => (w'.cell? ⟨w.heap.size, 0, none⟩ = some (.int .i64 l.d0)) ∧ (w'.cell? ⟨w.heap.size, 1, none⟩ = some (.int .i64 l.d1)) ∧ (w'.cell? ⟨w.heap.size, 2, none⟩ = some (.int .i64 l.v0)) ∧ (w'.cell? ⟨w.heap.size, 3, none⟩ = some (.int .i64 l.v1)) ∧ (w'.cell? ⟨w.heap.size, 4, none⟩ = some (.int .i64 l.loss)) ∧ LkS w w.heap.size l A n c w') (by kernel_rfl) (by kernel_rfl) (LkS.all (LkS.drew L0)) ?_
  repeat
    first
    | (refine BigFrame.wpQuiet_skip (by rfl) ?_
       simp only [Act.put, List.setIfInBounds_toArray, List.set_cons_zero, List.set_cons_succ])
    | (refine class_want (by rfl) ?_
       apply Exists.intro
       refine ⟨fun w1 h1 => ?_, ?_⟩
       focus
         have hT : LkT w w.heap.size l A n c w1 := h1
         obtain ⟨c0, c1, c2, c3, c4, L⟩ := h1
         unfold Oper.quietAt Oper.quietUpon
         go_simp
         first
         | exact rfl
         | (with_reducible refine (CD.out _).mono ?_
            rintro e w2 ⟨rfl, hb⟩
            exact ⟨rfl, LkT.next hT hb⟩)
         | (with_reducible refine (CV.out _).mono ?_
            rintro e w2 ⟨rfl, hb⟩
            exact ⟨rfl, LkT.next hT hb⟩)
       simp only [Act.put, List.setIfInBounds_toArray, List.set_cons_zero, List.set_cons_succ])
  refine wpQuiet_nil ?_
  clear L0 CD CV g0 g1
  intro w1 ⟨c0, c1, c2, c3, c4, L⟩
  clear c0 c1 c2 c3 c4
  have c6 := (LkS.cells L).2.2.2.2.2.2
  go_wp2
  go_loopw [33] (fun i wr => ∃ k : Nat, i = .int .i64 k ∧ k ≤ n ∧ LkS w w.heap.size l A n c wr ∧ (∀ j, j < k → ∀ c, l.ch[j]? = some c → Pl.chgOk c = true)) (fun i _ => n - (intOf i).toNat)
  case atStart => exact ⟨0, rfl, Nat.zero_le _, L, fun j hj => absurd hj (Nat.not_lt_zero j)⟩
  case round =>
    obtain ⟨k, rfl, hk, Lr, hq⟩ := hrel
    clear L c6
    by_cases hkn : k < n
    · have hkl : k < l.ch.length := by rw [hN.out]; exact hkn
      obtain ⟨⟨x, d, y⟩, hx⟩ : ∃ c, l.ch[k]? = some c := ⟨_, List.getElem?_eq_getElem hkl⟩
      rcases hA.row with h0 | ⟨b, off, rfl, hb, hcells⟩
      · omega
      obtain ⟨e0, e1, e2⟩ := hcells k _ hx
      simp only at e0 e1 e2
      have Bw := Lr.2
      have f0 := (Bw.cell (p := ⟨b, off + k * 3, none⟩) hb).trans e0
      have f1 := (Bw.cell (p := ⟨b, off + k * 3 + 1, none⟩) hb).trans e1
      have f2 := (Bw.cell (p := ⟨b, off + k * 3 + 2, none⟩) hb).trans e2
      clear e0 e1 e2
      have L2 : LkS w w.heap.size l (some ⟨b, off, none⟩) n c (wr.alloc (.cells #[.int .i64 x, .int .i64 d, .int .i64 y] 59)) := Lr.next ((Below.refl _ _).alloc (Nat.le_refl _) _)
      have K2 := Bk.new wr 59 #[.int .i64 x, .int .i64 d, .int .i64 y]
      go_wp2_with fail
      generalize wr.alloc (.cells #[.int .i64 x, .int .i64 d, .int .i64 y] 59) = w2 at *
      have k0 := K2.cell 0
      have k1 := K2.cell 1
      have k2 := K2.cell 2
      simp only [List.getElem?_toArray, List.getElem?_cons_zero, List.getElem?_cons_succ] at k0 k1 k2
      clear K2 f0 f1 f2 Lr Bw
      have CT := isTime_any x w2
      have CI := isDir_any d w2
      cases ht : Pl.okAt x
      · rw [ht] at CT
        refine CT.mono ?_
        rintro e w3 ⟨rfl, rfl⟩
        clear CT CI
        go_wp2
        go_ret
        exact ⟨ret_int (Pl.errOf_chg hx (by unfold Pl.chgOk; unfold Pl.okAt at ht; simp [ht])).symm, L2.2⟩
      · rw [ht] at CT
        refine CT.mono ?_
        rintro e w3 ⟨rfl, rfl⟩
        clear CT
        go_wp2_with fail
        cases hdr : Pl.okDir d
        · rw [hdr] at CI
          refine CI.mono ?_
          rintro e w3 ⟨rfl, rfl⟩
          clear CI
          go_wp2
          go_ret
          exact ⟨ret_int (Pl.errOf_chg hx (by unfold Pl.chgOk; unfold Pl.okDir at hdr; simp [hdr])).symm, L2.2⟩
        · rw [hdr] at CI
          refine CI.mono ?_
          rintro e w3 ⟨rfl, rfl⟩
          clear CI
          by_cases hy0 : y < 0
          · go_wp2
            go_ret
            exact ⟨ret_int (Pl.errOf_chg hx (by unfold Pl.chgOk; rw [Pl.inR_false.2 (.inl hy0), Bool.and_false])).symm, L2.2⟩
          · by_cases hy1 : 10000000000 < y
            · go_wp2
              go_ret
              exact ⟨ret_int (Pl.errOf_chg hx (by unfold Pl.chgOk; rw [Pl.inR_false.2 (.inr hy1), Bool.and_false])).symm, L2.2⟩
            · go_wp2
              go_roundw
              case rel =>
                refine ⟨k + 1, by simp, by omega, L2, fun j hj c hc => ?_⟩
                by_cases hjk : j = k
                · subst hjk
                  rw [hx] at hc; cases hc
                  unfold Pl.okAt at ht; unfold Pl.okDir at hdr
                  unfold Pl.chgOk
                  simp only [ht, hdr, Bool.true_and]
                  exact Pl.inR_true.2 (by omega)
                · exact hq j (by omega) c hc
              case measure => simp [intOf]; omega
    · have hkn2 : k = n := by omega
      subst hkn2
      have hall : l.ch.all Pl.chgOk = true := Pl.all_of fun j c hc => hq j (by have := (List.getElem?_eq_some_iff.1 hc).1; rw [hN.out] at this; exact this) c hc
      have c6 := (LkS.cells Lr).2.2.2.2.2.2
      by_cases h16 : 16 < k
      · have hj : (16 : Int) < k := by omega
        go_wp2
        go_ret
        exact ⟨ret_int (Pl.errOf_long hl hall (by rw [hN.out]; exact h16)).symm, Lr.2⟩
      · go_wp2
        go_loopw [5] (fun i wr => ∃ m : Nat, i = .int .i64 m ∧ 1 ≤ m ∧ LkS w w.heap.size l A k c wr ∧ (∀ j a b, j + 1 < m → l.ch[j]? = some a → l.ch[j + 1]? = some b → a.1 ≤ b.1)) (fun i _ => k - (intOf i).toNat)
        case atStart => exact ⟨1, rfl, Nat.le_refl _, Lr, fun j a b hj => absurd hj (by omega)⟩
        case round =>
          obtain ⟨m, rfl, hm, Lm, hqm⟩ := hrel
          clear Lr c6 hq
          have c6 := (LkS.cells Lm).2.2.2.2.2.2
          by_cases hmk : m < k
          · have hml : m < l.ch.length := by rw [hN.out]; exact hmk
            obtain ⟨⟨x, d, y⟩, hx⟩ : ∃ c, l.ch[m]? = some c := ⟨_, List.getElem?_eq_getElem hml⟩
            obtain ⟨⟨x', d', y'⟩, hx'⟩ : ∃ c, l.ch[m - 1]? = some c := ⟨_, List.getElem?_eq_getElem (by omega)⟩
            rcases hA.row with h0 | ⟨b, off, rfl, hb, hcells⟩
            · omega
            have e0 := (hcells m _ hx).1
            have e0' := (hcells (m - 1) _ hx').1
            simp only at e0 e0'
            have f0 := (Lm.2.cell (p := ⟨b, off + m * 3, none⟩) hb).trans e0
            have f1 := (Lm.2.cell (p := ⟨b, off + (m - 1) * 3, none⟩) hb).trans e0'
            clear e0 e0'
            go_wp2_with fail
            have hsub : l.ch[m - 1 + 1]? = some (x, d, y) := by rw [Nat.sub_add_cancel hm]; exact hx
            by_cases hlt : x < x'
            · go_quiet (fail)
              go_wp2
              go_ret
              exact ⟨ret_int (Pl.errOf_order hl hall (by rw [hN.out]; omega) hx' hsub hlt).symm, bdrewN Lm.2 nq⟩
            · go_quiet (fail)
              go_wp2
              go_roundw
              case rel =>
                refine ⟨m + 1, by simp, by omega, LkS.drewN Lm nq, fun j a b hj ha hb => ?_⟩
                by_cases hjm : j = m - 1
                · subst hjm
                  rw [hx'] at ha; rw [hsub] at hb
                  cases ha; cases hb
                  show x' ≤ x
                  omega
                · exact hqm j a b (by omega) ha hb
              case measure => simp [intOf]; omega
          · have ho : Pl.ordered l.ch = true := Pl.ordered_of l.ch fun j a b ha hb => hqm j a b (by have := (List.getElem?_eq_some_iff.1 hb).1; rw [hN.out] at this; omega) ha hb
            go_wp2
            go_ret
            exact ⟨ret_int (Pl.errOf_ok hl hall (by rw [hN.out]; omega) ho).symm, Lm.2⟩
theorem check_any (l : Pl.Lk) (A : Option Addr) (c : Nat) (w : World) (hA : IsCh w A l.ch) (hn : l.ch.length ≤ 100) :
    Calls Tryd.prog 13 #[.agg (lkCells l A l.ch.length c)] w fun e w' => e = .returned (.int .i64 (Pl.errOf l)) ∧ Below w.heap.size w w' := by
  cases hl : Pl.headOk l
  · rw [Pl.errOf_head hl]; exact check_head l A l.ch.length c w hl
  · exact check_good l A c w hl hA hn
end Go.Proofs.YtjeojnlkjecojaaDoor
