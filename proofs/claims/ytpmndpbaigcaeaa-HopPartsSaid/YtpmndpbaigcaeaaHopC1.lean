/- The contracts of check of package hop and of its reference. -/
import Derived.Test.YtpmndpbaigcaeaaHopQ
import Derived.Test.YtpmndpbaigcaeaaMem
import Derived.Test.YtpmndpbaigcaeaaProg
namespace Go.Proofs.Ytpmndpbaigcaeaa
open Go Go.RowKit
theorem bdrewN {B : Nat} {a w : World} (h : Below B a w) (n : Nat) : Below B a (w.drewN n) := ⟨h.os, h.tape, h.output, h.size, h.block⟩
theorem Bk.drewN {w : World} {g : Nat} {t : TypeId} {cs : Array Value} (h : Bk w g t cs) (n : Nat) : Bk (w.drewN n) g t cs := h
set_option maxHeartbeats 1000000 in
theorem check_any (A B : Option Addr) (a s : List Int) (c d : Nat) (lim : Int) (w : World) (hA : IsSl w A .i64 a) (hB : IsSl w B .i64 s) (hna : a.length ≤ 600) :
    Calls Try.prog 27 #[.slice A a.length c, .slice B s.length d, .int .i64 lim] w fun e w' => e = .returned (.int .i64 (Pl.errOf lim a s)) ∧ Below w.heap.size w w' := by
  by_cases hlen : a.length = s.length
  case neg =>
    have hne : ¬ ((a.length : Int) = s.length) := by omega
    go_enter Try.func27, Try.ntmps27
    go_wp2
    go_ret
    exact ⟨ret_int (Pl.err_len hlen).symm, Below.refl _ _⟩
  rw [← hlen]
  by_cases h512 : a.length ≤ 512
  case neg =>
    have hne : (512 : Int) < a.length := by omega
    go_enter Try.func27, Try.ntmps27
    go_wp2
    go_ret
    exact ⟨ret_int (Pl.err_long hlen (by omega)).symm, Below.refl _ _⟩
  generalize hN : a.length = n at *
  replace hN := hid hN
  replace hlen : a.length = s.length := by rw [hN.out]; exact hlen
  replace hlen := hid hlen
  replace h512 : a.length ≤ 512 ∧ n ≤ 512 := ⟨by rw [hN.out]; exact h512, h512⟩
  obtain ⟨h512, h512n⟩ := h512
  replace h512 := hid h512
  go_enter Try.func27, Try.ntmps27
  go_wp2
  go_loopw [20] (fun i wr => ∃ k : Nat, i = .int .i64 k ∧ k ≤ n ∧ Below w.heap.size w wr ∧ (∀ j, j < k → Pl.okM lim (Pl.gd a j) (Pl.gd s j) = true)) (fun i _ => n - (intOf i).toNat)
  case atStart => exact ⟨0, rfl, Nat.zero_le _, Below.refl _ _, fun j hj => absurd hj (Nat.not_lt_zero j)⟩
  case round =>
    obtain ⟨k, rfl, hk, Br, hq⟩ := hrel
    by_cases hkn : k < n
    · have hkl : k < a.length := by rw [hN.out]; exact hkn
      obtain ⟨x, hx⟩ : ∃ x, a[k]? = some x := ⟨_, List.getElem?_eq_getElem hkl⟩
      obtain ⟨y, hy⟩ : ∃ y, s[k]? = some y := ⟨_, List.getElem?_eq_getElem (by rw [← hlen.out]; exact hkl)⟩
      have ea := Pl.gd_some hx
      have es := Pl.gd_some hy
      rcases hA.row with h0 | ⟨b, off, rfl, hb, hca⟩
      · omega
      rcases hB.row with h0 | ⟨b', off', rfl, hb', hcb⟩
      · have := hlen.out; omega
      have f0 := (Br.cell (p := ⟨b, off + k, none⟩) hb).trans (hca k x hx)
      have f1 := (Br.cell (p := ⟨b', off' + k, none⟩) hb').trans (hcb k y hy)
      have hkl := hid hkl
      clear hx hy hca hcb
      by_cases h1 : x < 0
      · go_wp2
        go_ret
        exact ⟨ret_int (Pl.err_range hlen.out h512.out hkl.out (by rw [ea, es]; exact Pl.okM_false.2 (by omega))).symm, Br⟩
      by_cases h2 : lim < x
      · go_wp2
        go_ret
        exact ⟨ret_int (Pl.err_range hlen.out h512.out hkl.out (by rw [ea, es]; exact Pl.okM_false.2 (by omega))).symm, Br⟩
      by_cases h3 : y < 0
      · go_wp2
        go_ret
        exact ⟨ret_int (Pl.err_range hlen.out h512.out hkl.out (by rw [ea, es]; exact Pl.okM_false.2 (by omega))).symm, Br⟩
      by_cases h4 : 10000000000 < y
      · go_wp2
        go_ret
        exact ⟨ret_int (Pl.err_range hlen.out h512.out hkl.out (by rw [ea, es]; exact Pl.okM_false.2 (by omega))).symm, Br⟩
      go_wp2
      go_roundw
      case rel =>
        refine ⟨k + 1, by simp, by omega, Br, fun j hj => ?_⟩
        by_cases hjk : j = k
        · subst hjk
          rw [ea, es]
          exact Pl.okM_true.2 (by omega)
        · exact hq j (by omega)
      case measure => simp [intOf]; omega
    · have hkn2 : k = n := by omega
      subst hkn2
      replace hq : ∀ i, i < a.length → Pl.okM lim (Pl.gd a i) (Pl.gd s i) = true := by rw [hN.out]; exact hq
      replace hq := hid hq
      go_wp2
      go_loopw [9] (fun i wr => ∃ m : Nat, i = .int .i64 m ∧ 1 ≤ m ∧ m ≤ k + 1 ∧ Below w.heap.size w wr ∧ (∀ j, j + 1 < m → Pl.gd a j ≤ Pl.gd a (j + 1))) (fun i _ => k + 1 - (intOf i).toNat)
      case atStart => exact ⟨1, rfl, Nat.le_refl _, by omega, Br, fun j hj => absurd hj (by omega)⟩
      case round =>
        obtain ⟨m, rfl, hm, hmk1, Bm, hqm⟩ := hrel
        by_cases hmk : m < k
        · have hml : m < a.length := by rw [hN.out]; exact hmk
          obtain ⟨x, hx⟩ : ∃ x, a[m]? = some x := ⟨_, List.getElem?_eq_getElem hml⟩
          obtain ⟨x', hx'⟩ : ∃ x, a[m - 1]? = some x := ⟨_, List.getElem?_eq_getElem (by omega)⟩
          have e1 := Pl.gd_some hx
          have e2 := Pl.gd_some hx'
          rcases hA.row with h0 | ⟨b, off, rfl, hb, hca⟩
          · omega
          have f0 := (Bm.cell (p := ⟨b, off + m, none⟩) hb).trans (hca m x hx)
          have f1 := (Bm.cell (p := ⟨b, off + (m - 1), none⟩) hb).trans (hca (m - 1) x' hx')
          have hml := hid hml
          clear hx hx' hca
          by_cases hlt : x < x'
          · go_wp2_with fail
            go_quiet (fail)
            go_wp2
            go_ret
            have hm1 : m - 1 + 1 = m := by omega
            exact ⟨ret_int (Pl.err_order hlen.out h512.out hq.out (i := m - 1) (by rw [hm1]; exact hml.out) (by rw [hm1, e1, e2]; exact hlt)).symm, bdrewN Bm nq⟩
          · go_wp2_with fail
            go_quiet (fail)
            go_wp2
            go_roundw
            case rel =>
              refine ⟨m + 1, by simp, by omega, by omega, bdrewN Bm nq, fun j hj => ?_⟩
              by_cases hjm : j = m - 1
              · subst hjm
                have hm1 : m - 1 + 1 = m := by omega
                rw [hm1, e1, e2]; omega
              · exact hqm j (by omega)
            case measure => simp [intOf]; omega
        · go_wp2
          go_ret
          exact ⟨ret_int (Pl.err_ok hlen.out h512.out hq.out (fun i hi => hqm i (by rw [hN.out] at hi; omega))).symm, Bm⟩
set_option maxHeartbeats 1000000 in
theorem refCheck_any (A B : Option Addr) (a s : List Int) (c d : Nat) (lim : Int) (w : World) (hA : IsSl w A .i64 a) (hB : IsSl w B .i64 s) (hna : a.length ≤ 600) :
    Calls Try.prog 25 #[.slice A a.length c, .slice B s.length d, .int .i64 lim] w fun e w' => e = .returned (.int .i64 (Pl.errOf lim a s)) ∧ Below w.heap.size w w' := by
  by_cases hlen : a.length = s.length
  case neg =>
    have hne : ¬ ((a.length : Int) = s.length) := by omega
    go_enter Try.func25, Try.ntmps25
    go_wp2
    go_ret
    exact ⟨ret_int (Pl.err_len hlen).symm, Below.refl _ _⟩
  rw [← hlen]
  by_cases h512 : a.length ≤ 512
  case neg =>
    have hne : (512 : Int) < a.length := by omega
    go_enter Try.func25, Try.ntmps25
    go_wp2
    go_ret
    exact ⟨ret_int (Pl.err_long hlen (by omega)).symm, Below.refl _ _⟩
  generalize hN : a.length = n at *
  replace hN := hid hN
  replace hlen : a.length = s.length := by rw [hN.out]; exact hlen
  replace hlen := hid hlen
  replace h512 : a.length ≤ 512 ∧ n ≤ 512 := ⟨by rw [hN.out]; exact h512, h512⟩
  obtain ⟨h512, h512n⟩ := h512
  replace h512 := hid h512
  go_enter Try.func25, Try.ntmps25
  go_wp2
  go_loopw [7] (fun i wr => ∃ k : Nat, i = .int .i64 k ∧ k ≤ n ∧ Below w.heap.size w wr ∧ (∀ j, j < k → Pl.okM lim (Pl.gd a j) (Pl.gd s j) = true)) (fun i _ => n - (intOf i).toNat)
  case atStart => exact ⟨0, rfl, Nat.zero_le _, Below.refl _ _, fun j hj => absurd hj (Nat.not_lt_zero j)⟩
  case round =>
    obtain ⟨k, rfl, hk, Br, hq⟩ := hrel
    by_cases hkn : k < n
    · have hkl : k < a.length := by rw [hN.out]; exact hkn
      obtain ⟨x, hx⟩ : ∃ x, a[k]? = some x := ⟨_, List.getElem?_eq_getElem hkl⟩
      obtain ⟨y, hy⟩ : ∃ y, s[k]? = some y := ⟨_, List.getElem?_eq_getElem (by rw [← hlen.out]; exact hkl)⟩
      have ea := Pl.gd_some hx
      have es := Pl.gd_some hy
      rcases hA.row with h0 | ⟨b, off, rfl, hb, hca⟩
      · omega
      rcases hB.row with h0 | ⟨b', off', rfl, hb', hcb⟩
      · have := hlen.out; omega
      have f0 := (Br.cell (p := ⟨b, off + k, none⟩) hb).trans (hca k x hx)
      have f1 := (Br.cell (p := ⟨b', off' + k, none⟩) hb').trans (hcb k y hy)
      have hkl := hid hkl
      clear hx hy hca hcb
      by_cases h1 : x < 0
      · go_wp2
        go_ret
        exact ⟨ret_int (Pl.err_range hlen.out h512.out hkl.out (by rw [ea, es]; exact Pl.okM_false.2 (by omega))).symm, Br⟩
      by_cases h2 : lim < x
      · go_wp2
        go_ret
        exact ⟨ret_int (Pl.err_range hlen.out h512.out hkl.out (by rw [ea, es]; exact Pl.okM_false.2 (by omega))).symm, Br⟩
      by_cases h3 : y < 0
      · go_wp2
        go_ret
        exact ⟨ret_int (Pl.err_range hlen.out h512.out hkl.out (by rw [ea, es]; exact Pl.okM_false.2 (by omega))).symm, Br⟩
      by_cases h4 : 10000000000 < y
      · go_wp2
        go_ret
        exact ⟨ret_int (Pl.err_range hlen.out h512.out hkl.out (by rw [ea, es]; exact Pl.okM_false.2 (by omega))).symm, Br⟩
      go_wp2
      go_roundw
      case rel =>
        refine ⟨k + 1, by simp, by omega, Br, fun j hj => ?_⟩
        by_cases hjk : j = k
        · subst hjk
          rw [ea, es]
          exact Pl.okM_true.2 (by omega)
        · exact hq j (by omega)
      case measure => simp [intOf]; omega
    · have hkn2 : k = n := by omega
      subst hkn2
      replace hq : ∀ i, i < a.length → Pl.okM lim (Pl.gd a i) (Pl.gd s i) = true := by rw [hN.out]; exact hq
      replace hq := hid hq
      go_wp2
      go_loopw [8] (fun i wr => ∃ m : Nat, i = .int .i64 m ∧ 1 ≤ m ∧ m ≤ k + 1 ∧ Below w.heap.size w wr ∧ (∀ j, j + 1 < m → Pl.gd a j ≤ Pl.gd a (j + 1))) (fun i _ => k + 1 - (intOf i).toNat)
      case atStart => exact ⟨1, rfl, Nat.le_refl _, by omega, Br, fun j hj => absurd hj (by omega)⟩
      case round =>
        obtain ⟨m, rfl, hm, hmk1, Bm, hqm⟩ := hrel
        by_cases hmk : m < k
        · have hml : m < a.length := by rw [hN.out]; exact hmk
          obtain ⟨x, hx⟩ : ∃ x, a[m]? = some x := ⟨_, List.getElem?_eq_getElem hml⟩
          obtain ⟨x', hx'⟩ : ∃ x, a[m - 1]? = some x := ⟨_, List.getElem?_eq_getElem (by omega)⟩
          have e1 := Pl.gd_some hx
          have e2 := Pl.gd_some hx'
          rcases hA.row with h0 | ⟨b, off, rfl, hb, hca⟩
          · omega
          have f0 := (Bm.cell (p := ⟨b, off + m, none⟩) hb).trans (hca m x hx)
          have f1 := (Bm.cell (p := ⟨b, off + (m - 1), none⟩) hb).trans (hca (m - 1) x' hx')
          have hml := hid hml
          clear hx hx' hca
          by_cases hlt : x < x'
          · go_wp2_with fail
            go_quiet (fail)
            go_wp2
            go_ret
            have hm1 : m - 1 + 1 = m := by omega
            exact ⟨ret_int (Pl.err_order hlen.out h512.out hq.out (i := m - 1) (by rw [hm1]; exact hml.out) (by rw [hm1, e1, e2]; exact hlt)).symm, bdrewN Bm nq⟩
          · go_wp2_with fail
            go_quiet (fail)
            go_wp2
            go_roundw
            case rel =>
              refine ⟨m + 1, by simp, by omega, by omega, bdrewN Bm nq, fun j hj => ?_⟩
              by_cases hjm : j = m - 1
              · subst hjm
                have hm1 : m - 1 + 1 = m := by omega
                rw [hm1, e1, e2]; omega
              · exact hqm j (by omega)
            case measure => simp [intOf]; omega
        · go_wp2
          go_ret
          exact ⟨ret_int (Pl.err_ok hlen.out h512.out hq.out (fun i hi => hqm i (by rw [hN.out] at hi; omega))).symm, Bm⟩
end Go.Proofs.Ytpmndpbaigcaeaa
