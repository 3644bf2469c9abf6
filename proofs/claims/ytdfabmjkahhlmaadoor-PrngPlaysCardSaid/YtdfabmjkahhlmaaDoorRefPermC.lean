/- The contracts of the reference's Perm and Fork. -/
import Derived.Test.YtdfabmjkahhlmaaDoorRefC
namespace Go.Proofs.YtdfabmjkahhlmaaDoor
open Go Go.RowKit
set_option maxHeartbeats 2000000 in
theorem refPerm_any (g : Nat) (seed : Int) (n m : Nat) (hn : n ≤ 1000000000) (hm1 : 1 ≤ m) (hm2 : m ≤ 4096) (w : World) (H : Src w g 62 seed n) :
    Calls Tryd.prog 24 #[pt g, .int .i64 (m : Int)] w fun e w' => e = .returned (.slice (some ⟨w.heap.size, 0, none⟩) m m) ∧ Bk w' w.heap.size 3 (ints .i64 (Pl.permOf seed n m)) ∧ Src w' g 62 seed (n + (m - 1)) ∧ Only g w w' := by
  have hmk := run_make_ints (P := Tryd.prog) 35 3 .i64 8 Tryd.underlying35 info_int .i64 .i64 m (by omega) (by omega)
  have hgl := Bk.lt H
  have K0 : Bk (w.alloc (.cells (ints .i64 (List.replicate m 0)) 3)) w.heap.size 3 (ints .i64 (Pl.initTo m 0)) := by rw [Pl.initTo_zero]; exact Bk.new _ _ _
  have O0 : Only g w (w.alloc (.cells (ints .i64 (List.replicate m 0)) 3)) := Only.refl_.alloc _
  have H0 : Src (w.alloc (.cells (ints .i64 (List.replicate m 0)) 3)) g 62 seed n := Bk.alloc H _
  have KO := hid (And.intro K0 (And.intro H0 O0))
  clear K0 O0 H0
  go_enter Tryd.func24, Tryd.ntmps24
  go_wp2
  go_loopw [6] (fun i wr => ∃ k : Nat, k ≤ m ∧ i = .int .i64 k ∧ Bk wr w.heap.size 3 (ints .i64 (Pl.initTo m k)) ∧ Src wr g 62 seed n ∧ Only g w wr) (fun i _ => m - (intOf i).toNat)
  case atStart => exact ⟨0, Nat.zero_le _, rfl, KO.out⟩
  case round =>
    clear KO hmk
    obtain ⟨k, hk, rfl, K, HS, HO⟩ := hrel
    by_cases hlt : k < m
    · obtain ⟨x, hx⟩ : ∃ x, (Pl.initTo m k)[k]? = some x := ⟨_, List.getElem?_eq_getElem (by rw [Pl.initTo_length]; exact hlt)⟩
      have c0 := K.int hx
      have f0 := K.free k
      have HX := hid hx
      clear hx
      go_wp2
      go_roundw
      case rel => exact ⟨k + 1, by omega, by go_num, by rw [← Pl.initTo_next]; exact K.set_int k _, Bk.far HS (by dsimp only; omega) _, HO.fresh (by dsimp only; omega) _⟩
      case measure => simp [intOf]; omega
    · obtain rfl : m = k := by omega
      clear hlt
      go_wp2
      obtain ⟨wo, rfl⟩ : ∃ wo : World, wo = wr := ⟨_, rfl⟩
      go_loopw [7] (fun i wr => ∃ k : Nat, k ≤ m - 1 ∧ i = .int .i64 ((m - 1 - k : Nat) : Int) ∧ Bk wr w.heap.size 3 (ints .i64 (Pl.permTo seed n m k)) ∧ Src wr g 62 seed (n + k) ∧ Only g w wr) (fun i _ => (intOf i).toNat)
      case atStart => exact ⟨0, Nat.zero_le _, by rw [show ((m - 1 - 0 : Nat) : Int) = (m : Int) - 1 from by omega], K, HS, HO⟩
      case round =>
        clear K HS HO
        obtain ⟨k, hk, rfl, K, HS, HO⟩ := hrel
        by_cases hlt : k < m - 1
        · have hi1 : (1 : Int) ≤ ((m - 1 - k : Nat) : Int) := by omega
          have C := refBelow_any g seed (n + k) (by omega) (((m - 1 - k : Nat) : Int) + 1) (by omega) wr HS
          have hb := Pl.belowOf_range seed (n + k) (m := ((m - 1 - k : Nat) : Int) + 1) (by omega)
          obtain ⟨j, hj⟩ : ∃ j : Nat, Pl.belowOf seed (n + k) (((m - 1 - k : Nat) : Int) + 1) = (j : Int) := ⟨_, (Int.toNat_of_nonneg hb.1).symm⟩
          rw [hj] at C hb
          have HJ := hid hj
          clear hj
          have hlen := Pl.permTo_length seed n m k
          obtain ⟨i, hi⟩ : ∃ i : Nat, i = m - 1 - k := ⟨_, rfl⟩
          rw [← hi] at C hb hi1 ⊢
          have hi2 : (i : Int) ≤ 4096 := by omega
          have him : (i : Int) < (m : Int) := by omega
          have HI := hid hi
          clear hi
          have C := hid C
          have HL := hid hlen
          clear hlen
          go_wp2_with fail
          refine C.out.mono ?_
          clear C
          rintro e w2 ⟨rfl, HS2, HO2⟩
          have K2 := HO2.bk K (by omega)
          obtain ⟨x, hx⟩ : ∃ x, (Pl.permTo seed n m k)[i]? = some x := ⟨_, List.getElem?_eq_getElem (by rw [HL.out]; omega)⟩
          obtain ⟨y, hy⟩ : ∃ y, (Pl.permTo seed n m k)[j]? = some y := ⟨_, List.getElem?_eq_getElem (by rw [HL.out]; omega)⟩
          have ci := K2.int hx
          have cj := K2.int hy
          have fi := K2.free i
          have fj := K2.free j
          have hj0 : (0 : Int) ≤ (j : Int) := by omega
          have hjm : (j : Int) < (m : Int) := by omega
          obtain ⟨v', hv'⟩ := cell?_setCell_some (w := w2) (p := ⟨w.heap.size, i, none⟩) (x := .int .i64 y) (q := ⟨w.heap.size, j, none⟩) (v := .int .i64 y) (by go_simp)
          have HXY := hid (And.intro hx hy)
          clear hx hy
          go_wp2
          have hi := HI.out
          have hj := HJ.out
          rw [← hi] at hj
          have hnx : Pl.permTo seed n m (k + 1) = ((Pl.permTo seed n m k).set i y).set j x := by
            rw [Pl.permTo, ← hi, hj, Int.toNat_natCast]
            unfold Pl.swp
            rw [show (Pl.permTo seed n m k).getD j 0 = y from by simp [List.getD, HXY.out.2], show (Pl.permTo seed n m k).getD i 0 = x from by simp [List.getD, HXY.out.1]]
          refine ⟨⟨k + 1, by omega, by rw [show ((m - 1 - (k + 1) : Nat) : Int) = (i : Int) - 1 from by omega], ?_, ?_, ?_⟩, by simp [intOf]; omega⟩
          · rw [hnx]; exact (K2.set_int i y).set_int j x
          · exact Bk.far (Bk.far HS2 (by dsimp only; omega) _) (by dsimp only; omega) _
          · exact (((HO.trans_ HO2).fresh (by dsimp only; omega) _).fresh (by dsimp only; omega) _)
        · obtain rfl : k = m - 1 := by omega
          have h0 : ((m - 1 - (m - 1) : Nat) : Int) = 0 := by omega
          rw [h0]
          clear h0
          go_wp2
          go_ret
          exact ⟨rfl, K, HS, HO⟩
theorem refPerm_no (g : Nat) (m : Int) (hm : m < 1 ∨ 4096 < m) (w : World) : Calls Tryd.prog 24 #[pt g, .int .i64 m] w fun e w' => e = .returned (.slice none 0 0) ∧ w = w' := by
  rcases hm with hm | hm
  · go_enter Tryd.func24, Tryd.ntmps24
    go_wp2
    go_ret
    exact ⟨rfl, rfl⟩
  · have h1 : decide (m < 1) = false := by simp; omega
    go_enter Tryd.func24, Tryd.ntmps24
    go_wp2
    go_ret
    exact ⟨rfl, rfl⟩
set_option maxHeartbeats 1000000 in
theorem refFork_any (g : Nat) (seed : Int) (n : Nat) (hn : n ≤ 1099511627776) (w : World) (H : Src w g 62 seed n) :
    Calls Tryd.prog 26 #[pt g] w fun e w' => ∃ h, e = .returned (pt h) ∧ w.heap.size ≤ h ∧ Src w' h 62 (Pl.mix seed n) 0 ∧ Src w' g 62 seed (n + 1) ∧ Only g w w' := by
  go_enter Tryd.func26, Tryd.ntmps26
  go_wp2_with fail
  refine (refNext_any g seed n hn _ H).mono ?_
  rintro e w1 ⟨rfl, H1, ho⟩
  go_wp2_with fail
  refine (refNew_any _ _).mono ?_
  rintro e w2 ⟨rfl, rfl⟩
  go_wp2
  go_ret
  exact ⟨w1.heap.size, rfl, ho.size, Bk.new _ _ _, Bk.alloc H1 _, ho.alloc _⟩
end Go.Proofs.YtdfabmjkahhlmaaDoor
