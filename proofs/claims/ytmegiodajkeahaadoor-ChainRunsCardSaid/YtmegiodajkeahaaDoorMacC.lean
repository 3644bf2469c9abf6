/- The contracts of mac.Check, mac.Derive, and of the reference's Tag and Derive. -/
import Derived.Test.YtmegiodajkeahaaDoorTagC
namespace Go.Proofs.YtmegiodajkeahaaDoor
open Go Go.RowKit

set_option maxHeartbeats 400000 in
theorem check_any (k0 k1 : Int) (A : Option Addr) (c : Nat) (xs : List Int) (t : Int) (w : World) (hR : Rnd w) (hS : IsSl w A .u8 xs) (hx : ∀ x ∈ xs, 0 ≤ x ∧ x ≤ 255) (hn : xs.length ≤ 1000000000) :
    Calls Tryd.prog 50 #[.agg #[.int .u64 k0, .int .u64 k1], .slice A xs.length c, .int .u64 t] w fun e w' => e = .returned (.bool (Pl.tagOf k0 k1 xs == t)) ∧ Below w.heap.size w w' := by
  have HX := hid hx
  clear hx
  go_enter Tryd.func50, Tryd.ntmps50
  go_wp2_with fail
  refine (tag_any k0 k1 A c xs _ (hR.next ((Below.refl _ _).alloc (Nat.le_refl _) _)) (hS.next ((Below.refl _ _).alloc (Nat.le_refl _) _)) HX.out hn).mono ?_
  rintro e w1 ⟨rfl, hb1⟩
  go_wp2
  go_ret
  exact ⟨rfl, bup ((Below.refl _ _).alloc (Nat.le_refl _) _) hb1 (by simp)⟩
set_option maxHeartbeats 400000 in
theorem derive_any (k0 k1 : Int) (A : Option Addr) (c : Nat) (xs : List Int) (w : World) (hR : Rnd w) (hS : IsSl w A .u8 xs) (hx : ∀ x ∈ xs, 0 ≤ x ∧ x ≤ 255) (hn : xs.length ≤ 1000000000) :
    Calls Tryd.prog 35 #[.agg #[.int .u64 k0, .int .u64 k1], .slice A xs.length c] w fun e w' => e = .returned (.agg #[.int .u64 (Pl.d1 k0 k1 xs), .int .u64 (Pl.d2 k0 k1 xs)]) ∧ Below w.heap.size w w' := by
  have HX := hid hx
  clear hx
  go_enter Tryd.func35, Tryd.ntmps35
  go_wp2_with fail
  have hb0 : ∀ o o', Below w.heap.size w ((w.alloc o).alloc o') := fun _ _ => ((Below.refl _ _).alloc (Nat.le_refl _) _).alloc (by simp) _
  refine (tag_any k0 k1 A c xs _ (hR.next (hb0 _ _)) (hS.next (hb0 _ _)) HX.out hn).mono ?_
  rintro e w1 ⟨rfl, hb1⟩
  have hbb : Below w.heap.size w w1 := bup (hb0 _ _) hb1 (by simp)
  have HK : Bk w1 (w.heap.size + 1) 37 #[.int .u64 0, .int .u64 0] := by
    have := (Bk.new (w.alloc (.cells #[.int .u64 k0, .int .u64 k1] 37)) 37 #[.int .u64 0, .int .u64 0]).next hb1
    simpa using this
  have hR1 := hR.next hbb
  go_wp2_with fail
  refine (mix_any _ _ _ hR1).mono ?_
  rintro e w2 ⟨rfl, hb2⟩
  have hR2 := hR1.next hb2
  have HK2 := HK.next hb2
  go_wp2_with fail
  refine (mix_any _ _ _ hR2).mono ?_
  rintro e w3 ⟨rfl, hb3⟩
  have HK3 := HK2.next hb3
  have c0 := HK3.cell 0
  have c1 := HK3.cell 1
  have f0 := HK3.free 0
  have f1 := HK3.free 1
  simp only [List.getElem?_toArray, List.getElem?_cons_zero, List.getElem?_cons_succ] at c0 c1
  have hbb3 : Below w.heap.size w w3 := bstep hbb (bstep hb2 hb3)
  go_wp2
  refine bodyPost_ret (results_cell_row rfl _ _ (w.heap.size + 1) 37 #[.int .u64 (Pl.d1 k0 k1 xs), .int .u64 (Pl.d2 k0 k1 xs)] (0, 0) _ rfl ((HK3.put 0 _).put 1 _) Tryd.underlying37 rfl (by kernel_rfl)) rfl ⟨rfl, ?_⟩
  exact (hbb3.setCell (by dsimp only; omega) _).setCell (by dsimp only; omega) _
set_option maxHeartbeats 400000 in
theorem refTag_any (k0 k1 : Int) (A : Option Addr) (c : Nat) (xs : List Int) (w : World) (hS : IsSl w A .u8 xs) (hx : ∀ x ∈ xs, 0 ≤ x ∧ x ≤ 255) (hn : xs.length ≤ 1000000000) :
    Calls Tryd.prog 23 #[.agg #[.int .u64 k0, .int .u64 k1], .slice A xs.length c] w fun e w' => e = .returned (.int .u64 (Pl.tagOf k0 k1 xs)) ∧ Below w.heap.size w w' := by
  have hS' : IsSl (w.alloc (.cells #[.int .u64 k0, .int .u64 k1] 37)) A .u8 xs := hS.next ((Below.refl _ _).alloc (Nat.le_refl _) _)
  clear hS
  have HB := hid ((Below.refl w.heap.size w).alloc (Nat.le_refl _) (.cells #[.int .u64 k0, .int .u64 k1] 37))
  generalize hN : xs.length = n at hn ⊢
  have HN := hid hN
  have HX := hid hx
  clear hN hx
  go_enter Tryd.func23, Tryd.ntmps23
  go_wp2_with fail
  refine (refMix_any _ _ _).mono ?_
  rintro e w1 ⟨rfl, rfl⟩
  generalize w.alloc (.cells #[.int .u64 k0, .int .u64 k1] 37) = w1 at *
  go_wp2
  go_loop [5, 6] (fun h i => ∃ j : Nat, 8 * j < n + 8 ∧ i = .int .i64 ((8 * j : Nat) : Int) ∧ h = .int .u64 (Pl.refH k0 k1 xs (8 * j))) (fun _ i => n + 8 - (intOf i).toNat)
  case atStart => exact ⟨0, by omega, rfl, rfl⟩
  case round =>
    obtain ⟨j, hj, rfl, rfl⟩ := hrel
    by_cases hlt : 8 * j < n
    · go_wp2
      go_loop [7, 8] (fun wd k => ∃ m : Nat, m ≤ 8 ∧ 8 * j + m ≤ n ∧ k = .int .i64 m ∧ wd = .int .u64 (Pl.word (Pl.seg xs (8 * j) m))) (fun _ k => 8 - (intOf k).toNat)
      case atStart => exact ⟨0, by omega, by omega, rfl, rfl⟩
      case round =>
        obtain ⟨m, hm8, hmn, rfl, rfl⟩ := hrel
        by_cases hc : m < 8 ∧ 8 * j + m < n
        · obtain ⟨h8, hin⟩ := hc
          obtain ⟨x, hx⟩ : ∃ x, xs[8 * j + m]? = some x := ⟨xs[8 * j + m]'(by have := HN.out; omega), List.getElem?_eq_getElem _⟩
          have hx255 := HX.out x (List.mem_of_getElem? hx)
          rcases hS'.row with h0 | ⟨bb, off, rfl, hbb', hcell⟩
          · have := HN.out; omega
          · have hc1 : w1.cell? ⟨bb, off + (8 * j + m), none⟩ = some (.int .u8 x) := hcell _ x hx
            have HK := hid (And.intro hx (Pl.word_seg_range xs (8 * j) m HX.out (by rw [HN.out]; exact hmn)))
            clear hx hcell hS'
            go_wp2
            go_round
            case rel => exact ⟨m + 1, by omega, by omega, by go_num, by
              rw [Pl.word_seg HK.out.1, Pl.add_shift _ x m h8 hx255 HK.out.2]⟩
            case measure => simp [intOf]; omega
        · have HE := hid (Pl.seg_end (xs := xs) (i := 8 * j) hm8 (fun h => by have := HN.out; omega))
          by_cases h8 : m < 8
          all_goals
            go_wp2_with fail
            refine (refMix_any _ _ _).mono ?_
            rintro e w2 ⟨rfl, rfl⟩
            go_wp2
            go_round
            case rel => exact ⟨j + 1, by omega, by go_num, by rw [HE.out, ← Pl.refH_next k0 k1 xs j HX.out (by rw [HN.out]; exact hlt)]⟩
            case measure => simp [intOf]; omega
    · go_wp2_with fail
      refine (refMix_any _ _ _).mono ?_
      rintro e w2 ⟨rfl, rfl⟩
      go_wp2
      go_ret
      refine ⟨ret_int ?_, HB.out⟩
      have := Pl.refH_end k0 k1 xs (8 * j) (by have := HN.out; omega)
      rw [HN.out] at this
      exact this
set_option maxHeartbeats 400000 in
theorem refDerive_any (k0 k1 : Int) (A : Option Addr) (c : Nat) (xs : List Int) (w : World) (hS : IsSl w A .u8 xs) (hx : ∀ x ∈ xs, 0 ≤ x ∧ x ≤ 255) (hn : xs.length ≤ 1000000000) :
    Calls Tryd.prog 24 #[.agg #[.int .u64 k0, .int .u64 k1], .slice A xs.length c] w fun e w' => e = .returned (.agg #[.int .u64 (Pl.d1 k0 k1 xs), .int .u64 (Pl.d2 k0 k1 xs)]) ∧ Below w.heap.size w w' := by
  have HX := hid hx
  clear hx
  go_enter Tryd.func24, Tryd.ntmps24
  go_wp2_with fail
  have hb0 : ∀ o o', Below w.heap.size w ((w.alloc o).alloc o') := fun _ _ => ((Below.refl _ _).alloc (Nat.le_refl _) _).alloc (by simp) _
  refine (refTag_any k0 k1 A c xs _ (hS.next (hb0 _ _)) HX.out hn).mono ?_
  rintro e w1 ⟨rfl, hb1⟩
  have hbb : Below w.heap.size w w1 := bup (hb0 _ _) hb1 (by simp)
  have HK : Bk w1 (w.heap.size + 1) 37 #[.int .u64 0, .int .u64 0] := by
    have := (Bk.new (w.alloc (.cells #[.int .u64 k0, .int .u64 k1] 37)) 37 #[.int .u64 0, .int .u64 0]).next hb1
    simpa using this
  go_wp2_with fail
  refine (refMix_any _ _ _).mono ?_
  rintro e w2 ⟨rfl, rfl⟩
  go_wp2_with fail
  refine (refMix_any _ _ _).mono ?_
  rintro e w3 ⟨rfl, rfl⟩
  have c0 := HK.cell 0
  have c1 := HK.cell 1
  have f0 := HK.free 0
  have f1 := HK.free 1
  simp only [List.getElem?_toArray, List.getElem?_cons_zero, List.getElem?_cons_succ] at c0 c1
  go_wp2
  refine bodyPost_ret (results_cell_row rfl _ _ (w.heap.size + 1) 37 #[.int .u64 (Pl.d1 k0 k1 xs), .int .u64 (Pl.d2 k0 k1 xs)] (0, 0) _ rfl ((HK.put 0 _).put 1 _) Tryd.underlying37 rfl (by kernel_rfl)) rfl ⟨rfl, ?_⟩
  exact (hbb.setCell (by dsimp only; omega) _).setCell (by dsimp only; omega) _
end Go.Proofs.YtmegiodajkeahaaDoor
