/- The walks of the laws PrngApart and PrngNobody. -/
import Derived.Test.YtdfabmjkahhlmaaDoorLaw4
namespace Go.Proofs.YtdfabmjkahhlmaaDoor
open Go Go.RowKit
def bVal (seed : Int) (n : Nat) (m : Int) : Int := if 1 ≤ m then Pl.belowOf seed n m else 0
def bStep (m : Int) : Nat := if 1 ≤ m then 1 else 0
theorem bStep_le (m : Int) : bStep m ≤ 1 := by unfold bStep; split <;> omega
theorem below_all (g : Nat) (seed : Int) (n : Nat) (hn : n ≤ 1099511627776) (m : Int) (hm : m ≤ 9223372036854775807) (w : World) (hR : Rnd w) (H : Src w g 53 seed n) :
    Calls Tryd.prog 16 #[pt g, .int .i64 m] w fun e w' => e = .returned (.int .i64 (bVal seed n m)) ∧ Src w' g 53 seed (n + bStep m) ∧ Only g w w' := by
  unfold bVal bStep
  by_cases h : 1 ≤ m
  · rw [if_pos h, if_pos h]
    exact below_any g seed n hn m ⟨h, hm⟩ w hR H
  · rw [if_neg h, if_neg h]
    refine (below_no g m (by omega) w).mono ?_
    rintro e w' ⟨rfl, rfl⟩
    exact ⟨rfl, H, Only.refl_⟩
set_option maxHeartbeats 2000000 in
theorem prngApart_walk (seed n a : Int) (W : World) (hR : Rnd W) (hn : 0 ≤ n ∧ n ≤ 255) (ha : a ≤ 9223372036854775807) :
    Calls Tryd.prog 9 #[.int .u64 seed, .int .u8 n, .int .i64 a] W fun e w' => e = .returned (.bool true) ∧ Below W.heap.size W w' := by
  obtain ⟨n, rfl⟩ := Int.eq_ofNat_of_zero_le hn.1
  have hs0 := hR.lt
  have P0 := Pair.mk2 W seed
  have hst : W.heap.size < (W.alloc (.cells #[.int .u64 seed, .int .u64 0] 53)).heap.size := by show _ < (W.heap.push _).size; rw [Array.size_push]; exact Nat.lt_succ_self _
  go_enter Tryd.func9, Tryd.ntmps9
  go_wp2_with fail
  refine (new_any seed W).mono ?_
  rintro e w1 ⟨rfl, rfl⟩
  go_wp2_with fail
  refine (new_any seed _).mono ?_
  rintro e w2 ⟨rfl, rfl⟩
  generalize (W.alloc (.cells #[.int .u64 seed, .int .u64 0] 53)).alloc (.cells #[.int .u64 seed, .int .u64 0] 53) = w0 at *
  generalize (W.alloc (.cells #[.int .u64 seed, .int .u64 0] 53)).heap.size = t at *
  obtain ⟨s, hs⟩ : ∃ s, s = W.heap.size := ⟨_, rfl⟩
  have hs1 : W.heap.size ≤ s := Nat.le_of_eq hs.symm
  have hst1 : s < t := hs ▸ hst
  rw [← hs] at P0 ⊢
  have hs2 : 0 < s := hs ▸ hs0
  clear hs hst hs0
  go_wp2_with fail
  refine (fork_any s seed 0 (by omega) w0 (P0.rnd hR) P0.1).mono ?_
  rintro e w1 ⟨f, rfl, hf, F1, S1, ho1⟩
  have P1 := P0.left hs1 hst1 S1 ho1
  have htf : t < f := Nat.lt_of_lt_of_le P0.2.1.lt hf
  clear P0 S1 ho1 hf
  go_wp2_with fail
  refine (next_any t seed 0 (by omega) w1 (P1.rnd hR) P1.2.1).mono ?_
  rintro e w2 ⟨rfl, S2, ho2⟩
  have P2 := P1.right hs1 hst1 S2 ho2
  have F2 := ho2.bk F1 (by omega)
  clear P1 S2 ho2 F1
  go_wp2_with fail
  refine (new_any (Pl.mix seed 0) _).mono ?_
  rintro e w3 ⟨rfl, rfl⟩
  have hfg : f < w2.heap.size := F2.lt
  have P3 := P2.alloc (.cells #[.int .u64 (Pl.mix seed 0), .int .u64 0] 53)
  have F3 := F2.alloc (.cells #[.int .u64 (Pl.mix seed 0), .int .u64 0] 53)
  have G3 : Src (w2.alloc (.cells #[.int .u64 (Pl.mix seed 0), .int .u64 0] 53)) w2.heap.size 53 (Pl.mix seed 0) 0 := Bk.new _ _ _
  clear P2 F2
  generalize w2.alloc (.cells #[.int .u64 (Pl.mix seed 0), .int .u64 0] 53) = w3 at *
  generalize w2.heap.size = g at *
  generalize hms : Pl.mix seed 0 = ms at *
  have HMS := hid hms
  clear hms
  have HH := hid (And.intro P3 (And.intro F3 G3))
  clear P3 F3 G3
  go_wp2
  go_loopw [34] (fun i wr => ∃ k : Nat, k ≤ n % 200 ∧ i = .int .u8 k ∧ Pair W s t seed (0 + 1) (0 + 1) wr ∧ ∃ j, j ≤ 2 * k ∧ Src wr f 53 ms j ∧ Src wr g 53 ms j) (fun i _ => n % 200 - (intOf i).toNat)
  case atStart =>
    obtain ⟨P3, F3, G3⟩ := HH.out
    exact ⟨0, Nat.zero_le _, rfl, P3, 0, Nat.zero_le _, F3, G3⟩
  case round =>
    clear HH
    obtain ⟨k, hk, rfl, P, j, hj, F, G⟩ := hrel
    have hbd : n % 200 < 200 := Nat.mod_lt _ (by omega)
    by_cases hlt : k < n % 200
    · have hlt' : (k : Int) < (n : Int) % 200 := by omega
      go_wp2_with fail
      refine (next_any f ms j (by omega) wr (P.rnd hR) F).mono ?_
      rintro e w4 ⟨rfl, F4, ho4⟩
      have G4 := ho4.bk G (by omega)
      have P4 : Pair W s t seed (0 + 1) (0 + 1) w4 := ⟨ho4.bk P.1 (by omega), ho4.bk P.2.1 (by omega), ho4.below P.2.2 (by omega) P.2.2.size⟩
      clear F G P ho4
      go_wp2_with fail
      refine (next_any g ms j (by omega) w4 (P4.rnd hR) G4).mono ?_
      rintro e w5 ⟨rfl, G5, ho5⟩
      have F5 := ho5.bk F4 (by omega)
      have P5 : Pair W s t seed (0 + 1) (0 + 1) w5 := ⟨ho5.bk P4.1 (by omega), ho5.bk P4.2.1 (by omega), ho5.below P4.2.2 (by omega) P4.2.2.size⟩
      clear F4 G4 P4 ho5
      go_wp2_with fail
      refine (below_all f ms (j + 1) (by omega) a ha w5 (P5.rnd hR) F5).mono ?_
      rintro e w6 ⟨rfl, F6, ho6⟩
      have G6 := ho6.bk G5 (by omega)
      have P6 : Pair W s t seed (0 + 1) (0 + 1) w6 := ⟨ho6.bk P5.1 (by omega), ho6.bk P5.2.1 (by omega), ho6.below P5.2.2 (by omega) P5.2.2.size⟩
      clear F5 G5 P5 ho6
      go_wp2_with fail
      refine (below_all g ms (j + 1) (by omega) a ha w6 (P6.rnd hR) G6).mono ?_
      rintro e w7 ⟨rfl, G7, ho7⟩
      have F7 := ho7.bk F6 (by omega)
      have P7 : Pair W s t seed (0 + 1) (0 + 1) w7 := ⟨ho7.bk P6.1 (by omega), ho7.bk P6.2.1 (by omega), ho7.below P6.2.2 (by omega) P6.2.2.size⟩
      clear F6 G6 P6 ho7
      have hbs := bStep_le a
      go_wp2
      go_roundw
      case rel => exact ⟨k + 1, by omega, by go_num, P7, _, by omega, F7, G7⟩
      case measure => simp [intOf]; omega
    · have hlt' : ¬ (k : Int) < (n : Int) % 200 := by omega
      clear F G
      go_wp2_with fail
      refine (next_any s seed (0 + 1) (by omega) wr (P.rnd hR) P.1).mono ?_
      rintro e w5 ⟨rfl, S5, ho5⟩
      have P5 := P.left hs1 hst1 S5 ho5
      clear P S5 ho5
      go_wp2_with fail
      refine (next_any t seed (0 + 1) (by omega) w5 (P5.rnd hR) P5.2.1).mono ?_
      rintro e w6 ⟨rfl, S6, ho6⟩
      have P6 := P5.right hs1 hst1 S6 ho6
      clear P5 S6 ho6
      go_wp2_with fail
      refine (awake_any w6 (P6.rnd hR)).mono ?_
      rintro e w7 ⟨rfl, hb7⟩
      have P7 := P6.next hb7
      clear P6 hb7
      go_wp2
      go_ret
      exact ⟨rfl, P7.2.2⟩
set_option maxHeartbeats 2000000 in
theorem prngNobody_walk (a b : Int) (W : World) (hR : Rnd W) :
    Calls Tryd.prog 10 #[.int .i64 a, .int .i64 b] W fun e w' => e = .returned (.bool true) ∧ Below W.heap.size W w' := by
  have hs0 := hR.lt
  have B0 := (Below.refl W.heap.size W).alloc (Nat.le_refl _) (.cells #[.int .u64 0, .int .u64 0] 53)
  have S0 : Src (W.alloc (.cells #[.int .u64 0, .int .u64 0] 53)) W.heap.size 53 0 0 := Bk.new _ _ _
  go_enter Tryd.func10, Tryd.ntmps10
  go_wp2_with fail
  refine (next_nil _).mono ?_
  rintro e w1 ⟨rfl, rfl⟩
  go_wp2_with fail
  refine (below_nil _ _).mono ?_
  rintro e w1 ⟨rfl, rfl⟩
  go_wp2_with fail
  refine (range_nil _ _ _).mono ?_
  rintro e w1 ⟨rfl, rfl⟩
  go_wp2_with fail
  refine (perm_nil _ _).mono ?_
  rintro e w1 ⟨rfl, rfl⟩
  go_wp2_with fail
  refine (fork_nil _).mono ?_
  rintro e w1 ⟨rfl, rfl⟩
  generalize W.alloc (.cells #[.int .u64 0, .int .u64 0] 53) = w0 at *
  go_wp2_with fail
  refine (next_any _ 0 0 (by omega) w0 (hR.next B0) S0).mono ?_
  rintro e w2 ⟨rfl, S2, ho2⟩
  have B2 := ho2.below B0 (Nat.le_refl _) B0.size
  clear S0 B0 ho2
  go_wp2_with fail
  refine (mix_any _ _ _ (hR.next B2)).mono ?_
  rintro e w3 ⟨rfl, hb3⟩
  have B3 := bstep B2 hb3
  have S3 := Bk.next S2 hb3
  clear S2 B2 hb3
  go_wp2_with fail
  refine (next_any _ 0 (0 + 1) (by omega) w3 (hR.next B3) S3).mono ?_
  rintro e w4 ⟨rfl, S4, ho4⟩
  have B4 := ho4.below B3 (Nat.le_refl _) B3.size
  clear S3 B3 ho4 S4
  go_wp2_with fail
  refine (mix_any _ _ _ (hR.next B4)).mono ?_
  rintro e w5 ⟨rfl, hb5⟩
  have B5 := bstep B4 hb5
  clear B4 hb5
  go_wp2_with fail
  refine (awake_any _ (hR.next B5)).mono ?_
  rintro e w6 ⟨rfl, hb6⟩
  go_wp2
  go_ret
  exact ⟨rfl, bstep B5 hb6⟩
end Go.Proofs.YtdfabmjkahhlmaaDoor
