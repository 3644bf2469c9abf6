/- The walk of the law PrngWithin. -/
import Derived.Test.YtdfabmjkahhlmaaDoorLaw2
namespace Go.Proofs.YtdfabmjkahhlmaaDoor
open Go Go.RowKit
/-- Two sources of one seed. -/
def Pair (W : World) (s t : Nat) (seed : Int) (i j : Nat) (w : World) : Prop := Src w s 53 seed i ∧ Src w t 53 seed j ∧ Below W.heap.size W w
section
variable {W w w' : World} {s t : Nat} {seed : Int} {i j k : Nat}
theorem Pair.next (h : Pair W s t seed i j w) (hb : Below w.heap.size w w') : Pair W s t seed i j w' := ⟨Bk.next h.1 hb, Bk.next h.2.1 hb, bstep h.2.2 hb⟩
theorem Pair.left (h : Pair W s t seed i j w) (hs : W.heap.size ≤ s) (ht : s < t) (S : Src w' s 53 seed k) (ho : Only s w w') : Pair W s t seed k j w' := ⟨S, ho.bk h.2.1 (by omega), ho.below h.2.2 hs h.2.2.size⟩
theorem Pair.right (h : Pair W s t seed i j w) (hs : W.heap.size ≤ s) (ht : s < t) (S : Src w' t 53 seed k) (ho : Only t w w') : Pair W s t seed i k w' := ⟨ho.bk h.1 (by omega), S, ho.below h.2.2 (by omega) h.2.2.size⟩
theorem Pair.rnd (h : Pair W s t seed i j w) (hR : Rnd W) : Rnd w := hR.next h.2.2
theorem Pair.mk2 (W : World) (seed : Int) : Pair W W.heap.size (W.alloc (.cells #[.int .u64 seed, .int .u64 0] 53)).heap.size seed 0 0 ((W.alloc (.cells #[.int .u64 seed, .int .u64 0] 53)).alloc (.cells #[.int .u64 seed, .int .u64 0] 53)) :=
  ⟨Bk.alloc (Bk.new _ _ _) _, Bk.new _ _ _, ((Below.refl W.heap.size W).alloc (Nat.le_refl _) _).alloc ((Below.refl W.heap.size W).alloc (Nat.le_refl _) _).size _⟩
end
theorem wrap64_i64 (x : Int) : IntKind.i64.wrap x = wrap64 x := by first | exact IntWalk.i64_left _ | exact (IntWalk.i64_left _).symm
theorem belowOf_wrap (seed : Int) (n : Nat) {m : Int} (h : 1 ≤ m ∧ m ≤ 9223372036854775807) : IntKind.i64.wrap (Pl.mix seed n % m) = Pl.mix seed n % m := by
  have h1 := Int.emod_nonneg (Pl.mix seed n) (show m ≠ 0 by omega)
  have h2 := Int.emod_lt_of_pos (Pl.mix seed n) (show 0 < m by omega)
  rw [IntKind.wrap_i64]
  omega
theorem rangeOf_in (seed : Int) (n : Nat) {lo hi : Int} (hlo : -9223372036854775808 ≤ lo) (hhi : hi ≤ 9223372036854775807) (h : lo ≤ hi) : lo ≤ rangeOf seed n lo hi ∧ rangeOf seed n lo hi ≤ hi := by
  have hx0 := Pl.mix_nonneg seed n
  have hx1 := Pl.mix_lt seed n
  unfold rangeOf rem0
  generalize Pl.mix seed n = x at *
  split
  · next h0 =>
    simp only [IntKind.wrap_u64, IntKind.wrap_i64] at *
    omega
  · next h0 =>
    have e : IntKind.u64.wrap (IntKind.u64.wrap (IntKind.u64.wrap hi - IntKind.u64.wrap lo) + 1) = hi - lo + 1 := by
      simp only [IntKind.wrap_u64] at *
      omega
    rw [e]
    have h1 := Int.emod_nonneg x (show hi - lo + 1 ≠ 0 by omega)
    have h2 := Int.emod_lt_of_pos x (show 0 < hi - lo + 1 by omega)
    generalize x % (hi - lo + 1) = y at *
    clear e h0
    simp only [IntKind.wrap_u64, IntKind.wrap_i64] at *
    omega
set_option maxHeartbeats 2000000 in
theorem prngWithin_walk (seed n lo hi : Int) (W : World) (hR : Rnd W) (hn : n ≤ 9223372036854775807) (hlo : -9223372036854775808 ≤ lo) (hhi : hi ≤ 9223372036854775807) :
    Calls Tryd.prog 6 #[.int .u64 seed, .int .i64 n, .int .i64 lo, .int .i64 hi] W fun e w' => e = .returned (.bool true) ∧ Below W.heap.size W w' := by
  have hs0 := hR.lt
  have P0 := Pair.mk2 W seed
  have hst : W.heap.size < (W.alloc (.cells #[.int .u64 seed, .int .u64 0] 53)).heap.size := by show _ < (W.heap.push _).size; rw [Array.size_push]; exact Nat.lt_succ_self _
  go_enter Tryd.func6, Tryd.ntmps6
  go_wp2_with fail
  refine (new_any seed W).mono ?_
  rintro e w1 ⟨rfl, rfl⟩
  go_wp2_with fail
  refine (new_any seed _).mono ?_
  rintro e w2 ⟨rfl, rfl⟩
  generalize (W.alloc (.cells #[.int .u64 seed, .int .u64 0] 53)).alloc (.cells #[.int .u64 seed, .int .u64 0] 53) = w0 at *
  generalize (W.alloc (.cells #[.int .u64 seed, .int .u64 0] 53)).heap.size = t at *
  obtain ⟨s, hs⟩ : ∃ s, s = W.heap.size := ⟨_, rfl⟩
  have hs1 : W.heap.size ≤ s := Nat.le_of_eq hs.symm
  have hst1 : s < t := hs ▸ hst
  rw [← hs] at P0 ⊢
  have hs2 : 0 < s := hs ▸ hs0
  clear hs hst hs0
  by_cases h1 : 1 ≤ n
  · have hb : Pl.belowOf seed 0 n = wrap64 (Pl.mix seed 0 % n) := (belowOf_wrap seed 0 ⟨h1, hn⟩).symm.trans (wrap64_i64 _)
    have C1 := hid (below_any s seed 0 (by omega) n ⟨h1, hn⟩ w0 (P0.rnd hR) P0.1)
    go_wp2_with fail
    refine C1.out.mono ?_
    rintro e w1 ⟨rfl, S1, ho1⟩
    have P1 := P0.left hs1 hst1 S1 ho1
    clear P0 C1 ho1
    go_wp2_with fail
    refine (next_any t seed 0 (by omega) w1 (P1.rnd hR) P1.2.1).mono ?_
    rintro e w2 ⟨rfl, S2, ho2⟩
    have P2 := P1.right hs1 hst1 S2 ho2
    clear P1 S1 S2 ho2
    have hx := Pl.mix_nonneg seed 0
    go_wp2_with fail
    by_cases h2 : lo ≤ hi
    · have hr := rangeOf_in seed 1 hlo hhi h2
      have C3 := hid (range_any s seed 1 (by omega) lo hi h2 w2 (P2.rnd hR) P2.1)
      refine C3.out.mono ?_
      rintro e w3 ⟨rfl, S3, ho3⟩
      have P3 := P2.left hs1 hst1 S3 ho3
      clear P2 C3 ho3
      go_wp2_with fail
      refine (next_any t seed 1 (by omega) w3 (P3.rnd hR) P3.2.1).mono ?_
      rintro e w4 ⟨rfl, S4, ho4⟩
      have P4 := P3.right hs1 hst1 S4 ho4
      clear P3 S3 S4 ho4
      have hx1 := Pl.mix_nonneg seed 1
      by_cases h3 : IntKind.u64.wrap (IntKind.u64.wrap (IntKind.u64.wrap hi - IntKind.u64.wrap lo) + 1) = 0
      · have e2 : rangeOf seed 1 lo hi = wrap64 (IntKind.u64.wrap (IntKind.u64.wrap lo + Pl.mix seed 1)) := by
          unfold rangeOf rem0; rw [if_pos h3]; exact wrap64_i64 _
        go_wp2_with fail
        refine (next_any s seed 2 (by omega) w4 (P4.rnd hR) P4.1).mono ?_
        rintro e w5 ⟨rfl, S5, ho5⟩
        have P5 := P4.left hs1 hst1 S5 ho5
        clear P4 S5 ho5
        go_wp2_with fail
        refine (next_any t seed 2 (by omega) w5 (P5.rnd hR) P5.2.1).mono ?_
        rintro e w6 ⟨rfl, S6, ho6⟩
        have P6 := P5.right hs1 hst1 S6 ho6
        clear P5 S6 ho6
        go_wp2_with fail
        refine (awake_any w6 (P6.rnd hR)).mono ?_
        rintro e w7 ⟨rfl, hb7⟩
        have P7 := P6.next hb7
        clear P6 hb7
        go_wp2
        go_ret
        exact ⟨rfl, P7.2.2⟩
      · have h4 := wrap_u64_nonneg (IntKind.u64.wrap (IntKind.u64.wrap hi - IntKind.u64.wrap lo) + 1)
        have h5 : 1 ≤ IntKind.u64.wrap (IntKind.u64.wrap (IntKind.u64.wrap hi - IntKind.u64.wrap lo) + 1) := by omega
        have e2 : rangeOf seed 1 lo hi = wrap64 (IntKind.u64.wrap (IntKind.u64.wrap lo + Pl.mix seed 1 % IntKind.u64.wrap (IntKind.u64.wrap (IntKind.u64.wrap hi - IntKind.u64.wrap lo) + 1))) := by
          unfold rangeOf rem0; rw [if_neg h3]; exact wrap64_i64 _
        go_wp2_with fail
        refine (next_any s seed 2 (by omega) w4 (P4.rnd hR) P4.1).mono ?_
        rintro e w5 ⟨rfl, S5, ho5⟩
        have P5 := P4.left hs1 hst1 S5 ho5
        clear P4 S5 ho5
        go_wp2_with fail
        refine (next_any t seed 2 (by omega) w5 (P5.rnd hR) P5.2.1).mono ?_
        rintro e w6 ⟨rfl, S6, ho6⟩
        have P6 := P5.right hs1 hst1 S6 ho6
        clear P5 S6 ho6
        go_wp2_with fail
        refine (awake_any w6 (P6.rnd hR)).mono ?_
        rintro e w7 ⟨rfl, hb7⟩
        have P7 := P6.next hb7
        clear P6 hb7
        go_wp2
        go_ret
        exact ⟨rfl, P7.2.2⟩
    · have h2' : hi < lo := by omega
      refine (range_no s lo hi h2' w2).mono ?_
      rintro e w3 ⟨rfl, rfl⟩
      go_wp2_with fail
      refine (next_any s seed 1 (by omega) w2 (P2.rnd hR) P2.1).mono ?_
      rintro e w5 ⟨rfl, S5, ho5⟩
      have P5 := P2.left hs1 hst1 S5 ho5
      clear P2 S5 ho5
      go_wp2_with fail
      refine (next_any t seed 1 (by omega) w5 (P5.rnd hR) P5.2.1).mono ?_
      rintro e w6 ⟨rfl, S6, ho6⟩
      have P6 := P5.right hs1 hst1 S6 ho6
      clear P5 S6 ho6
      go_wp2_with fail
      refine (awake_any w6 (P6.rnd hR)).mono ?_
      rintro e w7 ⟨rfl, hb7⟩
      have P7 := P6.next hb7
      clear P6 hb7
      go_wp2
      go_ret
      exact ⟨rfl, P7.2.2⟩
  · have h1' : n < 1 := by omega
    have P2 := P0
    clear P0
    go_wp2_with fail
    refine (below_no s n h1' w0).mono ?_
    rintro e w2 ⟨rfl, rfl⟩
    go_wp2_with fail
    by_cases h2 : lo ≤ hi
    · have hr := rangeOf_in seed 0 hlo hhi h2
      have C3 := hid (range_any s seed 0 (by omega) lo hi h2 w0 (P2.rnd hR) P2.1)
      refine C3.out.mono ?_
      rintro e w3 ⟨rfl, S3, ho3⟩
      have P3 := P2.left hs1 hst1 S3 ho3
      clear P2 C3 ho3
      go_wp2_with fail
      refine (next_any t seed 0 (by omega) w3 (P3.rnd hR) P3.2.1).mono ?_
      rintro e w4 ⟨rfl, S4, ho4⟩
      have P4 := P3.right hs1 hst1 S4 ho4
      clear P3 S3 S4 ho4
      have hx1 := Pl.mix_nonneg seed 0
      by_cases h3 : IntKind.u64.wrap (IntKind.u64.wrap (IntKind.u64.wrap hi - IntKind.u64.wrap lo) + 1) = 0
      · have e2 : rangeOf seed 0 lo hi = wrap64 (IntKind.u64.wrap (IntKind.u64.wrap lo + Pl.mix seed 0)) := by
          unfold rangeOf rem0; rw [if_pos h3]; exact wrap64_i64 _
        go_wp2_with fail
        refine (next_any s seed 1 (by omega) w4 (P4.rnd hR) P4.1).mono ?_
        rintro e w5 ⟨rfl, S5, ho5⟩
        have P5 := P4.left hs1 hst1 S5 ho5
        clear P4 S5 ho5
        go_wp2_with fail
        refine (next_any t seed 1 (by omega) w5 (P5.rnd hR) P5.2.1).mono ?_
        rintro e w6 ⟨rfl, S6, ho6⟩
        have P6 := P5.right hs1 hst1 S6 ho6
        clear P5 S6 ho6
        go_wp2_with fail
        refine (awake_any w6 (P6.rnd hR)).mono ?_
        rintro e w7 ⟨rfl, hb7⟩
        have P7 := P6.next hb7
        clear P6 hb7
        go_wp2
        go_ret
        exact ⟨rfl, P7.2.2⟩
      · have h4 := wrap_u64_nonneg (IntKind.u64.wrap (IntKind.u64.wrap hi - IntKind.u64.wrap lo) + 1)
        have h5 : 1 ≤ IntKind.u64.wrap (IntKind.u64.wrap (IntKind.u64.wrap hi - IntKind.u64.wrap lo) + 1) := by omega
        have e2 : rangeOf seed 0 lo hi = wrap64 (IntKind.u64.wrap (IntKind.u64.wrap lo + Pl.mix seed 0 % IntKind.u64.wrap (IntKind.u64.wrap (IntKind.u64.wrap hi - IntKind.u64.wrap lo) + 1))) := by
          unfold rangeOf rem0; rw [if_neg h3]; exact wrap64_i64 _
        go_wp2_with fail
        refine (next_any s seed 1 (by omega) w4 (P4.rnd hR) P4.1).mono ?_
        rintro e w5 ⟨rfl, S5, ho5⟩
        have P5 := P4.left hs1 hst1 S5 ho5
        clear P4 S5 ho5
        go_wp2_with fail
        refine (next_any t seed 1 (by omega) w5 (P5.rnd hR) P5.2.1).mono ?_
        rintro e w6 ⟨rfl, S6, ho6⟩
        have P6 := P5.right hs1 hst1 S6 ho6
        clear P5 S6 ho6
        go_wp2_with fail
        refine (awake_any w6 (P6.rnd hR)).mono ?_
        rintro e w7 ⟨rfl, hb7⟩
        have P7 := P6.next hb7
        clear P6 hb7
        go_wp2
        go_ret
        exact ⟨rfl, P7.2.2⟩
    · have h2' : hi < lo := by omega
      refine (range_no s lo hi h2' w0).mono ?_
      rintro e w3 ⟨rfl, rfl⟩
      go_wp2_with fail
      refine (next_any s seed 0 (by omega) w0 (P2.rnd hR) P2.1).mono ?_
      rintro e w5 ⟨rfl, S5, ho5⟩
      have P5 := P2.left hs1 hst1 S5 ho5
      clear P2 S5 ho5
      go_wp2_with fail
      refine (next_any t seed 0 (by omega) w5 (P5.rnd hR) P5.2.1).mono ?_
      rintro e w6 ⟨rfl, S6, ho6⟩
      have P6 := P5.right hs1 hst1 S6 ho6
      clear P5 S6 ho6
      go_wp2_with fail
      refine (awake_any w6 (P6.rnd hR)).mono ?_
      rintro e w7 ⟨rfl, hb7⟩
      have P7 := P6.next hb7
      clear P6 hb7
      go_wp2
      go_ret
      exact ⟨rfl, P7.2.2⟩
end Go.Proofs.YtdfabmjkahhlmaaDoor
