/- The walks of the laws PrngNth and PrngBijective. -/
import Derived.Test.YtdfabmjkahhlmaaDoorLaw1
namespace Go.Proofs.YtdfabmjkahhlmaaDoor
open Go Go.RowKit
theorem start_wrap_left (a b : Int) : Pl.start (IntKind.u64.wrap a) b = Pl.start a b := by
  unfold Pl.start
  rw [IntKind.wrap_u64, Int.add_emod, Int.emod_emod_of_dvd _ (Int.dvd_refl _), ← Int.add_emod]
theorem start_wrap_right (a b : Int) : Pl.start a (IntKind.u64.wrap (b + 1)) = Pl.start a (b + 1) := by
  unfold Pl.start
  rw [IntKind.wrap_u64]
  have e : (b + 1) % 18446744073709551616 + 1 = (b + 1 + 1) - 18446744073709551616 * ((b + 1) / 18446744073709551616) := by
    have := Int.emod_add_mul_ediv (b + 1) 18446744073709551616
    omega
  have e2 : a + 11400714819323198485 * ((b + 1) % 18446744073709551616 + 1) = a + 11400714819323198485 * (b + 1 + 1) + 18446744073709551616 * (-(11400714819323198485 * ((b + 1) / 18446744073709551616))) := by
    rw [e, Int.mul_sub, Int.mul_left_comm 11400714819323198485 18446744073709551616, Int.mul_neg]
    omega
  rw [e2, Int.add_mul_emod_self_left]
theorem mix_step (a b : Int) : Pl.mix (IntKind.u64.wrap (a + 11400714819323198485)) b = Pl.mix a (IntKind.u64.wrap (b + 1)) := by
  have e := Pl.mix_next a b
  have e1 : Pl.mix (IntKind.u64.wrap (a + 11400714819323198485)) b = Pl.mix (a + 11400714819323198485) b := by
    unfold Pl.mix; rw [start_wrap_left]
  have e2 : Pl.mix a (IntKind.u64.wrap (b + 1)) = Pl.mix a (b + 1) := by
    unfold Pl.mix; rw [start_wrap_right]
  rw [e1, e2, e]
set_option maxHeartbeats 1000000 in
theorem prngBijective_walk (a b c : Int) (W : World) (hR : Rnd W) (hb : 0 ≤ b ∧ b ≤ 18446744073709551615) (hc : 0 ≤ c ∧ c ≤ 18446744073709551615) :
    Calls Tryd.prog 5 #[.int .u64 a, .int .u64 b, .int .u64 c] W fun e w' => e = .returned (.bool true) ∧ Below W.heap.size W w' := by
  have E : (Pl.mix a b == Pl.mix a c) = (b == c) := by
    rw [Bool.eq_iff_iff]
    simp only [beq_iff_eq]
    exact ⟨fun h => Pl.mix_inj_right (by omega) (by omega) h, fun h => by rw [h]⟩
  have HS := hid (mix_step a b)
  clear hb hc
  go_enter Tryd.func5, Tryd.ntmps5
  go_wp2_with fail
  refine (mix_any _ _ _ hR).mono ?_
  rintro e w1 ⟨rfl, hb1⟩
  have B1 := hb1
  go_wp2_with fail
  refine (mix_any _ _ _ (hR.next B1)).mono ?_
  rintro e w2 ⟨rfl, hb2⟩
  have B2 := bstep B1 hb2
  have C := mix_any (IntKind.u64.wrap (a + 11400714819323198485)) b w2 (hR.next B2)
  rw [HS.out] at C
  have C := hid C
  go_wp2_with fail
  refine C.out.mono ?_
  rintro e w3 ⟨rfl, hb3⟩
  have B3 := bstep B2 hb3
  go_wp2_with fail
  refine (mix_any _ _ _ (hR.next B3)).mono ?_
  rintro e w4 ⟨rfl, hb4⟩
  have B4 := bstep B3 hb4
  go_wp2_with fail
  refine (awake_any _ (hR.next B4)).mono ?_
  rintro e w5 ⟨rfl, hb5⟩
  go_wp2
  go_ret
  exact ⟨rfl, bstep B4 hb5⟩
set_option maxHeartbeats 1000000 in
theorem prngNth_walk (seed : Int) (n : Int) (W : World) (hR : Rnd W) (hn : 0 ≤ n ∧ n ≤ 65535) :
    Calls Tryd.prog 4 #[.int .u64 seed, .int .u16 n] W fun e w' => e = .returned (.bool true) ∧ Below W.heap.size W w' := by
  obtain ⟨n, rfl⟩ := Int.eq_ofNat_of_zero_le hn.1
  have hlt := hR.lt
  have B0 := (Below.refl W.heap.size W).alloc (Nat.le_refl _) (.cells #[.int .u64 seed, .int .u64 0] 53)
  have S0 : Src (W.alloc (.cells #[.int .u64 seed, .int .u64 0] 53)) W.heap.size 53 seed 0 := Bk.new _ _ _
  go_enter Tryd.func4, Tryd.ntmps4
  go_wp2_with fail
  refine (new_any seed W).mono ?_
  rintro e w1 ⟨rfl, rfl⟩
  generalize W.alloc (.cells #[.int .u64 seed, .int .u64 0] 53) = w0 at *
  go_wp2
  go_loopw [15] (fun i wr => ∃ k : Nat, k ≤ n % 300 + 1 ∧ i = .int .u64 k ∧ Src wr W.heap.size 53 seed k ∧ Below W.heap.size W wr) (fun i _ => n % 300 + 1 - (intOf i).toNat)
  case atStart => exact ⟨0, Nat.zero_le _, rfl, S0, B0⟩
  case round =>
    clear S0 B0
    obtain ⟨k, hk, rfl, S, B⟩ := hrel
    have hbd : n % 300 < 300 := Nat.mod_lt _ (by omega)
    by_cases hlt : k < n % 300 + 1
    · have hlt' : (k : Int) < (n : Int) % 300 + 1 := by omega
      have C := hid (next_any W.heap.size seed k (by omega) wr (hR.next B) S)
      go_wp2_with fail
      refine C.out.mono ?_
      rintro e w2 ⟨rfl, S2, ho⟩
      have B2 := ho.below B (Nat.le_refl _) B.size
      go_wp2_with fail
      refine (mix_any _ _ _ (hR.next B2)).mono ?_
      rintro e w3 ⟨rfl, hb3⟩
      go_wp2
      go_roundw
      case rel => exact ⟨k + 1, by omega, by go_num, Bk.next S2 hb3, bstep B2 hb3⟩
      case measure => simp [intOf]; omega
    · have hlt' : ¬ (k : Int) < (n : Int) % 300 + 1 := by omega
      go_wp2_with fail
      refine (awake_any _ (hR.next B)).mono ?_
      rintro e w5 ⟨rfl, hb5⟩
      go_wp2
      go_ret
      exact ⟨rfl, bstep B hb5⟩
end Go.Proofs.YtdfabmjkahhlmaaDoor
