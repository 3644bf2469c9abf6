/- The examples of the chapter on prng: awake answers true. And the walks of the laws PrngMixes, PrngNth, PrngBijective. -/
import Derived.Test.YtdfabmjkahhlmaaDoorRefPermC
namespace Go.Proofs.YtdfabmjkahhlmaaDoor
open Go Go.RowKit
theorem mix00 : Pl.mix 0 0 = 16294208416658607535 := by unfold Pl.mix; decide +kernel
set_option maxHeartbeats 1000000 in
theorem awake_any (w : World) (hR : Rnd w) : Calls Tryd.prog 13 #[] w fun e w' => e = .returned (.bool true) ∧ Below w.heap.size w w' := by
  have hlt := hR.lt
  have B0 := (Below.refl w.heap.size w).alloc (Nat.le_refl _) (.cells #[.int .u64 0, .int .u64 0] 53)
  have S0 : Src (w.alloc (.cells #[.int .u64 0, .int .u64 0] 53)) w.heap.size 53 0 0 := Bk.new _ _ _
  go_enter Tryd.func13, Tryd.ntmps13
  go_wp2_with fail
  refine (new_any 0 w).mono ?_
  rintro e w1 ⟨rfl, rfl⟩
  generalize w.alloc (.cells #[.int .u64 0, .int .u64 0] 53) = w0 at *
  have hR0 := hR.next B0
  go_wp2_with fail
  refine (range_no w.heap.size 5 4 (by omega) w0).mono ?_
  rintro e w1 ⟨rfl, rfl⟩
  have C := perm_any w.heap.size 0 0 1 (by omega) (by omega) (by omega) w0 hR0 (by omega) S0
  rw [Pl.permOf_one] at C
  have C := hid C
  go_wp2_with fail
  refine C.out.mono ?_
  clear C
  rintro e w1 ⟨rfl, P1, S1, ho⟩
  have B1 := ho.below B0 (Nat.le_refl _) B0.size
  have hR1 := hR.next B1
  have C := mix_any 0 0 w1 hR1
  rw [mix00] at C
  have C := hid C
  go_wp2_with fail
  refine C.out.mono ?_
  clear C
  rintro e w2 ⟨rfl, hb⟩
  have B2 := bstep B1 hb
  have hR2 := hR.next B2
  have S2 := Bk.next S1 hb
  have P2 := P1.next hb
  clear hb S1 P1 B1 hR1
  have B3 := B2.alloc (by have := B2.size; omega) (.cells #[.int .i64 0] 3)
  have S3 := Bk.alloc S2 (.cells #[.int .i64 0] 3)
  have C := equal_same _ _ 1 1 [0] _ (P2.alloc (.cells #[.int .i64 0] 3)).sl (IsSl.of_bk (k := .i64) [0] (Bk.new w2 3 #[.int .i64 0]) rfl) (by decide)
  have C := hid C
  go_wp2_with fail
  refine C.out.mono ?_
  clear C
  rintro e w4 ⟨rfl, hb⟩
  have B4 := bstep B3 hb
  have S4 := Bk.next S3 hb
  have C := next_any w.heap.size 0 0 (by omega) w4 (hR.next B4) S4
  rw [show Pl.mix 0 ((0 : Nat) : Int) = 16294208416658607535 from mix00] at C
  have C := hid C
  go_wp2_with fail
  refine C.out.mono ?_
  rintro e w5 ⟨rfl, S5, ho5⟩
  go_wp2
  go_ret
  exact ⟨rfl, ho5.below B4 (Nat.le_refl _) B4.size⟩
set_option maxHeartbeats 1000000 in
theorem prngMixes_walk (a b : Int) (W : World) (hR : Rnd W) : Calls Tryd.prog 3 #[.int .u64 a, .int .u64 b] W fun e w' => e = .returned (.bool true) ∧ Below W.heap.size W w' := by
  go_enter Tryd.func3, Tryd.ntmps3
  go_wp2_with fail
  refine (mix_any _ _ _ hR).mono ?_
  rintro e w1 ⟨rfl, hb⟩
  go_wp2_with fail
  refine (refMix_any _ _ _).mono ?_
  rintro e w1' ⟨rfl, rfl⟩
  go_wp2_with fail
  refine (awake_any _ (hR.next hb)).mono ?_
  rintro e w2 ⟨rfl, hb2⟩
  go_wp2
  go_ret
  exact ⟨rfl, bstep hb hb2⟩
end Go.Proofs.YtdfabmjkahhlmaaDoor
