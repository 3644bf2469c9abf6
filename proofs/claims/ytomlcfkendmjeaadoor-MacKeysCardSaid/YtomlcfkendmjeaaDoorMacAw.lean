/- The examples of the chapter on mac: awake answers true. -/
import Derived.Test.YtomlcfkendmjeaaDoorMacC
import Derived.Test.YtomlcfkendmjeaaDoorFoldC
import Derived.Test.YtomlcfkendmjeaaDoorKeyEq
namespace Go.Proofs.YtomlcfkendmjeaaDoor
open Go Go.RowKit

def nine : List Int := [1, 2, 3, 4, 5, 6, 7, 8, 9]
def H34 : Int := Pl.mix 3 4
def T9 : Int := Pl.mix (Pl.mix (Pl.mix H34 578437695752307201) 9) 9
theorem tag_nil : Pl.tagOf 3 4 [] = Pl.mix H34 0 := rfl
theorem tag_nine : Pl.tagOf 3 4 nine = T9 := by
  have h1 : Pl.stOf 3 4 nine = ⟨Pl.mix H34 578437695752307201, 9, 1⟩ := by
    unfold nine Pl.stOf
    rw [show ([1, 2, 3, 4, 5, 6, 7, 8, 9] : List Int) = [1, 2, 3, 4, 5, 6, 7, 8] ++ [9] from rfl, List.foldl_append, Pl.foldl_eight _ _ rfl]
    rfl
  unfold Pl.tagOf
  rw [h1]
  rfl
theorem wrap_succ_ne (t : Int) : (t == IntKind.u64.wrap (t + 1)) = false := by
  rw [beq_eq_false_iff_ne, IntKind.wrap_u64]
  omega
attribute [local go_sem] eq_key
set_option maxHeartbeats 1000000 in
theorem awake_any (w : World) (hR : Rnd w) : Calls Tryd.prog 9 #[] w fun e w' => e = .returned (.bool true) ∧ Below w.heap.size w w' := by
  have B0 : Below w.heap.size w ((w.alloc (.cells #[.int .u64 3, .int .u64 4] 24)).alloc (.cells #[.int .u8 1, .int .u8 2, .int .u8 3, .int .u8 4, .int .u8 5, .int .u8 6, .int .u8 7, .int .u8 8, .int .u8 9] 5)) :=
    ((Below.refl _ _).alloc (Nat.le_refl _) _).alloc (by simp) _
  have K0 := (Bk.new w 24 #[.int .u64 3, .int .u64 4]).alloc (.cells #[.int .u8 1, .int .u8 2, .int .u8 3, .int .u8 4, .int .u8 5, .int .u8 6, .int .u8 7, .int .u8 8, .int .u8 9] 5)
  have S0 := IsSl.of_bk (k := .u8) nine (Bk.new (w.alloc (.cells #[.int .u64 3, .int .u64 4] 24)) 5 #[.int .u8 1, .int .u8 2, .int .u8 3, .int .u8 4, .int .u8 5, .int .u8 6, .int .u8 7, .int .u8 8, .int .u8 9]) rfl
  have hg : (w.alloc (.cells #[.int .u64 3, .int .u64 4] 24)).heap.size = w.heap.size + 1 := by simp
  rw [hg] at S0
  clear hg
  go_enter Tryd.func9, Tryd.ntmps9
  go_wp2_with fail
  refine (refMix_any _ _ _).mono ?_
  rintro e w1 ⟨rfl, rfl⟩
  go_wp2_with fail
  refine (refMix_any _ _ _).mono ?_
  rintro e w1 ⟨rfl, rfl⟩
  go_wp2_with fail
  refine (refMix_any _ _ _).mono ?_
  rintro e w1 ⟨rfl, rfl⟩
  go_wp2_with fail
  refine (refMix_any _ _ _).mono ?_
  rintro e w1 ⟨rfl, rfl⟩
  generalize ((w.alloc (.cells #[.int .u64 3, .int .u64 4] 24)).alloc (.cells #[.int .u8 1, .int .u8 2, .int .u8 3, .int .u8 4, .int .u8 5, .int .u8 6, .int .u8 7, .int .u8 8, .int .u8 9] 5)) = w0 at *
  have hR0 := hR.next B0
  have k0 := K0.two
  obtain ⟨ka, kb⟩ := k0
  have C := tag_any 3 4 none 0 [] w0 hR0 (.inl rfl) (by simp) (by simp)
  rw [tag_nil] at C
  go_wp2_with fail
  refine C.mono ?_
  clear C
  rintro e w1 ⟨rfl, hb⟩
  have B1 := bstep B0 hb
  have hR1 := hR0.next hb
  have S1 := S0.next hb
  have K1 := K0.next hb
  clear hb hR0 S0 K0 B0 ka kb
  obtain ⟨ka, kb⟩ := K1.two
  go_wp2_with fail
  refine (refMix_any _ _ _).mono ?_
  rintro e w1' ⟨rfl, rfl⟩
  have C := tag_any 3 4 _ 9 nine w1 hR1 S1 (by decide) (by decide)
  rw [tag_nine] at C
  go_wp2_with fail
  refine C.mono ?_
  clear C
  rintro e w2 ⟨rfl, hb⟩
  have B2 := bstep B1 hb
  have hR2 := hR1.next hb
  have S2 := S1.next hb
  have K2 := K1.next hb
  clear hb hR1 S1 K1 B1 ka kb
  obtain ⟨ka, kb⟩ := K2.two
  have C := check_any 3 4 _ 9 nine T9 w2 hR2 S2 (by decide) (by decide)
  rw [tag_nine, beq_self_eq_true] at C
  go_wp2_with fail
  refine C.mono ?_
  clear C
  rintro e w3 ⟨rfl, hb⟩
  have B3 := bstep B2 hb
  have hR3 := hR2.next hb
  have S3 := S2.next hb
  have K3 := K2.next hb
  clear hb hR2 S2 K2 B2 ka kb
  obtain ⟨ka, kb⟩ := K3.two
  have C := check_any 3 4 _ 9 nine (IntKind.u64.wrap (T9 + 1)) w3 hR3 S3 (by decide) (by decide)
  rw [tag_nine, wrap_succ_ne T9] at C
  go_wp2_with fail
  refine C.mono ?_
  clear C
  rintro e w4 ⟨rfl, hb⟩
  have B4 := bstep B3 hb
  have hR4 := hR3.next hb
  have S4 := S3.next hb
  have K4 := K3.next hb
  clear hb hR3 S3 K3 B3 ka kb
  obtain ⟨ka, kb⟩ := K4.two
  have C := derive_any 3 4 _ 9 nine w4 hR4 S4 (by decide) (by decide)
  unfold Pl.d1 Pl.d2 at C
  rw [tag_nine] at C
  go_wp2_with fail
  refine C.mono ?_
  clear C
  rintro e w5 ⟨rfl, hb⟩
  have B5 := bstep B4 hb
  have hR5 := hR4.next hb
  clear hb hR4 S4 K4 B4 ka kb
  go_wp2_with fail
  refine (refMix_any _ _ _).mono ?_
  rintro e w5' ⟨rfl, rfl⟩
  go_wp2_with fail
  refine (refMix_any _ _ _).mono ?_
  rintro e w5' ⟨rfl, rfl⟩
  have C := fold_any none 0 [] w5 hR5 (.inl rfl) (by decide)
  go_wp2_with fail
  refine C.mono ?_
  clear C
  rintro e w6 ⟨rfl, hb⟩
  have B6 := bstep B5 hb
  have hR6 := hR5.next hb
  clear hb hR5 B5
  have S6 := IsSl.of_bk (k := .u64) [5] (Bk.new w6 22 #[.int .u64 5]) rfl
  have B7 := bstep B6 ((Below.refl _ _).alloc (Nat.le_refl _) (.cells #[.int .u64 5] 22))
  have C := fold_any _ 1 [5] _ (hR.next B7) S6 (by decide)
  rw [show Pl.foldOf [5] = Pl.mix 0 5 from rfl] at C
  go_wp2_with fail
  refine C.mono ?_
  clear C
  rintro e w7 ⟨rfl, hb⟩
  have B8 := bstep B7 hb
  go_wp2_with fail
  refine (refMix_any _ _ _).mono ?_
  rintro e w7' ⟨rfl, rfl⟩
  go_wp2
  go_ret
  exact ⟨rfl, B8⟩
end Go.Proofs.YtomlcfkendmjeaaDoor
