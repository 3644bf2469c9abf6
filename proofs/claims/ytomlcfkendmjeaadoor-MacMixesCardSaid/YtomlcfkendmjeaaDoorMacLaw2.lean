/- The walks of the laws MacFolds and MacMixes: a slice is made and appended to. -/
import Derived.Test.YtomlcfkendmjeaaDoorMacLaw1
import Derived.Test.YtomlcfkendmjeaaDoorOwn
namespace Go.Proofs.YtomlcfkendmjeaaDoor
open Go Go.RowKit
theorem info_u64 : (Tryd.prog.info? 22).map (fun i => (i.zero, i.size, i.bytes)) = some (some (.int .u64 0), 1, 8) := by kernel_rfl
set_option maxHeartbeats 1000000 in
theorem macFolds_walk (A : Option Addr) (c : Nat) (xs : List Int) (t : Int) (W : World) (hR : Rnd W) (hS : IsSl W A .u64 xs) :
    Calls Tryd.prog 5 #[.slice A xs.length c, .int .u64 t] W fun e w' => e = .returned (.bool true) ∧ Below W.heap.size W w' := by
  by_cases h2 : (500 : Int) < (xs.length : Int)
  · go_enter Tryd.func5, Tryd.ntmps5
    go_wp2_with fail
    refine (awake_any _ hR).mono ?_
    rintro e w1 ⟨rfl, hb⟩
    go_wp2
    go_ret
    exact ⟨rfl, hb⟩
  · have hn : xs.length ≤ 1000000000 := by omega
    have C := hid (fold_any A c xs W hR hS hn)
    go_enter Tryd.func5, Tryd.ntmps5
    go_wp2_with fail
    refine C.out.mono ?_
    clear C
    rintro e w1 ⟨rfl, hb⟩
    have hR1 := hR.next hb
    have hS1 := hS.next hb
    have hsz := hb.size
    have B1 := hb.alloc hsz (.cells #[] 22)
    have O1 := Own.empty (k := .u64) (Bk.new w1 22 #[]) hsz
    have hS2 := hS1.next ((Below.refl _ _).alloc (Nat.le_refl _) (.cells #[] 22))
    go_wp2_with (first
      | (at_builtin; refine wpList_app_ints rfl (.tmp 13) (.tmp 14) 31 rfl W.heap.size 22 .u64 8 Tryd.underlying31 info_u64 _ [] rfl O1 A c xs rfl hS2 (by simp only [maxLen, List.length_nil]; omega) (by simp only [List.length_nil]; omega) (by simp; omega) ?_; intro v1 w2 O2 hb2 hg2 hat2; have hz2 := hb2.size; simp only [World.size_alloc] at hz2)
      | (at_builtin; refine wpList_app_ints rfl (.tmp 15) (.tmp 17) 31 rfl W.heap.size 22 .u64 8 Tryd.underlying31 info_u64 v1 ([] ++ xs) rfl (O2.alloc (.cells #[.int .u64 t] 22)) (some ⟨w2.heap.size, 0, none⟩) 1 [t] rfl (IsSl.of_bk [t] (Bk.new w2 22 #[.int .u64 t]) rfl) (by simp only [maxLen, List.length_append, List.length_nil, List.length_cons]; omega) (by simp only [List.length_append, List.length_nil, List.length_cons]; omega) (by simp; omega) ?_; intro v2 w3 O3 hb3 hg3 hat3))
    have B3 : Below W.heap.size W w3 := (B1.trans hb2).trans (((Below.refl W.heap.size w2).alloc (by omega) _).trans hb3)
    have hR3 := hR.next B3
    have hS3 := hS.next B3
    have e1 : ([] ++ xs) ++ [t] = xs ++ [t] := rfl
    rw [e1] at O3
    clear e1
    have C := hid (refFold_any A c xs w3 hS3 hn)
    refine C.out.mono ?_
    clear C
    rintro e w3' ⟨rfl, rfl⟩
    obtain ⟨A3, c3, rfl, hS4, _⟩ := O3.slice_
    have C := fold_any A3 c3 (xs ++ [t]) w3 hR3 hS4 (by simp only [List.length_append, List.length_cons, List.length_nil]; omega)
    rw [Pl.foldOf_snoc, show (xs ++ [t]).length = xs.length + 1 from by simp] at C
    have C := hid C
    go_wp2_with fail
    refine C.out.mono ?_
    clear C
    rintro e w4 ⟨rfl, hb4⟩
    have B4 := bstep B3 hb4
    go_wp2_with fail
    refine (refMix_any _ _ _).mono ?_
    rintro e w4' ⟨rfl, rfl⟩
    go_wp2_with fail
    refine (awake_any _ (hR.next B4)).mono ?_
    rintro e w5 ⟨rfl, hb5⟩
    go_wp2
    go_ret
    exact ⟨rfl, bstep B4 hb5⟩
theorem info_u8 : (Tryd.prog.info? 5).map (fun i => (i.zero, i.size, i.bytes)) = some (some (.int .u8 0), 1, 1) := by kernel_rfl
theorem bytes8_next (x : Int) (m : Nat) (h : m < 8) : (Pl.bytes8 x).take (m + 1) = (Pl.bytes8 x).take m ++ [Pl.byteOf x m] := by
  have hc : m = 0 ∨ m = 1 ∨ m = 2 ∨ m = 3 ∨ m = 4 ∨ m = 5 ∨ m = 6 ∨ m = 7 := by omega
  rcases hc with rfl | rfl | rfl | rfl | rfl | rfl | rfl | rfl <;> rfl
theorem bytesOf_next {xs : List Int} {j : Nat} {x : Int} (h : xs[j]? = some x) : Pl.bytesOf (xs.take (j + 1)) = Pl.bytesOf (xs.take j) ++ Pl.bytes8 x := by
  rw [Pl.take_snoc h]
  unfold Pl.bytesOf
  rw [List.flatMap_append]
  simp
theorem foldl_next {xs : List Int} {j : Nat} {x h : Int} (hx : xs[j]? = some x) : (xs.take (j + 1)).foldl Pl.mix h = Pl.mix ((xs.take j).foldl Pl.mix h) x := by
  rw [Pl.take_snoc hx, List.foldl_append]; rfl
attribute [local simp high] guard_bind eql_key neq_key
set_option maxHeartbeats 1000000 in
theorem macMixes_walk (k0 k1 : Int) (A : Option Addr) (c : Nat) (xs : List Int) (W : World) (hR : Rnd W) (hS : IsSl W A .u64 xs) (hx : ∀ x ∈ xs, 0 ≤ x ∧ x ≤ 18446744073709551615) :
    Calls Tryd.prog 6 #[.agg #[.int .u64 k0, .int .u64 k1], .slice A xs.length c] W fun e w' => e = .returned (.bool true) ∧ Below W.heap.size W w' := by
  have B0 := (Below.refl W.heap.size W).alloc (Nat.le_refl _) (.cells #[.int .u64 k0, .int .u64 k1] 24)
  have HX := hid hx
  clear hx
  generalize hN : xs.length = n
  have HN := hid hN
  clear hN
  by_cases h2 : (200 : Int) < (n : Int)
  · go_enter Tryd.func6, Tryd.ntmps6
    go_wp2_with fail
    refine (awake_any _ (hR.next B0)).mono ?_
    rintro e w1 ⟨rfl, hb⟩
    go_wp2
    go_ret
    exact ⟨rfl, bstep B0 hb⟩
  · have K0 := Bk.new W 24 #[.int .u64 k0, .int .u64 k1]
    have hz0 : (W.alloc (.cells #[.int .u64 k0, .int .u64 k1] 24)).heap.size = W.heap.size + 1 := by simp
    have hR0 := hR.next B0
    have hS0 := hS.next B0
    go_enter Tryd.func6, Tryd.ntmps6
    go_wp2_with fail
    generalize W.alloc (.cells #[.int .u64 k0, .int .u64 k1] 24) = w0 at *
    clear hS
    refine (mix_any _ _ _ hR0).mono ?_
    rintro e w1 ⟨rfl, hb1⟩
    rw [hz0] at hb1
    have HZ := hid hz0
    clear hz0
    go_wp2
    go_loopw [5, 6, 7] (fun v h i wr => ∃ j : Nat, j ≤ n ∧ i = .int .i64 j ∧ h = .int .u64 ((xs.take j).foldl Pl.mix (Pl.mix k0 k1)) ∧ Own wr (W.heap.size + 1) 5 .u8 v (Pl.bytesOf (xs.take j)) ∧ Below (W.heap.size + 1) w0 wr) (fun _ _ i _ => n - (intOf i).toNat)
    case atStart => exact ⟨0, Nat.zero_le _, rfl, rfl, Own.nil_ _ _ _ _, hb1⟩
    case round =>
      obtain ⟨j, hj, rfl, rfl, O, hbr⟩ := hrel
      have hszr := hbr.size
      have hsz0 : W.heap.size + 1 ≤ w0.heap.size := by rw [HZ.out]; exact Nat.le_refl _
      have hbr0 : Below w0.heap.size w0 wr := by rw [HZ.out]; exact hbr
      have hRr := hR0.next hbr0
      by_cases hlt : j < n
      · obtain ⟨x, hx⟩ : ∃ x, xs[j]? = some x := ⟨xs[j]'(by have := HN.out; omega), List.getElem?_eq_getElem _⟩
        have hxr := HX.out x (List.mem_of_getElem? hx)
        rcases hS0.row with h0 | ⟨bb, off, rfl, hbb', hcell⟩
        · have := HN.out; omega
        · have hc0 : w0.cell? ⟨bb, off + j, none⟩ = some (.int .u64 x) := hcell j x hx
          have hbb1 : bb < W.heap.size + 1 := by rw [← HZ.out]; exact hbb'
          have HX1 := hid hx
          clear hx hcell
          obtain ⟨wo, rfl⟩ : ∃ wo : World, wo = wr := ⟨_, rfl⟩
          go_wp2
          go_loopw [5, 8] (fun v k wr => ∃ m : Nat, m ≤ 8 ∧ k = .int .i64 m ∧ Own wr (W.heap.size + 1) 5 .u8 v (Pl.bytesOf (xs.take j) ++ (Pl.bytes8 x).take m) ∧ Below (W.heap.size + 1) w0 wr) (fun _ k _ => 8 - (intOf k).toNat)
          case atStart => exact ⟨0, by omega, rfl, by simpa using O, hbr⟩
          case round =>
            obtain ⟨m, hm, rfl, O2, hbr2⟩ := hrel
            have hszr2 := hbr2.size
            have hc2 : wr.cell? ⟨bb, off + j, none⟩ = some (.int .u64 x) := (hbr2.cell (p := ⟨bb, off + j, none⟩) hbb1).trans hc0
            by_cases hm8 : m < 8
            · have hl := Pl.bytesOf_length (xs.take j)
              have hlj : (xs.take j).length = j := by have := HN.out; simp; omega
              have hl8 : ((Pl.bytes8 x).take m).length = m := by simp [Pl.bytes8]; omega
              have HL : Hid ((Pl.bytesOf (xs.take j) ++ (Pl.bytes8 x).take m).length ≤ 2000) := by unfold Hid; rw [List.length_append, hl, hlj, hl8]; omega
              have HY : Hid (x / 2 ^ (8 * m) % 256 = Pl.byteOf x m) := rfl
              clear hl hlj hl8
              go_wp2_with (at_builtin; refine wpList_app_ints rfl (.tmp 29) (.tmp 38) 25 rfl (W.heap.size + 1) 5 .u8 1 Tryd.underlying25 info_u8 _ _ rfl (O2.alloc (.cells #[.int .u8 (x / 2 ^ (8 * m) % 256)] 5)) (some ⟨wr.heap.size, 0, none⟩) 1 [x / 2 ^ (8 * m) % 256] rfl (IsSl.of_bk [x / 2 ^ (8 * m) % 256] (Bk.new wr 5 #[.int .u8 (x / 2 ^ (8 * m) % 256)]) rfl) (by have := HL.out; simp only [maxLen, List.length_cons, List.length_nil] at *; omega) (by have := HL.out; simp only [List.length_cons, List.length_nil] at *; omega) (by simp; omega) ?_; intro v2 w3 O3 hb3 hg3 hat3)
              go_roundw
              case rel => exact ⟨m + 1, by omega, by go_num, by rw [bytes8_next x m hm8, ← List.append_assoc, ← HY.out]; exact O3, (hbr2.alloc (by omega) _).trans hb3⟩
              case measure => simp [intOf]; omega
            · obtain rfl : m = 8 := by omega
              have hRr2 : Rnd wr := hR0.next (by rw [HZ.out]; exact hbr2)
              go_wp2_with fail
              refine (mix_any _ _ _ hRr2).mono ?_
              rintro e w2 ⟨rfl, hb2⟩
              go_wp2
              go_roundw
              case rel => exact ⟨j + 1, by omega, by go_num, by rw [foldl_next HX1.out], by rw [bytesOf_next HX1.out]; exact O2.next hb2, hbr2.trans (hb2.mono (by omega))⟩
              case measure => simp [intOf]; omega
      · obtain rfl : j = n := by omega
        have htk : xs.take j = xs := List.take_of_length_le (by rw [HN.out]; exact Nat.le_refl _)
        rw [htk] at O
        rw [htk]
        have K1 := K0.next hbr0
        clear htk
        go_wp2_with fail
        refine (mix_any _ _ _ hRr).mono ?_
        rintro e w2 ⟨rfl, hb2⟩
        have B2 : Below W.heap.size W w2 := B0.trans ((hbr0.trans (hb2.mono hbr0.size)).mono (by omega))
        have K2 := K1.next hb2
        have O2 := O.next hb2
        obtain ⟨ka, kb⟩ := K2.two
        clear K1 O hb2 hbr0 hbr hRr
        obtain ⟨A5, c5, rfl, S2, _⟩ := O2.slice_
        have hl5 : (Pl.bytesOf xs).length = 8 * j := by rw [Pl.bytesOf_length, HN.out]
        have hby : ∀ x ∈ Pl.bytesOf xs, 0 ≤ x ∧ x ≤ 255 := by
          intro y hy
          unfold Pl.bytesOf at hy
          obtain ⟨x, _, hy⟩ := List.mem_flatMap.1 hy
          have hb : ∀ k, 0 ≤ Pl.byteOf x k ∧ Pl.byteOf x k ≤ 255 := fun k => by unfold Pl.byteOf; omega
          simp only [Pl.bytes8, List.mem_cons, List.not_mem_nil, or_false] at hy
          rcases hy with rfl | rfl | rfl | rfl | rfl | rfl | rfl | rfl <;> exact hb _
        have hT := Pl.tagOf_words k0 k1 xs (fun x h => by have := HX.out x h; omega)
        rw [HN.out] at hT
        have C1 := tag_any k0 k1 A5 c5 (Pl.bytesOf xs) w2 (hR.next B2) S2 hby (by rw [hl5]; omega)
        have C2 := fun w3 hR3 S3 => derive_any k0 k1 A5 c5 (Pl.bytesOf xs) w3 hR3 S3 hby (by rw [hl5]; omega)
        unfold Pl.d1 Pl.d2 at C2
        rw [hT, hl5] at C1
        rw [hl5] at C2
        rw [hT] at C2
        generalize Pl.mix (xs.foldl Pl.mix (Pl.mix k0 k1)) (8 * (j : Int)) = T at *
        rw [hl5]
        clear hT hby O2
        have C1 := hid C1
        have C2 := hid C2
        go_wp2_with fail
        refine C1.out.mono ?_
        clear C1
        rintro e w3 ⟨rfl, hb3⟩
        have B3 := bstep B2 hb3
        have K3 := K2.next hb3
        have S3 := S2.next hb3
        clear ka kb
        obtain ⟨ka, kb⟩ := K3.two
        go_wp2_with fail
        refine (C2.out w3 (hR.next B3) S3).mono ?_
        clear C2
        rintro e w4 ⟨rfl, hb4⟩
        have B4 := bstep B3 hb4
        go_wp2_with fail
        refine (mix_any _ _ _ (hR.next B4)).mono ?_
        rintro e w5 ⟨rfl, hb5⟩
        have B5 := bstep B4 hb5
        go_wp2_with fail
        refine (mix_any _ _ _ (hR.next B5)).mono ?_
        rintro e w6 ⟨rfl, hb6⟩
        have B6 := bstep B5 hb6
        go_wp2_with fail
        refine (awake_any _ (hR.next B6)).mono ?_
        rintro e w7 ⟨rfl, hb7⟩
        go_wp2
        go_ret
        exact ⟨rfl, bstep B6 hb7⟩
end Go.Proofs.YtomlcfkendmjeaaDoor
