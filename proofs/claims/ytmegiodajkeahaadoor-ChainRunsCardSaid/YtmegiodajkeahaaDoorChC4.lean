/- The contracts of below and tagKey of package chain, and of the reference's below. -/
import Derived.Test.YtmegiodajkeahaaDoorChC3
import Derived.Lib.SlBytesConst
namespace Go.Proofs.YtmegiodajkeahaaDoor
open Go Go.RowKit
abbrev kDown : List Int := [100, 111, 119, 110]
abbrev kMac : List Int := [109, 97, 99]
/-- The bytes of a constant string. -/
theorem isl_const (w : World) (xs : List Int) (fr : Nat × Nat) (cs : Array Value) (hc : cs = (xs.map (Value.int .u8)).toArray) : IsSl (w.alloc (.cells cs 5 fr)) (some ⟨w.heap.size, 0, none⟩) .u8 xs := by
  have hh : (w.alloc (.cells cs 5 fr)).heap[w.heap.size]? = some (.cells cs 5 fr) := by
    show (w.heap.push _)[w.heap.size]? = _
    simp
  refine .inr ⟨w.heap.size, 0, rfl, by show w.heap.size < (w.heap.push _).size; simp, fun i x hx => ?_⟩
  unfold World.cell?
  simp only [hh]
  simp [hc, hx]
set_option maxHeartbeats 1000000 in
theorem below_any (k0 k1 : Int) (w : World) (hR : Rnd w) : Calls Tryd.prog 39 #[.agg #[.int .u64 k0, .int .u64 k1]] w fun e w' => e = .returned (.agg #[.int .u64 (Pl.d1 k0 k1 kDown), .int .u64 (Pl.d2 k0 k1 kDown)]) ∧ Below w.heap.size w w' := by
  have B1 := (Below.refl w.heap.size w).alloc (Nat.le_refl _) (.cells #[.int .u64 k0, .int .u64 k1] 37)
  have B2 := B1.alloc B1.size (.cells #[.int .u64 0, .int .u64 0] 37)
  have B3 := B2.alloc B2.size (.cells #[.int .u8 100, .int .u8 111, .int .u8 119, .int .u8 110] 5 (4, 5))
  have R2 := (Bk.new (w.alloc (.cells #[.int .u64 k0, .int .u64 k1] 37)) 37 #[.int .u64 0, .int .u64 0]).alloc (.cells #[.int .u8 100, .int .u8 111, .int .u8 119, .int .u8 110] 5 (4, 5))
  have hg1 : (w.alloc (.cells #[.int .u64 k0, .int .u64 k1] 37)).heap.size = w.heap.size + 1 := by simp
  have hg2 : ((w.alloc (.cells #[.int .u64 k0, .int .u64 k1] 37)).alloc (.cells #[.int .u64 0, .int .u64 0] 37)).heap.size = w.heap.size + 1 + 1 := by simp
  have S := isl_const ((w.alloc (.cells #[.int .u64 k0, .int .u64 k1] 37)).alloc (.cells #[.int .u64 0, .int .u64 0] 37)) kDown (4, 5) #[.int .u8 100, .int .u8 111, .int .u8 119, .int .u8 110] rfl
  rw [hg1] at R2
  rw [hg2] at S
  have hs2 := hg2
  clear B1 B2 hg1 hg2
  have C := fun (w' : World) hR hS => derive_any k0 k1 (some ⟨w.heap.size + 1 + 1, 0, none⟩) 4 kDown w' hR hS (by decide) (by decide)
  replace C := hid C
  have cv := Lib.run_convert_bytes_const (P := Tryd.prog) ((w.alloc (.cells #[.int .u64 k0, .int .u64 k1] 37)).alloc (.cells #[.int .u64 0, .int .u64 0] 37)) 41 5 #[.int .u8 100, .int .u8 111, .int .u8 119, .int .u8 110] 4 4 Tryd.underlying41 Tryd.underlying5
  rw [hs2] at cv
  simp only [List.size_toArray, List.length_cons, List.length_nil, Nat.zero_add, Nat.reduceAdd] at cv
  clear hs2
  go_enter Tryd.func39, Tryd.ntmps39
  go_wp2_with fail
  generalize ((w.alloc (.cells #[.int .u64 k0, .int .u64 k1] 37)).alloc (.cells #[.int .u64 0, .int .u64 0] 37)).alloc (.cells #[.int .u8 100, .int .u8 111, .int .u8 119, .int .u8 110] 5 (4, 5)) = w0 at *
  refine (C.out _ (hR.next B3) S).mono ?_
  rintro e w1 ⟨rfl, hb⟩
  have R3 := R2.next hb
  have B4 := bstep B3 hb
  clear R2 B3 hb C
  obtain ⟨q0, q1⟩ := R3.two
  have r0 := R3.free 0
  have r1 := R3.free 1
  go_wp2
  refine bodyPost_ret (results_cell_row rfl _ _ (w.heap.size + 1) 37 #[.int .u64 (Pl.d1 k0 k1 kDown), .int .u64 (Pl.d2 k0 k1 kDown)] (0, 0) _ rfl ((R3.put 0 _).put 1 _) Tryd.underlying37 rfl (by kernel_rfl)) rfl ⟨rfl, ?_⟩
  exact (B4.setCell (by dsimp only; omega) _).setCell (by dsimp only; omega) _
set_option maxHeartbeats 1000000 in
theorem tagKey_any (k0 k1 : Int) (w : World) (hR : Rnd w) : Calls Tryd.prog 51 #[.agg #[.int .u64 k0, .int .u64 k1]] w fun e w' => e = .returned (.agg #[.int .u64 (Pl.d1 k0 k1 kMac), .int .u64 (Pl.d2 k0 k1 kMac)]) ∧ Below w.heap.size w w' := by
  have B1 := (Below.refl w.heap.size w).alloc (Nat.le_refl _) (.cells #[.int .u64 k0, .int .u64 k1] 37)
  have B2 := B1.alloc B1.size (.cells #[.int .u64 0, .int .u64 0] 37)
  have B3 := B2.alloc B2.size (.cells #[.int .u8 109, .int .u8 97, .int .u8 99] 5 (3, 4))
  have R2 := (Bk.new (w.alloc (.cells #[.int .u64 k0, .int .u64 k1] 37)) 37 #[.int .u64 0, .int .u64 0]).alloc (.cells #[.int .u8 109, .int .u8 97, .int .u8 99] 5 (3, 4))
  have hg1 : (w.alloc (.cells #[.int .u64 k0, .int .u64 k1] 37)).heap.size = w.heap.size + 1 := by simp
  have hg2 : ((w.alloc (.cells #[.int .u64 k0, .int .u64 k1] 37)).alloc (.cells #[.int .u64 0, .int .u64 0] 37)).heap.size = w.heap.size + 1 + 1 := by simp
  have S := isl_const ((w.alloc (.cells #[.int .u64 k0, .int .u64 k1] 37)).alloc (.cells #[.int .u64 0, .int .u64 0] 37)) kMac (3, 4) #[.int .u8 109, .int .u8 97, .int .u8 99] rfl
  rw [hg1] at R2
  rw [hg2] at S
  have hs2 := hg2
  clear B1 B2 hg1 hg2
  have C := fun (w' : World) hR hS => derive_any k0 k1 (some ⟨w.heap.size + 1 + 1, 0, none⟩) 3 kMac w' hR hS (by decide) (by decide)
  replace C := hid C
  have cv := Lib.run_convert_bytes_const (P := Tryd.prog) ((w.alloc (.cells #[.int .u64 k0, .int .u64 k1] 37)).alloc (.cells #[.int .u64 0, .int .u64 0] 37)) 41 5 #[.int .u8 109, .int .u8 97, .int .u8 99] 3 3 Tryd.underlying41 Tryd.underlying5
  rw [hs2] at cv
  simp only [List.size_toArray, List.length_cons, List.length_nil, Nat.zero_add, Nat.reduceAdd] at cv
  clear hs2
  go_enter Tryd.func51, Tryd.ntmps51
  go_wp2_with fail
  generalize ((w.alloc (.cells #[.int .u64 k0, .int .u64 k1] 37)).alloc (.cells #[.int .u64 0, .int .u64 0] 37)).alloc (.cells #[.int .u8 109, .int .u8 97, .int .u8 99] 5 (3, 4)) = w0 at *
  refine (C.out _ (hR.next B3) S).mono ?_
  rintro e w1 ⟨rfl, hb⟩
  have R3 := R2.next hb
  have B4 := bstep B3 hb
  clear R2 B3 hb C
  obtain ⟨q0, q1⟩ := R3.two
  have r0 := R3.free 0
  have r1 := R3.free 1
  go_wp2
  refine bodyPost_ret (results_cell_row rfl _ _ (w.heap.size + 1) 37 #[.int .u64 (Pl.d1 k0 k1 kMac), .int .u64 (Pl.d2 k0 k1 kMac)] (0, 0) _ rfl ((R3.put 0 _).put 1 _) Tryd.underlying37 rfl (by kernel_rfl)) rfl ⟨rfl, ?_⟩
  exact (B4.setCell (by dsimp only; omega) _).setCell (by dsimp only; omega) _
set_option maxHeartbeats 1000000 in
theorem refBelow_any (k0 k1 : Int) (w : World) : Calls Tryd.prog 49 #[.agg #[.int .u64 k0, .int .u64 k1]] w fun e w' => e = .returned (.agg #[.int .u64 (Pl.d1 k0 k1 kDown), .int .u64 (Pl.d2 k0 k1 kDown)]) ∧ Below w.heap.size w w' := by
  have B1 := (Below.refl w.heap.size w).alloc (Nat.le_refl _) (.cells #[.int .u64 k0, .int .u64 k1] 37)
  have B2 := B1.alloc B1.size (.cells #[.int .u64 0, .int .u64 0] 37)
  have B3 := B2.alloc B2.size (.cells #[.int .u8 100, .int .u8 111, .int .u8 119, .int .u8 110] 5 (4, 5))
  have R2 := (Bk.new (w.alloc (.cells #[.int .u64 k0, .int .u64 k1] 37)) 37 #[.int .u64 0, .int .u64 0]).alloc (.cells #[.int .u8 100, .int .u8 111, .int .u8 119, .int .u8 110] 5 (4, 5))
  have hg1 : (w.alloc (.cells #[.int .u64 k0, .int .u64 k1] 37)).heap.size = w.heap.size + 1 := by simp
  have hg2 : ((w.alloc (.cells #[.int .u64 k0, .int .u64 k1] 37)).alloc (.cells #[.int .u64 0, .int .u64 0] 37)).heap.size = w.heap.size + 1 + 1 := by simp
  have S := isl_const ((w.alloc (.cells #[.int .u64 k0, .int .u64 k1] 37)).alloc (.cells #[.int .u64 0, .int .u64 0] 37)) kDown (4, 5) #[.int .u8 100, .int .u8 111, .int .u8 119, .int .u8 110] rfl
  rw [hg1] at R2
  rw [hg2] at S
  have hs2 := hg2
  clear B1 B2 hg1 hg2
  have C := fun (w' : World) hS => refDerive_any k0 k1 (some ⟨w.heap.size + 1 + 1, 0, none⟩) 4 kDown w' hS (by decide) (by decide)
  replace C := hid C
  have cv := Lib.run_convert_bytes_const (P := Tryd.prog) ((w.alloc (.cells #[.int .u64 k0, .int .u64 k1] 37)).alloc (.cells #[.int .u64 0, .int .u64 0] 37)) 41 5 #[.int .u8 100, .int .u8 111, .int .u8 119, .int .u8 110] 4 4 Tryd.underlying41 Tryd.underlying5
  rw [hs2] at cv
  simp only [List.size_toArray, List.length_cons, List.length_nil, Nat.zero_add, Nat.reduceAdd] at cv
  clear hs2
  go_enter Tryd.func49, Tryd.ntmps49
  go_wp2_with fail
  generalize ((w.alloc (.cells #[.int .u64 k0, .int .u64 k1] 37)).alloc (.cells #[.int .u64 0, .int .u64 0] 37)).alloc (.cells #[.int .u8 100, .int .u8 111, .int .u8 119, .int .u8 110] 5 (4, 5)) = w0 at *
  refine (C.out _ S).mono ?_
  rintro e w1 ⟨rfl, hb⟩
  have R3 := R2.next hb
  have B4 := bstep B3 hb
  clear R2 B3 hb C
  obtain ⟨q0, q1⟩ := R3.two
  have r0 := R3.free 0
  have r1 := R3.free 1
  go_wp2
  refine bodyPost_ret (results_cell_row rfl _ _ (w.heap.size + 1) 37 #[.int .u64 (Pl.d1 k0 k1 kDown), .int .u64 (Pl.d2 k0 k1 kDown)] (0, 0) _ rfl ((R3.put 0 _).put 1 _) Tryd.underlying37 rfl (by kernel_rfl)) rfl ⟨rfl, ?_⟩
  exact (B4.setCell (by dsimp only; omega) _).setCell (by dsimp only; omega) _
end Go.Proofs.YtmegiodajkeahaaDoor
