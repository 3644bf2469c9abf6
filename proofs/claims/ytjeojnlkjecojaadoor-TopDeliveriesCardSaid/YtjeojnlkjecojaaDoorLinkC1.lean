/- The contracts of package link's small functions, and of Check. -/
import Derived.Test.YtjeojnlkjecojaaDoorLinkP
import Derived.Test.YtjeojnlkjecojaaDoorMixC
import Derived.Test.YtjeojnlkjecojaaDoorOpen
import Derived.Test.YtjeojnlkjecojaaDoorPairEq
import Derived.Deep.RegionHeld3
namespace Go.Proofs.YtjeojnlkjecojaaDoor
open Go Go.RowKit
theorem isTime_any (x : Int) (w : World) : Calls Tryd.prog 33 #[.int .i64 x] w fun e w' => e = .returned (.bool (Pl.okAt x)) ∧ w = w' := by
  by_cases h0 : 0 ≤ x
  · go_enter Tryd.func33, Tryd.ntmps33
    go_wp2
    go_ret
    exact ⟨ret_bool (by unfold Pl.okAt Pl.inR; simp [h0]), rfl⟩
  · have h1 : x < 0 := by omega
    go_enter Tryd.func33, Tryd.ntmps33
    go_wp2
    go_ret
    exact ⟨ret_bool (by unfold Pl.okAt Pl.inR; simp; intro _; omega), rfl⟩
theorem isNumber_any (x : Int) (w : World) : Calls Tryd.prog 37 #[.int .i64 x] w fun e w' => e = .returned (.bool (Pl.okN x)) ∧ w = w' := by
  by_cases h0 : 0 ≤ x
  · go_enter Tryd.func37, Tryd.ntmps37
    go_wp2
    go_ret
    exact ⟨ret_bool (by unfold Pl.okN Pl.inR; simp [h0]), rfl⟩
  · have h1 : x < 0 := by omega
    go_enter Tryd.func37, Tryd.ntmps37
    go_wp2
    go_ret
    exact ⟨ret_bool (by unfold Pl.okN Pl.inR; simp; intro _; omega), rfl⟩
theorem refRight_any (x m : Int) (w : World) : Calls Tryd.prog 35 #[.int .i64 x, .int .i64 m] w fun e w' => e = .returned (.bool (Pl.inR x m)) ∧ w = w' := by
  by_cases h0 : 0 ≤ x
  · go_enter Tryd.func35, Tryd.ntmps35
    go_wp2
    go_ret
    exact ⟨ret_bool (by unfold Pl.inR; simp [h0]), rfl⟩
  · have h1 : x < 0 := by omega
    go_enter Tryd.func35, Tryd.ntmps35
    go_wp2
    go_ret
    exact ⟨ret_bool (by unfold Pl.inR; simp; intro _; omega), rfl⟩
theorem isDir_any (x : Int) (w : World) : Calls Tryd.prog 34 #[.int .i64 x] w fun e w' => e = .returned (.bool (Pl.okDir x)) ∧ w = w' := by
  by_cases h0 : x = 0
  · subst h0
    go_enter Tryd.func34, Tryd.ntmps34
    go_wp2
    go_ret
    exact ⟨rfl, rfl⟩
  · go_enter Tryd.func34, Tryd.ntmps34
    go_wp2
    go_ret
    refine ⟨ret_bool ?_, rfl⟩
    unfold Pl.okDir Pl.inR
    rw [Bool.eq_iff_iff]
    simp
    omega
theorem Bk.put2 {w : World} {g : Nat} {t : TypeId} {a b x y : Value} (h : Bk w g t #[x, y]) : Bk ((w.setCell ⟨g, 0, none⟩ a).setCell ⟨g, 1, none⟩ b) g t #[a, b] := (h.put 0 a).put 1 b
set_option maxHeartbeats 1000000 in
theorem limited_any (a b : Int) (w : World) : Calls Tryd.prog 32 #[.agg #[.int .i64 a, .int .i64 b]] w fun e w' => e = .returned (.agg #[.int .i64 (Pl.clampD a), .int .i64 (Pl.clampD b)]) ∧ Below w.heap.size w w' := by
  have B0 := ((Below.refl w.heap.size w).alloc (Nat.le_refl _) (.cells #[.int .i64 a, .int .i64 b] 22))
  have B1 := B0.alloc B0.size (.cells #[.int .i64 0, .int .i64 0] 22)
  have K0 := (Bk.new w 22 #[.int .i64 a, .int .i64 b]).alloc (.cells #[.int .i64 0, .int .i64 0] 22)
  have R0 : Bk ((w.alloc (.cells #[.int .i64 a, .int .i64 b] 22)).alloc (.cells #[.int .i64 0, .int .i64 0] 22)) (w.heap.size + 1) 22 #[.int .i64 0, .int .i64 0] := by
    simpa using Bk.new (w.alloc (.cells #[.int .i64 a, .int .i64 b] 22)) 22 #[.int .i64 0, .int .i64 0]
  clear B0
  go_enter Tryd.func32, Tryd.ntmps32
  go_wp2
  generalize ((w.alloc (.cells #[.int .i64 a, .int .i64 b] 22)).alloc (.cells #[.int .i64 0, .int .i64 0] 22)) = w0 at *
  go_loopw [4] (fun i wr => ∃ k : Nat, i = .int .i64 k ∧ Below w.heap.size w wr ∧ Bk wr (w.heap.size + 1) 22 #[.int .i64 0, .int .i64 0] ∧ ((k = 0 ∧ Bk wr w.heap.size 22 #[.int .i64 a, .int .i64 b]) ∨ (k = 1 ∧ Bk wr w.heap.size 22 #[.int .i64 (Pl.clampD a), .int .i64 b]) ∨ (k = 2 ∧ Bk wr w.heap.size 22 #[.int .i64 (Pl.clampD a), .int .i64 (Pl.clampD b)]))) (fun i _ => 2 - (intOf i).toNat)
  case atStart => exact ⟨0, rfl, B1, R0, .inl ⟨rfl, K0⟩⟩
  case round =>
    obtain ⟨k, rfl, B, R, ⟨rfl, K⟩ | ⟨rfl, K⟩ | ⟨rfl, K⟩⟩ := hrel
    · obtain ⟨c0, c1⟩ := K.two
      have f0 := K.free 0
      clear B1 R0 K0
      go_wp2
      go_roundw
      case rel => exact ⟨1, rfl, B.setCell (Nat.le_refl _) _, R.far (by dsimp only; omega) _, .inr (.inl ⟨rfl, K.put 0 _⟩)⟩
      case measure => simp [intOf]
    · obtain ⟨c0, c1⟩ := K.two
      have f1 := K.free 1
      clear B1 R0 K0
      go_wp2
      go_roundw
      case rel => exact ⟨2, rfl, B.setCell (Nat.le_refl _) _, R.far (by dsimp only; omega) _, .inr (.inr ⟨rfl, K.put 1 _⟩)⟩
      case measure => simp [intOf]
    · obtain ⟨c0, c1⟩ := K.two
      have f0 := R.free 0
      have f1 := R.free 1
      obtain ⟨r0, r1⟩ := R.two
      clear B1 R0 K0
      go_wp2
      refine bodyPost_ret (results_cell_row rfl _ _ (w.heap.size + 1) 22 #[.int .i64 (Pl.clampD a), .int .i64 (Pl.clampD b)] (0, 0) _ rfl ((R.put 0 _).put 1 _) Tryd.underlying22 rfl (by kernel_rfl)) rfl ⟨rfl, ?_⟩
      exact (B.setCell (by dsimp only; omega) _).setCell (by dsimp only; omega) _
end Go.Proofs.YtjeojnlkjecojaaDoor
