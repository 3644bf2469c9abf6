/- The examples of the chapter on links. -/
import Derived.Test.YtjeojnlkjecojaaDoorLinkC10
import Derived.Test.YtjeojnlkjecojaaDoorIvEq
namespace Go.Proofs.YtjeojnlkjecojaaDoor
open Go Go.RowKit
attribute [local simp high] guard_bind_iv eql_iv neq_iv
abbrev l1 : Pl.Lk := ⟨1000, 3000, 0, 0, 0, 0, [(50, 0, 7000)]⟩
abbrev l2 : Pl.Lk := ⟨1000, 3000, 0, 0, 1000, 0, [(50, 0, 7000)]⟩
theorem err1 : Pl.errOf l1 = 0 := by decide
theorem del1a : Pl.delayOf l1 0 49 = 1000 := by decide
theorem del1b : Pl.delayOf l1 0 50 = 7000 := by decide
theorem asy1a : Pl.asymOf l1 49 = -2000 := by decide
theorem asy1b : Pl.asymOf l1 50 = 4000 := by decide
theorem bnd1a : bnd l1 0 = .agg #[.int .i64 1000, .int .i64 7000] := by
  unfold bnd; rw [show bLo l1 0 = 1000 from by decide, show bHi l1 0 = 7000 from by decide]
theorem bnd1b : bnd l1 1 = .agg #[.int .i64 3000, .int .i64 3000] := by
  unfold bnd; rw [show bLo l1 1 = 3000 from by decide, show bHi l1 1 = 3000 from by decide]
theorem noi1 : Pl.noiseOf l1 0 3 = 0 := by
  rw [noiseOf_good err1 rfl (by decide)]
  show Pl.mix 0 _ % (0 + 1) = 0
  exact Int.emod_one _
theorem arr1 : arr l1 0 50 3 = .returned (.tuple #[.int .i64 7050, .bool true]) := by
  have h : Pl.arrives l1 0 50 3 = true := by
    rw [arrives_good err1 rfl (by decide) (by decide)]
    unfold Pl.lost
    have := Int.emod_nonneg (Pl.mix l1.seed (4 * 3 + 2 * 0)) (show (1000 : Int) ≠ 0 by decide)
    rw [decide_eq_false (show ¬ Pl.mix l1.seed (4 * 3 + 2 * 0) % 1000 < l1.loss by simp only; omega)]; rfl
  exact (arr_yes h (by rw [del1b, noi1]; rfl)).symm
theorem arr2 : arr l2 0 50 3 = .returned (.tuple #[.int .i64 0, .bool false]) := by
  have h : Pl.arrives l2 0 50 3 = false := by
    rw [arrives_good (by decide) rfl (by decide) (by decide)]
    unfold Pl.lost
    have := Int.emod_lt_of_pos (Pl.mix l2.seed (4 * 3 + 2 * 0)) (show (0 : Int) < 1000 by decide)
    rw [decide_eq_true (show Pl.mix l2.seed (4 * 3 + 2 * 0) % 1000 < l2.loss by simp only; omega)]; rfl
  exact (arr_no h).symm
/-- The link of the examples lies in its box, its change in a block of its own. -/
structure Aw (W : World) (l : Pl.Lk) (w : World) : Prop where
  L : LkS W (W.heap.size + 1) l (some ⟨W.heap.size, 0, none⟩) 1 1 w
  C : Bk w W.heap.size 59 #[.int .i64 50, .int .i64 0, .int .i64 7000]
  RW : Rnd W
theorem Aw.R {W w : World} {l : Pl.Lk} (h : Aw W l w) : Rnd w := h.RW.next h.L.2
theorem Aw.next {W w w' : World} {l : Pl.Lk} (h : Aw W l w) (hb : Below w.heap.size w w') : Aw W l w' := ⟨h.L.next hb, h.C.next hb, h.RW⟩
theorem Aw.is {W w : World} {l : Pl.Lk} (h : Aw W l w) : IsCh w (some ⟨W.heap.size, 0, none⟩) [(50, 0, 7000)] := by
  refine .inr ⟨W.heap.size, 0, rfl, h.C.lt, fun i c hc => ?_⟩
  match i, hc with
  | 0, hc => cases hc; exact ⟨h.C.cell 0, h.C.cell 1, h.C.cell 2⟩
section
variable {W : World}
abbrev k1 (W : World) : Value := .agg #[.int .i64 1000, .int .i64 3000, .int .i64 0, .int .i64 0, .int .i64 0, .int .u64 0, .slice (some ⟨W.heap.size, 0, none⟩) 1 1]
abbrev k2 (W : World) : Value := .agg #[.int .i64 1000, .int .i64 3000, .int .i64 0, .int .i64 0, .int .i64 1000, .int .u64 0, .slice (some ⟨W.heap.size, 0, none⟩) 1 1]
theorem aw_check {w : World} (h : Aw W l1 w) : Calls Tryd.prog 13 #[k1 W] w fun e w' => e = .returned (.int .i64 0) ∧ Aw W l1 w' :=
  (check_any l1 (some ⟨W.heap.size, 0, none⟩) 1 w h.is (by decide)).mono fun e w' ⟨he, hb⟩ => ⟨by rw [he, err1], h.next hb⟩
theorem aw_delay {w : World} (h : Aw W l1 w) (t : Int) : Calls Tryd.prog 15 #[k1 W, .int .i64 0, .int .i64 t] w fun e w' => e = .returned (.int .i64 (Pl.delayOf l1 0 t)) ∧ Aw W l1 w' :=
  (delay_any l1 (some ⟨W.heap.size, 0, none⟩) 1 0 t w h.is (by decide)).mono fun e w' ⟨he, hb⟩ => ⟨he, h.next hb⟩
theorem aw_asym {w : World} (h : Aw W l1 w) (t : Int) : Calls Tryd.prog 17 #[k1 W, .int .i64 t] w fun e w' => e = .returned (.int .i64 (Pl.asymOf l1 t)) ∧ Aw W l1 w' :=
  (asym_any l1 (some ⟨W.heap.size, 0, none⟩) 1 t w h.is (by decide)).mono fun e w' ⟨he, hb⟩ => ⟨he, h.next hb⟩
theorem aw_bounds {w : World} (h : Aw W l1 w) (d : Int) : Calls Tryd.prog 21 #[k1 W, .int .i64 d] w fun e w' => e = .returned (bnd l1 d) ∧ Aw W l1 w' :=
  (bounds_any l1 (some ⟨W.heap.size, 0, none⟩) 1 d w h.is (by decide)).mono fun e w' ⟨he, hb⟩ => ⟨he, h.next hb⟩
theorem aw_arrive1 {w : World} (h : Aw W l1 w) : Calls Tryd.prog 23 #[k1 W, .int .i64 0, .int .i64 50, .int .i64 3] w fun e w' => e = .returned (.tuple #[.int .i64 7050, .bool true]) ∧ Aw W l1 w' :=
  (arrive_any l1 (some ⟨W.heap.size, 0, none⟩) 1 0 50 3 w h.is (by decide) h.R).mono fun e w' ⟨he, hb⟩ => ⟨by rw [he, arr1], h.next hb⟩
theorem aw_arrive2 {w : World} (h : Aw W l2 w) : Calls Tryd.prog 23 #[k2 W, .int .i64 0, .int .i64 50, .int .i64 3] w fun e w' => e = .returned (.tuple #[.int .i64 0, .bool false]) ∧ Aw W l2 w' :=
  (arrive_any l2 (some ⟨W.heap.size, 0, none⟩) 1 0 50 3 w h.is (by decide) h.R).mono fun e w' ⟨he, hb⟩ => ⟨by rw [he, arr2], h.next hb⟩
theorem Aw.cells {w : World} {l : Pl.Lk} (h : Aw W l w) : (w.cell? ⟨W.heap.size + 1, 0, none⟩ = some (.int .i64 l.d0)) ∧ (w.cell? ⟨W.heap.size + 1, 1, none⟩ = some (.int .i64 l.d1)) ∧ (w.cell? ⟨W.heap.size + 1, 2, none⟩ = some (.int .i64 l.v0)) ∧ (w.cell? ⟨W.heap.size + 1, 3, none⟩ = some (.int .i64 l.v1)) ∧ (w.cell? ⟨W.heap.size + 1, 4, none⟩ = some (.int .i64 l.loss)) ∧ (w.cell? ⟨W.heap.size + 1, 5, none⟩ = some (.int .u64 l.seed)) ∧ (w.cell? ⟨W.heap.size + 1, 6, none⟩ = some (.slice (some ⟨W.heap.size, 0, none⟩) 1 1)) := h.L.cells
theorem aw_start (w : World) (hR : Rnd w) : Aw w l1 ((w.alloc (.cells #[.int .i64 50, .int .i64 0, .int .i64 7000] 59)).alloc (.cells #[.int .i64 1000, .int .i64 3000, .int .i64 0, .int .i64 0, .int .i64 0, .int .u64 0, .slice (some ⟨w.heap.size, 0, none⟩) 1 1] 26)) := by
  have B1 := (Below.refl w.heap.size w).alloc (Nat.le_refl _) (.cells #[.int .i64 50, .int .i64 0, .int .i64 7000] 59)
  have B2 := B1.alloc B1.size (.cells #[.int .i64 1000, .int .i64 3000, .int .i64 0, .int .i64 0, .int .i64 0, .int .u64 0, .slice (some ⟨w.heap.size, 0, none⟩) 1 1] 26)
  have K := Bk.new (w.alloc (.cells #[.int .i64 50, .int .i64 0, .int .i64 7000] 59)) 26 #[.int .i64 1000, .int .i64 3000, .int .i64 0, .int .i64 0, .int .i64 0, .int .u64 0, .slice (some ⟨w.heap.size, 0, none⟩) 1 1]
  have hs : (w.alloc (.cells #[.int .i64 50, .int .i64 0, .int .i64 7000] 59)).heap.size = w.heap.size + 1 := by simp
  rw [hs] at K
  exact ⟨⟨K, B2⟩, (Bk.new w 59 #[.int .i64 50, .int .i64 0, .int .i64 7000]).alloc _, hR⟩
theorem aw_lose {w : World} (h : Aw W l1 w) : Aw W l2 (w.setCell ⟨W.heap.size + 1, 4, none⟩ (.int .i64 1000)) := by
  refine ⟨⟨h.L.1.put 4 _, h.L.2.setCell (by dsimp only; omega) _⟩, h.C.far (by dsimp only; omega) _, h.RW⟩
end
set_option maxHeartbeats 2000000 in
theorem awake_any (w : World) (hR : Rnd w) : Calls Tryd.prog 12 #[] w fun e w' => e = .returned (.bool true) ∧ Below w.heap.size w w' := by
  have S0 := aw_start w hR
  go_enter Tryd.func12, Tryd.ntmps12
  go_wp2_with fail
  generalize (w.alloc (.cells #[.int .i64 50, .int .i64 0, .int .i64 7000] 59)).alloc (.cells #[.int .i64 1000, .int .i64 3000, .int .i64 0, .int .i64 0, .int .i64 0, .int .u64 0, .slice (some ⟨w.heap.size, 0, none⟩) 1 1] 26) = w0 at *
  have C := aw_arrive1 S0
  refine C.mono ?_
  rintro e w1 ⟨rfl, S1⟩
  clear C S0
  obtain ⟨c0, c1, c2, c3, c4, c5, c6⟩ := S1.cells
  simp only at c0 c1 c2 c3 c4 c5
  go_wp2_with fail
  have C := aw_check S1
  refine C.mono ?_
  rintro e w2 ⟨rfl, S2⟩
  clear C S1 c0 c1 c2 c3 c4 c5 c6
  obtain ⟨c0, c1, c2, c3, c4, c5, c6⟩ := S2.cells
  simp only at c0 c1 c2 c3 c4 c5
  go_wp2_with fail
  have C := aw_delay S2 49
  rw [del1a] at C
  refine C.mono ?_
  rintro e w3 ⟨rfl, S3⟩
  clear C S2 c0 c1 c2 c3 c4 c5 c6
  obtain ⟨c0, c1, c2, c3, c4, c5, c6⟩ := S3.cells
  simp only at c0 c1 c2 c3 c4 c5
  go_wp2_with fail
  have C := aw_delay S3 50
  rw [del1b] at C
  refine C.mono ?_
  rintro e w4 ⟨rfl, S4⟩
  clear C S3 c0 c1 c2 c3 c4 c5 c6
  obtain ⟨c0, c1, c2, c3, c4, c5, c6⟩ := S4.cells
  simp only at c0 c1 c2 c3 c4 c5
  go_wp2_with fail
  have C := aw_asym S4 49
  rw [asy1a] at C
  refine C.mono ?_
  rintro e w5 ⟨rfl, S5⟩
  clear C S4 c0 c1 c2 c3 c4 c5 c6
  obtain ⟨c0, c1, c2, c3, c4, c5, c6⟩ := S5.cells
  simp only at c0 c1 c2 c3 c4 c5
  go_wp2_with fail
  have C := aw_asym S5 50
  rw [asy1b] at C
  refine C.mono ?_
  rintro e w6 ⟨rfl, S6⟩
  clear C S5 c0 c1 c2 c3 c4 c5 c6
  obtain ⟨c0, c1, c2, c3, c4, c5, c6⟩ := S6.cells
  simp only at c0 c1 c2 c3 c4 c5
  go_wp2_with fail
  have C := aw_bounds S6 0
  rw [bnd1a] at C
  refine C.mono ?_
  rintro e w7 ⟨rfl, S7⟩
  clear C S6 c0 c1 c2 c3 c4 c5 c6
  obtain ⟨c0, c1, c2, c3, c4, c5, c6⟩ := S7.cells
  simp only at c0 c1 c2 c3 c4 c5
  go_wp2_with fail
  have C := aw_bounds S7 1
  rw [bnd1b] at C
  refine C.mono ?_
  rintro e w8 ⟨rfl, S8⟩
  clear C S7 c0 c1 c2 c3 c4 c5 c6
  obtain ⟨c0, c1, c2, c3, c4, c5, c6⟩ := S8.cells
  simp only at c0 c1 c2 c3 c4 c5
  have f4 := S8.L.1.free 4
  have T0 := aw_lose S8
  clear S8
  go_wp2_with fail
  generalize World.setCell _ _ _ = v0 at *
  have C := aw_arrive2 T0
  refine C.mono ?_
  rintro e v1 ⟨rfl, T1⟩
  clear C c0 c1 c2 c3 c4 c5 c6 f4 T0
  go_wp2
  go_ret
  exact ⟨rfl, T1.L.2⟩
end Go.Proofs.YtjeojnlkjecojaaDoor
