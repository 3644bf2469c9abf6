/- Check of package link where the head of the link is not valid. -/
import Derived.Test.YtjeojnlkjecojaaDoorLinkM
import Derived.Test.YtjeojnlkjecojaaDoorCls
namespace Go.Proofs.YtjeojnlkjecojaaDoor
open Go Go.RowKit
attribute [local simp high] guard_bind eql_two neq_two
set_option maxHeartbeats 1000000 in
theorem check_d (l : Pl.Lk) (A : Option Addr) (n c : Nat) (w : World) (hd : ¬ (Pl.clampD l.d0 = l.d0 ∧ Pl.clampD l.d1 = l.d1)) :
    Calls Tryd.prog 13 #[.agg (lkCells l A n c)] w fun e w' => e = .returned (.int .i64 3) ∧ Below w.heap.size w w' := by
  have L0 : LkS w w.heap.size l A n c (w.alloc (.cells (lkCells l A n c) 26)) := ⟨Bk.new _ _ _, (Below.refl w.heap.size w).alloc (Nat.le_refl _) _⟩
  unfold lkCells
  unfold lkCells at L0
  have CD := fun w => limited_any l.d0 l.d1 w
  have hd' : ((Pl.clampD l.d0 == l.d0) && (Pl.clampD l.d1 == l.d1)) = false := by
    rw [Bool.eq_false_iff]; intro h; simp at h; exact hd h
  generalize Pl.clampD l.d0 = e0 at *
  generalize Pl.clampD l.d1 = e1 at *
  clear hd
  replace CD := hid CD
  go_enter Tryd.func13, Tryd.ntmps13
  go_wp2_with fail
  generalize w.alloc (.cells #[.int .i64 l.d0, .int .i64 l.d1, .int .i64 l.v0, .int .i64 l.v1, .int .i64 l.loss, .int .u64 l.seed, .slice A n c] 26) = w0 at *
  refine region_class (fun w' => (w'.cell? ⟨w.heap.size, 0, none⟩ = some (.int .i64 l.d0)) ∧ (w'.cell? ⟨w.heap.size, 1, none⟩ = some (.int .i64 l.d1)) ∧ (w'.cell? ⟨w.heap.size, 2, none⟩ = some (.int .i64 l.v0)) ∧ (w'.cell? ⟨w.heap.size, 3, none⟩ = some (.int .i64 l.v1)) ∧ (w'.cell? ⟨w.heap.size, 4, none⟩ = some (.int .i64 l.loss)) ∧ LkS w w.heap.size l A n c w') (by kernel_rfl) (by kernel_rfl) (LkS.all (LkS.drew L0)) ?_
  repeat
    first
    | (refine BigFrame.wpQuiet_skip (by rfl) ?_
       simp only [Act.put, List.setIfInBounds_toArray, List.set_cons_zero, List.set_cons_succ])
    | (refine class_want (by rfl) ?_
       apply Exists.intro
       refine ⟨fun w1 h1 => ?_, ?_⟩
       focus
         have hT : LkT w w.heap.size l A n c w1 := h1
         obtain ⟨c0, c1, c2, c3, c4, L⟩ := h1
         unfold Oper.quietAt Oper.quietUpon
         go_simp
         first
         | exact rfl
         | (with_reducible refine (CD.out _).mono ?_
            rintro e w2 ⟨rfl, hb⟩
            exact ⟨rfl, LkT.next hT hb⟩)
       simp only [Act.put, List.setIfInBounds_toArray, List.set_cons_zero, List.set_cons_succ])
  refine wpQuiet_nil ?_
  clear L0
  intro w1 hT
  go_wp2
  go_ret
  exact ⟨rfl, LkT.bel hT⟩
set_option maxHeartbeats 1000000 in
theorem check_v (l : Pl.Lk) (A : Option Addr) (n c : Nat) (w : World) (hd : Pl.clampD l.d0 = l.d0 ∧ Pl.clampD l.d1 = l.d1) (hv : ¬ (Pl.clampD l.v0 = l.v0 ∧ Pl.clampD l.v1 = l.v1)) :
    Calls Tryd.prog 13 #[.agg (lkCells l A n c)] w fun e w' => e = .returned (.int .i64 3) ∧ Below w.heap.size w w' := by
  have L0 : LkS w w.heap.size l A n c (w.alloc (.cells (lkCells l A n c) 26)) := ⟨Bk.new _ _ _, (Below.refl w.heap.size w).alloc (Nat.le_refl _) _⟩
  unfold lkCells
  unfold lkCells at L0
  have CD := fun w => limited_any l.d0 l.d1 w
  have CV := fun w => limited_any l.v0 l.v1 w
  have hv' : ((Pl.clampD l.v0 == l.v0) && (Pl.clampD l.v1 == l.v1)) = false := by
    rw [Bool.eq_false_iff]; intro h; simp at h; exact hv h
  rw [hd.1, hd.2] at CD
  generalize Pl.clampD l.v0 = e0 at *
  generalize Pl.clampD l.v1 = e1 at *
  clear hd hv
  replace CD := hid CD
  replace CV := hid CV
  go_enter Tryd.func13, Tryd.ntmps13
  go_wp2_with fail
  generalize w.alloc (.cells #[.int .i64 l.d0, .int .i64 l.d1, .int .i64 l.v0, .int .i64 l.v1, .int .i64 l.loss, .int .u64 l.seed, .slice A n c] 26) = w0 at *
  refine region_class (fun w' => (w'.cell? ⟨w.heap.size, 0, none⟩ = some (.int .i64 l.d0)) ∧ (w'.cell? ⟨w.heap.size, 1, none⟩ = some (.int .i64 l.d1)) ∧ (w'.cell? ⟨w.heap.size, 2, none⟩ = some (.int .i64 l.v0)) ∧ (w'.cell? ⟨w.heap.size, 3, none⟩ = some (.int .i64 l.v1)) ∧ (w'.cell? ⟨w.heap.size, 4, none⟩ = some (.int .i64 l.loss)) ∧ LkS w w.heap.size l A n c w') (by kernel_rfl) (by kernel_rfl) (LkS.all (LkS.drew L0)) ?_
  repeat
    first
    | (refine BigFrame.wpQuiet_skip (by rfl) ?_
       simp only [Act.put, List.setIfInBounds_toArray, List.set_cons_zero, List.set_cons_succ])
    | (refine class_want (by rfl) ?_
       apply Exists.intro
       refine ⟨fun w1 h1 => ?_, ?_⟩
       focus
         have hT : LkT w w.heap.size l A n c w1 := h1
         obtain ⟨c0, c1, c2, c3, c4, L⟩ := h1
         unfold Oper.quietAt Oper.quietUpon
         go_simp
         first
         | exact rfl
         | (with_reducible refine (CD.out _).mono ?_
            rintro e w2 ⟨rfl, hb⟩
            exact ⟨rfl, LkT.next hT hb⟩)
         | (with_reducible refine (CV.out _).mono ?_
            rintro e w2 ⟨rfl, hb⟩
            exact ⟨rfl, LkT.next hT hb⟩)
       simp only [Act.put, List.setIfInBounds_toArray, List.set_cons_zero, List.set_cons_succ])
  refine wpQuiet_nil ?_
  clear L0
  intro w1 hT
  go_wp2
  go_ret
  exact ⟨rfl, LkT.bel hT⟩
set_option maxHeartbeats 1000000 in
theorem check_l0 (l : Pl.Lk) (A : Option Addr) (n c : Nat) (w : World) (hd : Pl.clampD l.d0 = l.d0 ∧ Pl.clampD l.d1 = l.d1) (hv : Pl.clampD l.v0 = l.v0 ∧ Pl.clampD l.v1 = l.v1) (_hs : l.loss < 0) :
    Calls Tryd.prog 13 #[.agg (lkCells l A n c)] w fun e w' => e = .returned (.int .i64 3) ∧ Below w.heap.size w w' := by
  have L0 : LkS w w.heap.size l A n c (w.alloc (.cells (lkCells l A n c) 26)) := ⟨Bk.new _ _ _, (Below.refl w.heap.size w).alloc (Nat.le_refl _) _⟩
  unfold lkCells
  unfold lkCells at L0
  have CD := fun w => limited_any l.d0 l.d1 w
  have CV := fun w => limited_any l.v0 l.v1 w
  rw [hd.1, hd.2] at CD
  rw [hv.1, hv.2] at CV
  clear hd hv
  replace CD := hid CD
  replace CV := hid CV
  go_enter Tryd.func13, Tryd.ntmps13
  go_wp2_with fail
  generalize w.alloc (.cells #[.int .i64 l.d0, .int .i64 l.d1, .int .i64 l.v0, .int .i64 l.v1, .int .i64 l.loss, .int .u64 l.seed, .slice A n c] 26) = w0 at *
  refine region_class (fun w' => (w'.cell? ⟨w.heap.size, 0, none⟩ = some (.int .i64 l.d0)) ∧ (w'.cell? ⟨w.heap.size, 1, none⟩ = some (.int .i64 l.d1)) ∧ (w'.cell? ⟨w.heap.size, 2, none⟩ = some (.int .i64 l.v0)) ∧ (w'.cell? ⟨w.heap.size, 3, none⟩ = some (.int .i64 l.v1)) ∧ (w'.cell? ⟨w.heap.size, 4, none⟩ = some (.int .i64 l.loss)) ∧ LkS w w.heap.size l A n c w') (by kernel_rfl) (by kernel_rfl) (LkS.all (LkS.drew L0)) ?_
  repeat
    first
    | (refine BigFrame.wpQuiet_skip (by rfl) ?_
       simp only [Act.put, List.setIfInBounds_toArray, List.set_cons_zero, List.set_cons_succ])
    | (refine class_want (by rfl) ?_
       apply Exists.intro
       refine ⟨fun w1 h1 => ?_, ?_⟩
       focus
         have hT : LkT w w.heap.size l A n c w1 := h1
         obtain ⟨c0, c1, c2, c3, c4, L⟩ := h1
         unfold Oper.quietAt Oper.quietUpon
         go_simp
         first
         | exact rfl
         | (with_reducible refine (CD.out _).mono ?_
            rintro e w2 ⟨rfl, hb⟩
            exact ⟨rfl, LkT.next hT hb⟩)
         | (with_reducible refine (CV.out _).mono ?_
            rintro e w2 ⟨rfl, hb⟩
            exact ⟨rfl, LkT.next hT hb⟩)
       simp only [Act.put, List.setIfInBounds_toArray, List.set_cons_zero, List.set_cons_succ])
  refine wpQuiet_nil ?_
  clear L0
  intro w1 hT
  go_wp2
  go_ret
  exact ⟨rfl, LkT.bel hT⟩
set_option maxHeartbeats 1000000 in
theorem check_l1 (l : Pl.Lk) (A : Option Addr) (n c : Nat) (w : World) (hd : Pl.clampD l.d0 = l.d0 ∧ Pl.clampD l.d1 = l.d1) (hv : Pl.clampD l.v0 = l.v0 ∧ Pl.clampD l.v1 = l.v1) (hs : 1000 < l.loss) :
    Calls Tryd.prog 13 #[.agg (lkCells l A n c)] w fun e w' => e = .returned (.int .i64 3) ∧ Below w.heap.size w w' := by
  have L0 : LkS w w.heap.size l A n c (w.alloc (.cells (lkCells l A n c) 26)) := ⟨Bk.new _ _ _, (Below.refl w.heap.size w).alloc (Nat.le_refl _) _⟩
  unfold lkCells
  unfold lkCells at L0
  have CD := fun w => limited_any l.d0 l.d1 w
  have CV := fun w => limited_any l.v0 l.v1 w
  rw [hd.1, hd.2] at CD
  rw [hv.1, hv.2] at CV
  have hs' : (l.loss < 0) = False := eq_false (by omega)
  clear hd hv
  replace CD := hid CD
  replace CV := hid CV
  go_enter Tryd.func13, Tryd.ntmps13
  go_wp2_with fail
  generalize w.alloc (.cells #[.int .i64 l.d0, .int .i64 l.d1, .int .i64 l.v0, .int .i64 l.v1, .int .i64 l.loss, .int .u64 l.seed, .slice A n c] 26) = w0 at *
  refine region_class (fun w' => (w'.cell? ⟨w.heap.size, 0, none⟩ = some (.int .i64 l.d0)) ∧ (w'.cell? ⟨w.heap.size, 1, none⟩ = some (.int .i64 l.d1)) ∧ (w'.cell? ⟨w.heap.size, 2, none⟩ = some (.int .i64 l.v0)) ∧ (w'.cell? ⟨w.heap.size, 3, none⟩ = some (.int .i64 l.v1)) ∧ (w'.cell? ⟨w.heap.size, 4, none⟩ = some (.int .i64 l.loss)) ∧ LkS w w.heap.size l A n c w') (by kernel_rfl) (by kernel_rfl) (LkS.all (LkS.drew L0)) ?_
  repeat
    first
    | (refine BigFrame.wpQuiet_skip (by rfl) ?_
       simp only [Act.put, List.setIfInBounds_toArray, List.set_cons_zero, List.set_cons_succ])
    | (refine class_want (by rfl) ?_
       apply Exists.intro
       refine ⟨fun w1 h1 => ?_, ?_⟩
       focus
         have hT : LkT w w.heap.size l A n c w1 := h1
         obtain ⟨c0, c1, c2, c3, c4, L⟩ := h1
         unfold Oper.quietAt Oper.quietUpon
         go_simp
         first
         | exact rfl
         | (with_reducible refine (CD.out _).mono ?_
            rintro e w2 ⟨rfl, hb⟩
            exact ⟨rfl, LkT.next hT hb⟩)
         | (with_reducible refine (CV.out _).mono ?_
            rintro e w2 ⟨rfl, hb⟩
            exact ⟨rfl, LkT.next hT hb⟩)
       simp only [Act.put, List.setIfInBounds_toArray, List.set_cons_zero, List.set_cons_succ])
  refine wpQuiet_nil ?_
  clear L0
  intro w1 hT
  go_wp2
  go_ret
  exact ⟨rfl, LkT.bel hT⟩
theorem check_head (l : Pl.Lk) (A : Option Addr) (n c : Nat) (w : World) (hl : Pl.headOk l = false) :
    Calls Tryd.prog 13 #[.agg (lkCells l A n c)] w fun e w' => e = .returned (.int .i64 3) ∧ Below w.heap.size w w' := by
  by_cases hd : Pl.clampD l.d0 = l.d0 ∧ Pl.clampD l.d1 = l.d1
  · by_cases hv : Pl.clampD l.v0 = l.v0 ∧ Pl.clampD l.v1 = l.v1
    · by_cases h0 : l.loss < 0
      · exact check_l0 l A n c w hd hv h0
      · refine check_l1 l A n c w hd hv ?_
        by_cases h1 : 1000 < l.loss
        · exact h1
        · exfalso
          rw [← Bool.not_eq_true] at hl
          apply hl
          simp only [Pl.clampD_eq] at hd hv
          unfold Pl.headOk
          simp only [Bool.and_eq_true, Pl.inR_true]
          omega
    · exact check_v l A n c w hd hv
  · exact check_d l A n c w hd
end Go.Proofs.YtjeojnlkjecojaaDoor
