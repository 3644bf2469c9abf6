/- The contracts of Check of package drift and of its reference, of Known and Held of a receiver. -/
import Derived.Test.YtmegiodajkeahaaDoorChC4
namespace Go.Proofs.YtmegiodajkeahaaDoor
open Go Go.RowKit
namespace Pl
def ivOk (lo hi : Int) : Prop := lo ≤ hi ∧ -8000000000000000000 ≤ lo ∧ hi ≤ 8000000000000000000
instance (lo hi : Int) : Decidable (ivOk lo hi) := by unfold ivOk; exact inferInstance
def ivErr (lo hi : Int) : Int := if ivOk lo hi then 0 else 3
theorem ivErr_no {lo hi : Int} (h : ¬ ivOk lo hi) : ivErr lo hi = 3 := by unfold ivErr; rw [if_neg h]
theorem ivErr_yes {lo hi : Int} (h : ivOk lo hi) : ivErr lo hi = 0 := by unfold ivErr; rw [if_pos h]
end Pl
set_option maxHeartbeats 1000000 in
theorem ivCheck_any (lo hi : Int) (w : World) : Calls Tryd.prog 43 #[.agg #[.int .i64 lo, .int .i64 hi]] w fun e w' => e = .returned (.int .i64 (Pl.ivErr lo hi)) ∧ Below w.heap.size w w' := by
  have K := Bk.new w 43 #[.int .i64 lo, .int .i64 hi]
  have B := (Below.refl w.heap.size w).alloc (Nat.le_refl _) (.cells #[.int .i64 lo, .int .i64 hi] 43)
  obtain ⟨c0, c1⟩ := K.two
  by_cases h0 : hi < lo
  · have hE := hid (Pl.ivErr_no (lo := lo) (hi := hi) (by unfold Pl.ivOk; omega))
    go_enter Tryd.func43, Tryd.ntmps43
    go_wp2
    go_ret
    exact ⟨ret_int hE.out.symm, B⟩
  by_cases h1 : lo < -8000000000000000000
  · have hE := hid (Pl.ivErr_no (lo := lo) (hi := hi) (by unfold Pl.ivOk; omega))
    go_enter Tryd.func43, Tryd.ntmps43
    go_wp2
    go_ret
    exact ⟨ret_int hE.out.symm, B⟩
  by_cases h2 : 8000000000000000000 < hi
  · have hE := hid (Pl.ivErr_no (lo := lo) (hi := hi) (by unfold Pl.ivOk; omega))
    go_enter Tryd.func43, Tryd.ntmps43
    go_wp2
    go_ret
    exact ⟨ret_int hE.out.symm, B⟩
  have hE := hid (Pl.ivErr_yes (lo := lo) (hi := hi) (by unfold Pl.ivOk; omega))
  go_enter Tryd.func43, Tryd.ntmps43
  go_wp2
  go_ret
  exact ⟨ret_int hE.out.symm, B⟩
set_option maxHeartbeats 1000000 in
theorem refIvCheck_any (lo hi : Int) (w : World) : Calls Tryd.prog 44 #[.agg #[.int .i64 lo, .int .i64 hi]] w fun e w' => e = .returned (.int .i64 (Pl.ivErr lo hi)) ∧ Below w.heap.size w w' := by
  have K := Bk.new w 43 #[.int .i64 lo, .int .i64 hi]
  have B := (Below.refl w.heap.size w).alloc (Nat.le_refl _) (.cells #[.int .i64 lo, .int .i64 hi] 43)
  obtain ⟨c0, c1⟩ := K.two
  by_cases h0 : hi < lo
  · have hE := hid (Pl.ivErr_no (lo := lo) (hi := hi) (by unfold Pl.ivOk; omega))
    go_enter Tryd.func44, Tryd.ntmps44
    go_wp2
    go_ret
    exact ⟨ret_int hE.out.symm, B⟩
  by_cases h1 : lo < -8000000000000000000
  · have hE := hid (Pl.ivErr_no (lo := lo) (hi := hi) (by unfold Pl.ivOk; omega))
    go_enter Tryd.func44, Tryd.ntmps44
    go_wp2
    go_ret
    exact ⟨ret_int hE.out.symm, B⟩
  by_cases h2 : 8000000000000000000 < hi
  · have hE := hid (Pl.ivErr_no (lo := lo) (hi := hi) (by unfold Pl.ivOk; omega))
    go_enter Tryd.func44, Tryd.ntmps44
    go_wp2
    go_ret
    exact ⟨ret_int hE.out.symm, B⟩
  have hE := hid (Pl.ivErr_yes (lo := lo) (hi := hi) (by unfold Pl.ivOk; omega))
  go_enter Tryd.func44, Tryd.ntmps44
  go_wp2
  go_ret
  exact ⟨ret_int hE.out.symm, B⟩
theorem known_nil (w : World) : Calls Tryd.prog 31 #[.pointer none] w fun e w' => e = .returned (.int .i64 0) ∧ w = w' := by
  go_enter Tryd.func31, Tryd.ntmps31
  go_wp2
  go_ret
  exact ⟨rfl, rfl⟩
theorem held_nil (w : World) : Calls Tryd.prog 33 #[.pointer none] w fun e w' => e = .returned (.int .i64 0) ∧ w = w' := by
  go_enter Tryd.func33, Tryd.ntmps33
  go_wp2
  go_ret
  exact ⟨rfl, rfl⟩
theorem known_at (g : Nat) (k : Int) (w : World) (h : w.cell? ⟨g, 4, none⟩ = some (.int .i64 k)) : Calls Tryd.prog 31 #[pt g] w fun e w' => e = .returned (.int .i64 k) ∧ w = w' := by
  go_enter Tryd.func31, Tryd.ntmps31
  go_wp2
  go_ret
  exact ⟨rfl, rfl⟩
theorem held_at (g : Nat) (A : Option Addr) (n c : Nat) (w : World) (h : w.cell? ⟨g, 7, none⟩ = some (.slice A n c)) : Calls Tryd.prog 33 #[pt g] w fun e w' => e = .returned (.int .i64 n) ∧ w = w' := by
  go_enter Tryd.func33, Tryd.ntmps33
  go_wp2
  go_ret
  exact ⟨rfl, rfl⟩
end Go.Proofs.YtmegiodajkeahaaDoor
