/- The contract of New of package chain. -/
import Derived.Test.YtmegiodajkeahaaDoorChC5
namespace Go.Proofs.YtmegiodajkeahaaDoor
open Go Go.RowKit
/-- A receiver's block. -/
def rcv (st sp de co kn k0 k1 : Int) (held : Value) : Array Value := #[.int .i64 st, .int .i64 sp, .int .i64 de, .int .i64 co, .int .i64 kn, .int .u64 k0, .int .u64 k1, held]
set_option maxHeartbeats 1000000 in
theorem new_any (st sp de co k0 k1 : Int) (w : World) : Calls Tryd.prog 20 #[.agg (cfCells st sp de co), .agg #[.int .u64 k0, .int .u64 k1]] w fun e w' => Below w.heap.size w w' ∧
    ((¬ Pl.cfOk st sp de co ∧ e = .returned (.pointer none)) ∨ (Pl.cfOk st sp de co ∧ ∃ g, w.heap.size ≤ g ∧ e = .returned (pt g) ∧ Bk w' g 76 (rcv st sp de co 0 k0 k1 (.slice none 0 0)))) := by
  have KA : CfS w w.heap.size st sp de co (w.alloc (.cells (cfCells st sp de co) 23)) := ⟨Bk.new w 23 _, (Below.refl w.heap.size w).alloc (Nat.le_refl _) _⟩
  have K := CfS.next KA ((Below.refl _ _).alloc (Nat.le_refl _) (.cells #[.int .u64 k0, .int .u64 k1] 37))
  have S := Bk.new (w.alloc (.cells (cfCells st sp de co) 23)) 37 #[.int .u64 k0, .int .u64 k1]
  have hg : (w.alloc (.cells (cfCells st sp de co) 23)).heap.size = w.heap.size + 1 := by simp
  rw [hg] at S
  clear KA hg
  have CK := fun w => chk_any st sp de co w
  obtain ⟨c0, c1, c2, c3⟩ := CfS.cells K
  replace CK := hid CK
  unfold cfCells at *
  go_enter Tryd.func20, Tryd.ntmps20
  go_wp2_with fail
  clear c0 c1 c2 c3
  generalize (w.alloc (.cells #[.int .i64 st, .int .i64 sp, .int .i64 de, .int .i64 co] 23)).alloc (.cells #[.int .u64 k0, .int .u64 k1] 37) = w0 at *
  refine (CK.out _).mono ?_
  rintro e w1 ⟨rfl, hb⟩
  have K1 := CfS.next K hb
  have S1 := S.next hb
  clear K S hb CK
  obtain ⟨c0, c1, c2, c3⟩ := CfS.cells K1
  obtain ⟨s0, s1⟩ := S1.two
  by_cases hok : Pl.cfOk st sp de co
  case neg =>
    have h3 := Pl.cfErr_no hok
    rw [h3]
    go_wp2
    go_ret
    exact ⟨K1.2, .inl ⟨hok, rfl⟩⟩
  have h3 := Pl.cfErr_yes hok
  rw [h3]
  replace hok := hid hok
  clear h3
  have hsz := K1.2.size
  have KR := Bk.new w1 76 (rcv st sp de co 0 k0 k1 (.slice none 0 0))
  have BR := K1.2.alloc hsz (.cells (rcv st sp de co 0 k0 k1 (.slice none 0 0)) 76)
  go_wp2
  go_ret
  exact ⟨BR, .inr ⟨hok.out, w1.heap.size, hsz, rfl, KR⟩⟩
end Go.Proofs.YtmegiodajkeahaaDoor
