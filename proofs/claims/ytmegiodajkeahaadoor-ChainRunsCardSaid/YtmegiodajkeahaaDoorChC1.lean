/- Configurations of chains: plain law, and the contracts of Check of package chain and of its reference. -/
import Derived.Test.YtmegiodajkeahaaDoorMacC
import Derived.Test.YtmegiodajkeahaaDoorCls
namespace Go.Proofs.YtmegiodajkeahaaDoor
open Go Go.RowKit
namespace Pl
def cfOk (st sp de co : Int) : Prop := (0 ≤ st ∧ st ≤ 1125899906842624) ∧ (1 ≤ sp ∧ sp ≤ 1125899906842624) ∧ (1 ≤ de ∧ de ≤ 8) ∧ 1 ≤ co ∧ co ≤ 64
instance (st sp de co : Int) : Decidable (cfOk st sp de co) := by unfold cfOk; exact inferInstance
def cfErr (st sp de co : Int) : Int := if cfOk st sp de co then 0 else 3
theorem cfErr_no {st sp de co : Int} (h : ¬ cfOk st sp de co) : cfErr st sp de co = 3 := by unfold cfErr; rw [if_neg h]
theorem cfErr_yes {st sp de co : Int} (h : cfOk st sp de co) : cfErr st sp de co = 0 := by unfold cfErr; rw [if_pos h]
end Pl
def cfCells (st sp de co : Int) : Array Value := #[.int .i64 st, .int .i64 sp, .int .i64 de, .int .i64 co]
set_option maxHeartbeats 1000000 in
theorem chk_any (st sp de co : Int) (w : World) : Calls Tryd.prog 12 #[.agg (cfCells st sp de co)] w fun e w' => e = .returned (.int .i64 (Pl.cfErr st sp de co)) ∧ Below w.heap.size w w' := by
  have K := Bk.new w 23 (cfCells st sp de co)
  have B := (Below.refl w.heap.size w).alloc (Nat.le_refl _) (.cells (cfCells st sp de co) 23)
  have c0 := K.cell 0
  have c1 := K.cell 1
  have c2 := K.cell 2
  have c3 := K.cell 3
  unfold cfCells at *
  simp only [List.getElem?_toArray, List.getElem?_cons_zero, List.getElem?_cons_succ] at c0 c1 c2 c3
  by_cases h0 : st < 0
  · have hE := hid (Pl.cfErr_no (st := st) (sp := sp) (de := de) (co := co) (by unfold Pl.cfOk; omega))
    go_enter Tryd.func12, Tryd.ntmps12
    go_wp2
    go_ret
    exact ⟨ret_int hE.out.symm, B⟩
  by_cases h1 : 1125899906842624 < st
  · have hE := hid (Pl.cfErr_no (st := st) (sp := sp) (de := de) (co := co) (by unfold Pl.cfOk; omega))
    go_enter Tryd.func12, Tryd.ntmps12
    go_wp2
    go_ret
    exact ⟨ret_int hE.out.symm, B⟩
  by_cases h2 : sp < 1
  · have hE := hid (Pl.cfErr_no (st := st) (sp := sp) (de := de) (co := co) (by unfold Pl.cfOk; omega))
    go_enter Tryd.func12, Tryd.ntmps12
    go_wp2
    go_ret
    exact ⟨ret_int hE.out.symm, B⟩
  by_cases h3 : 1125899906842624 < sp
  · have hE := hid (Pl.cfErr_no (st := st) (sp := sp) (de := de) (co := co) (by unfold Pl.cfOk; omega))
    go_enter Tryd.func12, Tryd.ntmps12
    go_wp2
    go_ret
    exact ⟨ret_int hE.out.symm, B⟩
  by_cases h4 : de < 1
  · have hE := hid (Pl.cfErr_no (st := st) (sp := sp) (de := de) (co := co) (by unfold Pl.cfOk; omega))
    go_enter Tryd.func12, Tryd.ntmps12
    go_wp2
    go_ret
    exact ⟨ret_int hE.out.symm, B⟩
  by_cases h5 : 8 < de
  · have hE := hid (Pl.cfErr_no (st := st) (sp := sp) (de := de) (co := co) (by unfold Pl.cfOk; omega))
    go_enter Tryd.func12, Tryd.ntmps12
    go_wp2
    go_ret
    exact ⟨ret_int hE.out.symm, B⟩
  by_cases h6 : co < 1
  · have hE := hid (Pl.cfErr_no (st := st) (sp := sp) (de := de) (co := co) (by unfold Pl.cfOk; omega))
    go_enter Tryd.func12, Tryd.ntmps12
    go_wp2
    go_ret
    exact ⟨ret_int hE.out.symm, B⟩
  by_cases h7 : 64 < co
  · have hE := hid (Pl.cfErr_no (st := st) (sp := sp) (de := de) (co := co) (by unfold Pl.cfOk; omega))
    go_enter Tryd.func12, Tryd.ntmps12
    go_wp2
    go_ret
    exact ⟨ret_int hE.out.symm, B⟩
  have hE := hid (Pl.cfErr_yes (st := st) (sp := sp) (de := de) (co := co) (by unfold Pl.cfOk; omega))
  go_enter Tryd.func12, Tryd.ntmps12
  go_wp2
  go_ret
  exact ⟨ret_int hE.out.symm, B⟩
set_option maxHeartbeats 1000000 in
theorem refChk_any (st sp de co : Int) (w : World) : Calls Tryd.prog 13 #[.agg (cfCells st sp de co)] w fun e w' => e = .returned (.int .i64 (Pl.cfErr st sp de co)) ∧ Below w.heap.size w w' := by
  have K := Bk.new w 23 (cfCells st sp de co)
  have B := (Below.refl w.heap.size w).alloc (Nat.le_refl _) (.cells (cfCells st sp de co) 23)
  have c0 := K.cell 0
  have c1 := K.cell 1
  have c2 := K.cell 2
  have c3 := K.cell 3
  unfold cfCells at *
  simp only [List.getElem?_toArray, List.getElem?_cons_zero, List.getElem?_cons_succ] at c0 c1 c2 c3
  by_cases h0 : st < 0
  · have hE := hid (Pl.cfErr_no (st := st) (sp := sp) (de := de) (co := co) (by unfold Pl.cfOk; omega))
    go_enter Tryd.func13, Tryd.ntmps13
    go_wp2
    go_ret
    exact ⟨ret_int hE.out.symm, B⟩
  by_cases h1 : 1125899906842624 < st
  · have hE := hid (Pl.cfErr_no (st := st) (sp := sp) (de := de) (co := co) (by unfold Pl.cfOk; omega))
    go_enter Tryd.func13, Tryd.ntmps13
    go_wp2
    go_ret
    exact ⟨ret_int hE.out.symm, B⟩
  by_cases h2 : sp < 1
  · have hE := hid (Pl.cfErr_no (st := st) (sp := sp) (de := de) (co := co) (by unfold Pl.cfOk; omega))
    go_enter Tryd.func13, Tryd.ntmps13
    go_wp2
    go_ret
    exact ⟨ret_int hE.out.symm, B⟩
  by_cases h3 : 1125899906842624 < sp
  · have hE := hid (Pl.cfErr_no (st := st) (sp := sp) (de := de) (co := co) (by unfold Pl.cfOk; omega))
    go_enter Tryd.func13, Tryd.ntmps13
    go_wp2
    go_ret
    exact ⟨ret_int hE.out.symm, B⟩
  by_cases h4 : de < 1
  · have hE := hid (Pl.cfErr_no (st := st) (sp := sp) (de := de) (co := co) (by unfold Pl.cfOk; omega))
    go_enter Tryd.func13, Tryd.ntmps13
    go_wp2
    go_ret
    exact ⟨ret_int hE.out.symm, B⟩
  by_cases h5 : 8 < de
  · have hE := hid (Pl.cfErr_no (st := st) (sp := sp) (de := de) (co := co) (by unfold Pl.cfOk; omega))
    go_enter Tryd.func13, Tryd.ntmps13
    go_wp2
    go_ret
    exact ⟨ret_int hE.out.symm, B⟩
  by_cases h6 : co < 1
  · have hE := hid (Pl.cfErr_no (st := st) (sp := sp) (de := de) (co := co) (by unfold Pl.cfOk; omega))
    go_enter Tryd.func13, Tryd.ntmps13
    go_wp2
    go_ret
    exact ⟨ret_int hE.out.symm, B⟩
  by_cases h7 : 64 < co
  · have hE := hid (Pl.cfErr_no (st := st) (sp := sp) (de := de) (co := co) (by unfold Pl.cfOk; omega))
    go_enter Tryd.func13, Tryd.ntmps13
    go_wp2
    go_ret
    exact ⟨ret_int hE.out.symm, B⟩
  have hE := hid (Pl.cfErr_yes (st := st) (sp := sp) (de := de) (co := co) (by unfold Pl.cfOk; omega))
  go_enter Tryd.func13, Tryd.ntmps13
  go_wp2
  go_ret
  exact ⟨ret_int hE.out.symm, B⟩
end Go.Proofs.YtmegiodajkeahaaDoor
