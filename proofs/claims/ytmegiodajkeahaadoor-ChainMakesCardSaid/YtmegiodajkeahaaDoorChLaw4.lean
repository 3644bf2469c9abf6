/- The walk of the law ChainMakes. -/
import Derived.Test.YtmegiodajkeahaaDoorChA1
import Derived.Deep.RegionHeld3
import Derived.Deep.RegionWith
import Derived.Deep.DrawnRows
namespace Go.Proofs.YtmegiodajkeahaaDoor
open Go Go.RowKit
/-- The cells of the configuration, and what stays. -/
def MkT (W : World) (x : Nat) (st sp de co : Int) (w : World) : Prop :=
  (w.cell? ⟨x, 0, none⟩ = some (.int .i64 st)) ∧ (w.cell? ⟨x, 1, none⟩ = some (.int .i64 sp)) ∧ (w.cell? ⟨x, 2, none⟩ = some (.int .i64 de)) ∧ (w.cell? ⟨x, 3, none⟩ = some (.int .i64 co)) ∧ CfS W x st sp de co w
theorem CfS.t {W w : World} {x : Nat} {st sp de co : Int} (h : CfS W x st sp de co w) : MkT W x st sp de co w := ⟨h.cells.1, h.cells.2.1, h.cells.2.2.1, h.cells.2.2.2, h⟩
theorem CfS.drew {W w : World} {x : Nat} {st sp de co : Int} (h : CfS W x st sp de co w) : CfS W x st sp de co w.drew := h.next (Below.refl _ _).drew
theorem MkT.next {W w w' : World} {x : Nat} {st sp de co : Int} (h : MkT W x st sp de co w) (hb : Below w.heap.size w w') : MkT W x st sp de co w' := (h.2.2.2.2.next hb).t
theorem MkT.bel {W w : World} {x : Nat} {st sp de co : Int} (h : MkT W x st sp de co w) : Below W.heap.size W w := h.2.2.2.2.2
set_option maxHeartbeats 4000000 in
set_option maxRecDepth 100000 in
theorem chainMakes_yes (st sp de t seed : Int) (n : Nat) (h1 : 1 ≤ n) (h2 : n ≤ 64) (W : World) (hR : Rnd W) (hG : CfG W) (ht : t ≤ 9223372036854775807) :
    Calls Tryd.prog 3 #[.agg (cfCells st sp de (n : Int)), .int .u64 seed, .int .i64 t] W fun e w' => e = .returned (.bool true) ∧ Below W.heap.size W w' := by
  have K0 : CfS W W.heap.size st sp de n (W.alloc (.cells (cfCells st sp de n) 23)) := ⟨Bk.new W 23 _, (Below.refl W.heap.size W).alloc (Nat.le_refl _) _⟩
  have C1 : ∀ w, Calls Tryd.prog 12 #[.agg #[.int .i64 st, .int .i64 sp, .int .i64 de, .int .i64 (n : Int)]] w fun e w' => e = .returned (.int .i64 (Pl.cfErr st sp de n)) ∧ Below w.heap.size w w' := fun w => chk_any st sp de n w
  have C2 : ∀ w, Calls Tryd.prog 13 #[.agg #[.int .i64 st, .int .i64 sp, .int .i64 de, .int .i64 (n : Int)]] w fun e w' => e = .returned (.int .i64 (Pl.cfErr st sp de n)) ∧ Below w.heap.size w w' := fun w => refChk_any st sp de n w
  have I1 : ∀ w, Calls Tryd.prog 17 #[.agg #[.int .i64 st, .int .i64 sp, .int .i64 de, .int .i64 (n : Int)], .int .i64 t] w fun e w' => e = .returned (.int .i64 (Pl.ivl st sp de n t)) ∧ Below w.heap.size w w' := fun w => interval_any st sp de n t ht w
  have I2 : ∀ w, Calls Tryd.prog 18 #[.agg #[.int .i64 st, .int .i64 sp, .int .i64 de, .int .i64 (n : Int)], .int .i64 t] w fun e w' => e = .returned (.int .i64 (Pl.ivl st sp de n t)) ∧ Below w.heap.size w w' := fun w => refInterval_any st sp de n t w
  have M1 := fun w h => make_any seed n h1 h2 w h
  have M2 := fun w => refMake_any seed n h1 h2 w
  have hKl := Pl.keysL_len (Pl.lastK seed n) n
  generalize Pl.keysL (Pl.lastK seed n) n = K at *
  generalize Pl.cfErr st sp de n = ce at *
  generalize Pl.ivl st sp de n t = iv at *
  have SM : ∀ (a b : Nat) (c : Nat) (w : World), IsKs w (some ⟨a, 0, none⟩) K → IsKs w (some ⟨b, 0, none⟩) K → Calls Tryd.prog 14 #[.slice (some ⟨a, 0, none⟩) (n + 1) (n + 1), .slice (some ⟨b, 0, none⟩) (n + 1) c] w fun e w' => e = .returned (.bool true) ∧ Below w.heap.size w w' := fun a b c w ha hb => by
    have := same_any (some ⟨a, 0, none⟩) (some ⟨b, 0, none⟩) (n + 1) c K w ha hb (by omega)
    rw [hKl] at this
    exact this
  have M2' : ∀ w, Calls Tryd.prog 16 #[.int .u64 seed, .int .i64 (n : Int)] w fun e w' => (∃ g c, e = .returned (.slice (some ⟨g, 0, none⟩) (n + 1) c) ∧ IsKs w' (some ⟨g, 0, none⟩) K) ∧ Below w.heap.size w w' := fun w => (M2 w).mono fun e w' ⟨⟨v, h1, O⟩, hb⟩ => by
    obtain ⟨g, c, rfl, _, _, hI⟩ := O.row (by omega)
    rw [hKl] at h1
    exact ⟨⟨g, c, h1, hI⟩, hb⟩
  replace C1 := hid C1
  replace C2 := hid C2
  replace I1 := hid I1
  replace I2 := hid I2
  replace M1 := hid M1
  replace M2' := hid M2'
  replace SM := hid SM
  have HR := hid (And.intro hR hG)
  have AW : Hid (∀ w, Below W.heap.size W w → Calls Tryd.prog 19 #[] w fun e w' => e = .returned (.bool true) ∧ Below w.heap.size w w') := hid fun w h => awake_any w (hR.next h) (hG.next h)
  have HK0 := hid K0
  clear hR hG M2 hKl
  obtain ⟨c0, c1, c2, c3⟩ := K0.cells
  clear K0
  unfold cfCells at *
  go_enter Tryd.func3, Tryd.ntmps3
  go_wp2_with fail
  generalize W.alloc (.cells #[.int .i64 st, .int .i64 sp, .int .i64 de, .int .i64 (n : Int)] 23) = w0 at *
  clear c0 c1 c2 c3
  go_region_held3 (fun w' => (w'.cell? ⟨W.heap.size, 0, none⟩ = some (.int .i64 st)) ∧ (w'.cell? ⟨W.heap.size, 1, none⟩ = some (.int .i64 sp)) ∧ (w'.cell? ⟨W.heap.size, 2, none⟩ = some (.int .i64 de)) ∧ (w'.cell? ⟨W.heap.size, 3, none⟩ = some (.int .i64 (n : Int))) ∧ CfS W W.heap.size st sp de n w')
    (first | exact CfS.t (CfS.drew HK0.out) | exact MkT.next (by assumption) hb9 | exact MkT.next (by assumption) hb8 | exact MkT.next (by assumption) hb7 | exact MkT.next (by assumption) hb6 | exact MkT.next (by assumption) hb5 | exact MkT.next (by assumption) hb4 | exact MkT.next (by assumption) hb3 | exact MkT.next (by assumption) hb2)
    (first
      | (go_at_call 12; refine (C1.out _).mono ?_; rintro e w2 ⟨rfl, hb2⟩)
      | (go_at_call 13; refine (C2.out _).mono ?_; rintro e w3 ⟨rfl, hb3⟩)
      | (go_at_call 15; refine (M1.out _ (HR.out.1.next (MkT.bel (x := W.heap.size) (st := st) (sp := sp) (de := de) (co := (n : Int)) (by assumption)))).mono ?_; rintro e w4 ⟨rfl, Kb, hb4⟩)
      | (go_at_call 16; refine (M2'.out _).mono ?_; rintro e w5 ⟨⟨g5, c5, rfl, I5⟩, hb5⟩)
      | (go_at_call 14; refine (SM.out _ _ _ _ ((BkK.is Kb).next hb5) I5).mono ?_; rintro e w6 ⟨rfl, hb6⟩)
      | (go_at_call 17; refine (I1.out _).mono ?_; rintro e w7 ⟨rfl, hb7⟩)
      | (go_at_call 18; refine (I2.out _).mono ?_; rintro e w8 ⟨rfl, hb8⟩)
      | (go_at_call 19; refine (AW.out _ (MkT.bel (x := W.heap.size) (st := st) (sp := sp) (de := de) (co := (n : Int)) (by assumption))).mono ?_; rintro e w9 ⟨rfl, hb9⟩))
  have hfin : Below W.heap.size W w9 := MkT.bel (x := W.heap.size) (st := st) (sp := sp) (de := de) (co := (n : Int)) (by assumption)
  go_wp2
  go_ret
  exact ⟨rfl, hfin⟩
set_option maxHeartbeats 4000000 in
set_option maxRecDepth 100000 in
theorem chainMakes_no (st sp de t seed n : Int) (hn : n < 1 ∨ 64 < n) (W : World) (hR : Rnd W) (hG : CfG W) (ht : t ≤ 9223372036854775807) :
    Calls Tryd.prog 3 #[.agg (cfCells st sp de n), .int .u64 seed, .int .i64 t] W fun e w' => e = .returned (.bool true) ∧ Below W.heap.size W w' := by
  have K0 : CfS W W.heap.size st sp de n (W.alloc (.cells (cfCells st sp de n) 23)) := ⟨Bk.new W 23 _, (Below.refl W.heap.size W).alloc (Nat.le_refl _) _⟩
  have C1 : ∀ w, Calls Tryd.prog 12 #[.agg #[.int .i64 st, .int .i64 sp, .int .i64 de, .int .i64 n]] w fun e w' => e = .returned (.int .i64 (Pl.cfErr st sp de n)) ∧ Below w.heap.size w w' := fun w => chk_any st sp de n w
  have C2 : ∀ w, Calls Tryd.prog 13 #[.agg #[.int .i64 st, .int .i64 sp, .int .i64 de, .int .i64 n]] w fun e w' => e = .returned (.int .i64 (Pl.cfErr st sp de n)) ∧ Below w.heap.size w w' := fun w => refChk_any st sp de n w
  have I1 : ∀ w, Calls Tryd.prog 17 #[.agg #[.int .i64 st, .int .i64 sp, .int .i64 de, .int .i64 n], .int .i64 t] w fun e w' => e = .returned (.int .i64 (Pl.ivl st sp de n t)) ∧ Below w.heap.size w w' := fun w => interval_any st sp de n t ht w
  have I2 : ∀ w, Calls Tryd.prog 18 #[.agg #[.int .i64 st, .int .i64 sp, .int .i64 de, .int .i64 n], .int .i64 t] w fun e w' => e = .returned (.int .i64 (Pl.ivl st sp de n t)) ∧ Below w.heap.size w w' := fun w => refInterval_any st sp de n t w
  have M1 := fun w => make_none seed n hn w
  have M2' := fun w => refMake_none seed n hn w
  generalize Pl.cfErr st sp de n = ce at *
  generalize Pl.ivl st sp de n t = iv at *
  have SM : ∀ w, Calls Tryd.prog 14 #[.slice none 0 0, .slice none 0 0] w fun e w' => e = .returned (.bool true) ∧ Below w.heap.size w w' := fun w => same_any none none 0 0 [] w (.inl rfl) (.inl rfl) (by decide)
  replace C1 := hid C1
  replace C2 := hid C2
  replace I1 := hid I1
  replace I2 := hid I2
  replace M1 := hid M1
  replace M2' := hid M2'
  replace SM := hid SM
  have HR := hid (And.intro hR hG)
  have AW : Hid (∀ w, Below W.heap.size W w → Calls Tryd.prog 19 #[] w fun e w' => e = .returned (.bool true) ∧ Below w.heap.size w w') := hid fun w h => awake_any w (hR.next h) (hG.next h)
  have HK0 := hid K0
  clear hR hG
  obtain ⟨c0, c1, c2, c3⟩ := K0.cells
  clear K0
  unfold cfCells at *
  go_enter Tryd.func3, Tryd.ntmps3
  go_wp2_with fail
  generalize W.alloc (.cells #[.int .i64 st, .int .i64 sp, .int .i64 de, .int .i64 n] 23) = w0 at *
  clear c0 c1 c2 c3
  go_region_held3 (fun w' => (w'.cell? ⟨W.heap.size, 0, none⟩ = some (.int .i64 st)) ∧ (w'.cell? ⟨W.heap.size, 1, none⟩ = some (.int .i64 sp)) ∧ (w'.cell? ⟨W.heap.size, 2, none⟩ = some (.int .i64 de)) ∧ (w'.cell? ⟨W.heap.size, 3, none⟩ = some (.int .i64 n)) ∧ CfS W W.heap.size st sp de n w')
    (first | assumption | exact CfS.t (CfS.drew HK0.out) | exact MkT.next (by assumption) hb9 | exact MkT.next (by assumption) hb8 | exact MkT.next (by assumption) hb7 | exact MkT.next (by assumption) hb6 | exact MkT.next (by assumption) hb3 | exact MkT.next (by assumption) hb2)
    (first
      | (go_at_call 12; refine (C1.out _).mono ?_; rintro e w2 ⟨rfl, hb2⟩)
      | (go_at_call 13; refine (C2.out _).mono ?_; rintro e w3 ⟨rfl, hb3⟩)
      | (go_at_call 15; refine (M1.out _).mono ?_; rintro e w4 ⟨rfl, rfl⟩)
      | (go_at_call 16; refine (M2'.out _).mono ?_; rintro e w5 ⟨rfl, rfl⟩)
      | (go_at_call 14; refine (SM.out _).mono ?_; rintro e w6 ⟨rfl, hb6⟩)
      | (go_at_call 17; refine (I1.out _).mono ?_; rintro e w7 ⟨rfl, hb7⟩)
      | (go_at_call 18; refine (I2.out _).mono ?_; rintro e w8 ⟨rfl, hb8⟩)
      | (go_at_call 19; refine (AW.out _ (MkT.bel (x := W.heap.size) (st := st) (sp := sp) (de := de) (co := n) (by assumption))).mono ?_; rintro e w9 ⟨rfl, hb9⟩))
  have hfin : Below W.heap.size W w9 := MkT.bel (x := W.heap.size) (st := st) (sp := sp) (de := de) (co := n) (by assumption)
  go_wp2
  go_ret
  exact ⟨rfl, hfin⟩
theorem chainMakes_walk (st sp de co t seed : Int) (W : World) (hR : Rnd W) (hG : CfG W) (ht : t ≤ 9223372036854775807) :
    Calls Tryd.prog 3 #[.agg (cfCells st sp de co), .int .u64 seed, .int .i64 t] W fun e w' => e = .returned (.bool true) ∧ Below W.heap.size W w' := by
  by_cases hn : co < 1 ∨ 64 < co
  · exact chainMakes_no st sp de t seed co hn W hR hG ht
  · obtain ⟨m, rfl⟩ : ∃ m : Nat, co = m := ⟨co.toNat, by omega⟩
    exact chainMakes_yes st sp de t seed m (by omega) (by omega) W hR hG ht
end Go.Proofs.YtmegiodajkeahaaDoor
