/- The walks of the laws MacTags and MacDerives: each answers true, whatever the input, and writes nothing that was there. -/
import Derived.Test.YtomlcfkendmjeaaDoorMacAw
import Derived.Test.YtomlcfkendmjeaaDoorOpen
import Derived.Deep.RegionHeld3
namespace Go.Proofs.YtomlcfkendmjeaaDoor
open Go Go.RowKit
def IsBytes (xs : List Int) : Prop := ∀ x ∈ xs, 0 ≤ x ∧ x ≤ 255
theorem bytes_wf {xs : List Int} (h : ∀ x ∈ xs, (Lit.int .u8 x).wf = true) : IsBytes xs := fun x hx => bounds_u8 (h x hx)
/-- What a region that reads a boxed key leaves as it is: the key's block, and all that was there when the call began. -/
def KeyS (W : World) (g : Nat) (a b : Int) (w : World) : Prop := Bk w g 24 #[.int .u64 a, .int .u64 b] ∧ Below W.heap.size W w
theorem KeyS.of {W : World} {g : Nat} {a b : Int} {w : World} (h1 : Bk w g 24 #[.int .u64 a, .int .u64 b]) (h2 : Below W.heap.size W w) : KeyS W g a b w := ⟨h1, h2⟩
theorem KeyS.drew {W : World} {g : Nat} {a b : Int} {w : World} (h : KeyS W g a b w) : KeyS W g a b w.drew := ⟨h.1.drew, h.2.drew⟩
theorem KeyS.next {W : World} {g : Nat} {a b : Int} {w w' : World} (h : KeyS W g a b w) (hb : Below w.heap.size w w') : KeyS W g a b w' := ⟨h.1.next hb, bstep h.2 hb⟩
theorem KeyS.all {W : World} {g : Nat} {a b : Int} {w : World} (h : KeyS W g a b w) : w.cell? ⟨g, 0, none⟩ = some (.int .u64 a) ∧ w.cell? ⟨g, 1, none⟩ = some (.int .u64 b) ∧ KeyS W g a b w := ⟨h.1.cell 0, h.1.cell 1, h⟩
theorem heldB {W : World} {g : Nat} {a b : Int} {w : World} (h : w.cell? ⟨g, 0, none⟩ = some (.int .u64 a) ∧ w.cell? ⟨g, 1, none⟩ = some (.int .u64 b) ∧ KeyS W g a b w) : Below W.heap.size W w := h.2.2.2
theorem heldN {W : World} {g : Nat} {a b : Int} {w w' : World} (h : w.cell? ⟨g, 0, none⟩ = some (.int .u64 a) ∧ w.cell? ⟨g, 1, none⟩ = some (.int .u64 b) ∧ KeyS W g a b w) (hb : Below w.heap.size w w') :
    w'.cell? ⟨g, 0, none⟩ = some (.int .u64 a) ∧ w'.cell? ⟨g, 1, none⟩ = some (.int .u64 b) ∧ KeyS W g a b w' := (h.2.2.next hb).all
set_option maxHeartbeats 1000000 in
theorem macTags_walk (k0 k1 : Int) (A : Option Addr) (c : Nat) (xs : List Int) (t : Int) (W : World) (hR : Rnd W) (hS : IsSl W A .u8 xs) (hx : IsBytes xs) :
    Calls Tryd.prog 3 #[.agg #[.int .u64 k0, .int .u64 k1], .slice A xs.length c, .int .u64 t] W fun e w' => e = .returned (.bool true) ∧ Below W.heap.size W w' := by
  have B0 := (Below.refl W.heap.size W).alloc (Nat.le_refl _) (.cells #[.int .u64 k0, .int .u64 k1] 24)
  have HX := hid hx
  clear hx
  by_cases h2 : (2000 : Int) < (xs.length : Int)
  · go_enter Tryd.func3, Tryd.ntmps3
    go_wp2_with fail
    refine (awake_any _ (hR.next B0)).mono ?_
    rintro e w1 ⟨rfl, hb⟩
    go_wp2
    go_ret
    exact ⟨rfl, bstep B0 hb⟩
  · have hS0 := hS.next B0
    have hn : xs.length ≤ 1000000000 := by omega
    have C1 := hid (refTag_any k0 k1 A c xs _ hS0 HX.out hn)
    go_enter Tryd.func3, Tryd.ntmps3
    go_wp2_with fail
    refine C1.out.mono ?_
    clear C1
    rintro e w1 ⟨rfl, hb⟩
    have B1 := bstep B0 hb
    have hR1 := hR.next B1
    have hS1 := hS.next B1
    have K1 := (Bk.new W 24 #[.int .u64 k0, .int .u64 k1]).next hb
    obtain ⟨ka, kb⟩ := K1.two
    clear hb
    have C := hid (tag_any k0 k1 A c xs w1 hR1 hS1 HX.out hn)
    go_wp2_with fail
    refine C.out.mono ?_
    clear C
    rintro e w2 ⟨rfl, hb⟩
    have B2 := bstep B1 hb
    have hR2 := hR.next B2
    have hS2 := hS.next B2
    have K2 := K1.next hb
    clear hb ka kb
    obtain ⟨ka, kb⟩ := K2.two
    have C := hid (check_any k0 k1 A c xs t w2 hR2 hS2 HX.out hn)
    go_wp2_with fail
    refine C.out.mono ?_
    clear C
    rintro e w3 ⟨rfl, hb⟩
    have B3 := bstep B2 hb
    have hR3 := hR.next B3
    have hS3 := hS.next B3
    have K3 := K2.next hb
    clear hb ka kb
    obtain ⟨ka, kb⟩ := K3.two
    have C := check_any k0 k1 A c xs (Pl.tagOf k0 k1 xs) w3 hR3 hS3 HX.out hn
    rw [beq_self_eq_true] at C
    have C := hid C
    go_wp2_with fail
    refine C.out.mono ?_
    clear C
    rintro e w4 ⟨rfl, hb⟩
    have B4 := bstep B3 hb
    go_wp2_with fail
    refine (awake_any _ (hR.next B4)).mono ?_
    rintro e w5 ⟨rfl, hb5⟩
    go_wp2
    go_ret
    exact ⟨rfl, bstep B4 hb5⟩
attribute [local simp high] guard_bind eql_key neq_key
set_option maxHeartbeats 1000000 in
theorem macDerives_walk (k0 k1 : Int) (A : Option Addr) (c : Nat) (xs : List Int) (W : World) (hR : Rnd W) (hS : IsSl W A .u8 xs) (hx : IsBytes xs) :
    Calls Tryd.prog 4 #[.agg #[.int .u64 k0, .int .u64 k1], .slice A xs.length c] W fun e w' => e = .returned (.bool true) ∧ Below W.heap.size W w' := by
  have B0 := (Below.refl W.heap.size W).alloc (Nat.le_refl _) (.cells #[.int .u64 k0, .int .u64 k1] 24)
  have K0 := KeyS.of (Bk.new W 24 #[.int .u64 k0, .int .u64 k1]) B0
  have HX := hid hx
  clear hx
  by_cases h2 : (2000 : Int) < (xs.length : Int)
  · go_enter Tryd.func4, Tryd.ntmps4
    go_wp2_with fail
    refine (awake_any _ (hR.next B0)).mono ?_
    rintro e w1 ⟨rfl, hb⟩
    go_wp2
    go_ret
    exact ⟨rfl, bstep B0 hb⟩
  · have hn : xs.length ≤ 1000000000 := by omega
    have CD : ∀ w, Rnd w → IsSl w A .u8 xs → Calls Tryd.prog 13 #[.agg #[.int .u64 k0, .int .u64 k1], .slice A xs.length c] w fun e w' => e = .returned (.agg #[.int .u64 (Pl.d1 k0 k1 xs), .int .u64 (Pl.d2 k0 k1 xs)]) ∧ Below w.heap.size w w' := fun w h1 h2 => derive_any k0 k1 A c xs w h1 h2 HX.out hn
    have CR : ∀ w, IsSl w A .u8 xs → Calls Tryd.prog 14 #[.agg #[.int .u64 k0, .int .u64 k1], .slice A xs.length c] w fun e w' => e = .returned (.agg #[.int .u64 (Pl.d1 k0 k1 xs), .int .u64 (Pl.d2 k0 k1 xs)]) ∧ Below w.heap.size w w' := fun w h2 => refDerive_any k0 k1 A c xs w h2 HX.out hn
    generalize Pl.d1 k0 k1 xs = D1 at CD CR
    generalize Pl.d2 k0 k1 xs = D2 at CD CR
    have CD := hid CD
    have CR := hid CR
    go_enter Tryd.func4, Tryd.ntmps4
    go_wp2_with fail
    generalize W.alloc (.cells #[.int .u64 k0, .int .u64 k1] 24) = w0 at *
    go_region_held3 (fun w' => (w'.cell? ⟨W.heap.size, 0, none⟩ = some (.int .u64 k0)) ∧ (w'.cell? ⟨W.heap.size, 1, none⟩ = some (.int .u64 k1)) ∧ KeyS W W.heap.size k0 k1 w')
      (first | exact KeyS.all (KeyS.drew K0) | exact heldN (by assumption) hb)
      (first | (go_at_call 13; refine (CD.out _ (hR.next (heldB (by assumption))) (hS.next (heldB (by assumption)))).mono ?_; rintro e w' ⟨rfl, hb⟩)
             | (go_at_call 14; refine (CR.out _ (hS.next (heldB (by assumption)))).mono ?_; rintro e w' ⟨rfl, hb⟩)
             | (go_at_call 9; refine (awake_any _ (hR.next (heldB (by assumption)))).mono ?_; rintro e w' ⟨rfl, hb⟩))
    have hbe : Below W.heap.size W w' := heldB (by assumption)
    go_wp2
    go_ret
    exact ⟨rfl, hbe⟩
end Go.Proofs.YtomlcfkendmjeaaDoor
