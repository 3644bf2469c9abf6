/- The walk of the law ChainDerives. -/
import Derived.Test.YtmegiodajkeahaaDoorChA1
import Derived.Deep.RegionHeld3
import Derived.Deep.RegionWith
import Derived.Deep.DrawnRows
namespace Go.Proofs.YtmegiodajkeahaaDoor
open Go Go.RowKit
/-- What a round of ChainDerives keeps. -/
def DrS (W : World) (g : Nat) (K : List (Int × Int)) (w : World) : Prop := BkK w g K ∧ Rnd w ∧ Below W.heap.size W w
theorem DrS.next {W w w' : World} {g : Nat} {K : List (Int × Int)} (h : DrS W g K w) (hb : Below w.heap.size w w') : DrS W g K w' := ⟨Bk.next h.1 hb, h.2.1.next hb, bstep h.2.2 hb⟩
theorem DrS.drew {W w : World} {g : Nat} {K : List (Int × Int)} (h : DrS W g K w) : DrS W g K w.drew := h.next (Below.refl _ _).drew
theorem DrS.alloc {W w : World} {g : Nat} {K : List (Int × Int)} (h : DrS W g K w) (o : Obj) : DrS W g K (w.alloc o) := h.next ((Below.refl _ _).alloc (Nat.le_refl _) o)
/-- .. and the cells that it reads. -/
def DrT (W : World) (g : Nat) (K : List (Int × Int)) (k : Nat) (a b : Int × Int) (w : World) : Prop :=
  (w.cell? ⟨g, k * 2, none⟩ = some (.int .u64 a.1)) ∧ (w.cell? ⟨g, k * 2 + 1, none⟩ = some (.int .u64 a.2)) ∧ (w.cell? ⟨g, (k + 1) * 2, none⟩ = some (.int .u64 b.1)) ∧ (w.cell? ⟨g, (k + 1) * 2 + 1, none⟩ = some (.int .u64 b.2)) ∧ DrS W g K w
theorem DrS.all {W w : World} {g : Nat} {K : List (Int × Int)} (h : DrS W g K w) {k : Nat} {a b : Int × Int} (ha : K[k]? = some a) (hb : K[k + 1]? = some b) : DrT W g K k a b w :=
  ⟨(h.1.cells ha).1, (h.1.cells ha).2, (h.1.cells hb).1, (h.1.cells hb).2, h⟩
theorem DrT.s {W w : World} {g : Nat} {K : List (Int × Int)} {k : Nat} {a b : Int × Int} (h : DrT W g K k a b w) : DrS W g K w := h.2.2.2.2
attribute [local simp high] guard_bind eql_key neq_key
set_option maxHeartbeats 2000000 in
set_option maxRecDepth 100000 in
theorem chainDerives_yes (seed : Int) (n : Nat) (h1 : 1 ≤ n) (h2 : n ≤ 64) (W : World) (hR : Rnd W) (hG : CfG W) :
    Calls Tryd.prog 5 #[.int .u64 seed, .int .i64 (n : Int)] W fun e w' => e = .returned (.bool true) ∧ Below W.heap.size W w' := by
  have AW : ∀ w, Below W.heap.size W w → Calls Tryd.prog 19 #[] w fun e w' => e = .returned (.bool true) ∧ Below w.heap.size w w' := fun w h => awake_any w (hR.next h) (hG.next h)
  replace AW := hid AW
  have HR := hid hR
  clear hR hG
  go_enter Tryd.func5, Tryd.ntmps5
  go_wp2_with fail
  refine (make_any seed n h1 h2 W HR.out).mono ?_
  rintro e w1 ⟨rfl, K1, hb1⟩
  have D1 := hid (show DrS W W.heap.size (Pl.keysL (Pl.lastK seed n) n) w1 from ⟨K1, HR.out.next hb1, hb1⟩)
  have HKN := hid (fun k (h : k < n) => Pl.keysL_next (Pl.lastK seed n) n k h)
  have HKG := hid (fun k (h : k ≤ n) => Pl.keysL_get (Pl.lastK seed n) n k h)
  clear K1 hb1
  generalize Pl.keysL (Pl.lastK seed n) n = K at *
  generalize Pl.lastK seed n = last at *
  go_wp2_with fail
  go_loopw [6] (fun iv wr => ∃ k : Nat, k ≤ n ∧ iv = .int .i64 (k : Int) ∧ DrS W W.heap.size K wr) (fun iv _ => n - (intOf iv).toNat)
  case atStart => exact ⟨0, Nat.zero_le _, rfl, D1.out⟩
  case round =>
    clear D1
    obtain ⟨k, hk, rfl, D⟩ := hrel
    have HD := hid D
    clear D
    by_cases hlt : k < n
    · have ha := HKN.out k hlt
      have hb := HKG.out (k + 1) hlt
      generalize Pl.dnN last (n - (k + 1)) = kk at *
      have HA := hid ha
      have HB := hid hb
      clear ha hb
      have hk0 : (0 : Int) ≤ (k : Int) + 1 := by omega
      have hw : IntKind.i64.wrap ((k : Int) + 1) = (k : Int) + 1 := IntWalk.i64_in _ (by omega)
      have hkt : ((k : Int) + 1).toNat = k + 1 := by omega
      have hk1 : ((k : Int) + 1 < (n : Int) + 1) = True := eq_true (by omega)
      have hk2 : ((k : Int) < (n : Int) + 1) = True := eq_true (by omega)
      have cv : (convert 41 41 (.slice (some ⟨wr.heap.size, 0, none⟩) 4 4)).run Tryd.prog (wr.alloc (.cells #[.int .u8 100, .int .u8 111, .int .u8 119, .int .u8 110] 5)).drew = .ok (.slice (some ⟨wr.heap.size, 0, none⟩) 4 4) (wr.alloc (.cells #[.int .u8 100, .int .u8 111, .int .u8 119, .int .u8 110] 5 (4, 5))).drew :=
        Lib.run_convert_bytes_const (P := Tryd.prog) wr.drew 41 5 #[.int .u8 100, .int .u8 111, .int .u8 119, .int .u8 110] 4 4 Tryd.underlying41 Tryd.underlying5
      have DV : ∀ w, DrS W W.heap.size K w → Calls Tryd.prog 35 #[.agg #[.int .u64 kk.1, .int .u64 kk.2], .slice (some ⟨w.heap.size, 0, none⟩) 4 4] (w.alloc (.cells #[.int .u8 100, .int .u8 111, .int .u8 119, .int .u8 110] 5 (4, 5))) fun e w' => e = .returned (.agg #[.int .u64 (Pl.d1 kk.1 kk.2 kDown), .int .u64 (Pl.d2 kk.1 kk.2 kDown)]) ∧ DrS W W.heap.size K w' := fun w h =>
        (derive_any kk.1 kk.2 _ 4 kDown _ ((h.alloc _).2.1) (isl_const w kDown (4, 5) _ rfl) (by decide) (by decide)).mono fun e w' ⟨h1, h2⟩ => ⟨h1, (h.alloc _).next h2⟩
      replace DV := hid DV
      have hDT := hid (fun w (h : DrS W W.heap.size K w) => DrS.all h HA.out HB.out)
      go_wp2_with fail
      obtain ⟨e0, e1, e2, e3, _⟩ := hDT.out _ HD.out
      simp only [Pl.dn] at e0 e1
      obtain ⟨e4, e5, e6, e7, _⟩ := hDT.out _ (HD.out.alloc (.cells #[.int .u8 100, .int .u8 111, .int .u8 119, .int .u8 110] 5))
      simp only [Pl.dn] at e4 e5
      obtain ⟨e8, e9, ea, eb, _⟩ := hDT.out _ (HD.out.alloc (.cells #[.int .u8 100, .int .u8 111, .int .u8 119, .int .u8 110] 5 (4, 5)))
      simp only [Pl.dn] at e8 e9
      go_region_with (first | (go_at_call 35; refine (DV.out _ HD.out.drew).mono ?_; rintro e w5 ⟨rfl, hD5⟩; obtain ⟨ec, ed, _, _, _⟩ := hDT.out _ hD5; simp only [Pl.dn] at ec ed))
      all_goals
        have HD5 := hid hD5
        clear hD5
        go_wp2
        go_roundw
        case rel => exact ⟨k + 1, by omega, by simp, HD5.out⟩
        case measure => simp [intOf]; omega
    · go_wp2_with fail
      refine (AW.out _ HD.out.2.2).mono ?_
      rintro e w5 ⟨rfl, hb⟩
      go_wp2
      go_ret
      exact ⟨rfl, bstep HD.out.2.2 hb⟩
theorem chainDerives_walk (seed n : Int) (W : World) (hR : Rnd W) (hG : CfG W) :
    Calls Tryd.prog 5 #[.int .u64 seed, .int .i64 n] W fun e w' => e = .returned (.bool true) ∧ Below W.heap.size W w' := by
  by_cases hn : n < 1 ∨ 64 < n
  · have h12 : n < 1 ∨ (¬ n < 1 ∧ 64 < n) := by omega
    have HR := hid (And.intro hR hG)
    have HM := hid (make_none seed n hn W)
    clear hR hG hn
    rcases h12 with h1 | ⟨h1, h2⟩
    · go_enter Tryd.func5, Tryd.ntmps5
      go_wp2_with fail
      refine HM.out.mono ?_
      rintro e w1 ⟨rfl, rfl⟩
      go_wp2_with fail
      refine (awake_any _ HR.out.1 HR.out.2).mono ?_
      rintro e w1 ⟨rfl, hb⟩
      go_wp2
      go_ret
      exact ⟨rfl, hb⟩
    · go_enter Tryd.func5, Tryd.ntmps5
      go_wp2_with fail
      refine HM.out.mono ?_
      rintro e w1 ⟨rfl, rfl⟩
      go_wp2_with fail
      refine (awake_any _ HR.out.1 HR.out.2).mono ?_
      rintro e w1 ⟨rfl, hb⟩
      go_wp2
      go_ret
      exact ⟨rfl, hb⟩
  · obtain ⟨m, rfl⟩ : ∃ m : Nat, n = m := ⟨n.toNat, by omega⟩
    exact chainDerives_yes seed m (by omega) (by omega) W hR hG
end Go.Proofs.YtmegiodajkeahaaDoor
