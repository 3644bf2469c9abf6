/- The examples of TopDeliveries. -/
import Derived.Test.YtjeojnlkjecojaaDoorLinkH9
import Derived.Laws.StructEq
namespace Go.Proofs.YtjeojnlkjecojaaDoor
open Go Go.RowKit
open Hp
def l8 : Pl.Lk := ⟨5, 7, 0, 0, 0, 0, []⟩
theorem err8 : Pl.errOf l8 = 0 := by decide
theorem del8 : Pl.delayOf l8 0 10 = 5 := by decide
theorem noi8 : Pl.noiseOf l8 0 0 = 0 := by
  rw [noiseOf_good (by decide) rfl (by decide)]
  exact Int.emod_one _
theorem arr8 : arr l8 0 10 0 = .returned (.tuple #[.int .i64 15, .bool true]) := by
  have h : Pl.arrives l8 0 10 0 = true := by
    rw [arrives_good (by decide) rfl (by decide) (by decide)]
    unfold Pl.lost
    have := Int.emod_nonneg (Pl.mix l8.seed (4 * 0 + 2 * 0)) (show (1000 : Int) ≠ 0 by decide)
    rw [decide_eq_false (show ¬ Pl.mix l8.seed (4 * 0 + 2 * 0) % 1000 < l8.loss by show ¬ _ < (0 : Int); omega)]; rfl
  exact (arr_yes h (by rw [del8, noi8]; rfl)).symm
theorem heap_nil : HeapF (ats []) ([] : List Ev).length := fun j _ h2 => by simp at h2
set_option maxHeartbeats 2000000 in
theorem awake8_any (w : World) (hR : Rnd w) : Calls Tryd.prog 31 #[] w fun e w' => e = .returned (.bool true) ∧ Below w.heap.size w w' := by
  have HR := hid hR
  have AR : Hid (∀ w, Rnd w → Calls Tryd.prog 23 #[.agg #[.int .i64 5, .int .i64 7, .int .i64 0, .int .i64 0, .int .i64 0, .int .u64 0, .slice none 0 0], .int .i64 0, .int .i64 10, .int .i64 0] w fun e w' => e = .returned (.tuple #[.int .i64 15, .bool true]) ∧ Below w.heap.size w w') := hid (fun w h =>
    (arrive_any l8 none 0 0 10 0 w (.inl rfl) (by decide) h).mono fun e w' ⟨he, hb⟩ => ⟨by rw [he, arr8], hb⟩)
  clear hR
  go_enter Tryd.func31, Tryd.ntmps31
  go_wp2_with fail
  refine (agNew_any 2 w (by decide) (by decide)).mono ?_
  rintro e w1 ⟨g, hg, rfl, Q1, hb1⟩
  have HQ1 := hid Q1
  have HB1 := hid hb1
  clear Q1 hb1
  go_wp2_with fail
  refine (AR.out _ (HR.out.next HB1.out)).mono ?_
  rintro e w2 ⟨rfl, hb2⟩
  have HQ2 := hid (HQ1.out.next hb2)
  have HB2 := hid (bstep HB1.out hb2)
  clear hb2 HB1 HQ1 AR
  go_wp2_with fail
  have PU := hid (agPush_any g (· = g) [] 0 2 0 0 15 3 w2 HQ2.out heap_nil (by decide) (fun x h => by cases h) (by decide) (by decide) (by decide) (by decide) (by decide))
  refine PU.out.mono ?_
  rintro e w3 ⟨rfl, S3, L3, N3, Q3, P3, hh3, hN3, G3⟩
  have hL3 : L3 = [⟨15, 1, 3⟩] := List.perm_singleton.1 P3
  subst hL3
  have HQ3 := hid Q3
  have HG3 := hid G3
  clear PU Q3 P3 hh3 G3
  go_wp2_with fail
  have PO := hid (agPop_some (n := 0) (x := ⟨15, 1, 3⟩) HQ3.out rfl rfl (fun j h1 h2 => by simp at h2; omega) (by decide) (fun x h => by simp at h; subst h; exact ⟨by decide, by decide⟩) (by simp at hN3; omega))
  refine PO.out.mono ?_
  rintro e w4 ⟨rfl, S4, L4, N4, Q4, _, _, _, G4⟩
  have HG4 := hid G4
  clear PO Q4 G4
  have KX := hid (Bk.new w4 53 #[.int .i64 15, .int .i64 1, .int .i64 3])
  have HB5 : Hid (Below w.heap.size w (w4.alloc (.cells #[.int .i64 15, .int .i64 1, .int .i64 3] 53))) := hid (by
    have h1 : Gr (· = g) S4 w2 w4 := HG3.out.trans HG4.out
    have h2 : Below w.heap.size w2 w4 := h1.fr.below HB2.out.size (fun k hk => by subst hk; exact hg)
    exact (HB2.out.trans h2).alloc (Nat.le_trans HB2.out.size h2.size) _)
  obtain ⟨z0, z1, z2⟩ := bk3 KX.out
  go_wp2_with fail
  go_ret
  exact ⟨rfl, HB5.out⟩
end Go.Proofs.YtjeojnlkjecojaaDoor
