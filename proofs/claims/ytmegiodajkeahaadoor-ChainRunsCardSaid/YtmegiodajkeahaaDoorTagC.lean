/- The contracts of mac.Tag and of its two closures, which share four variables. -/
import Derived.Test.YtmegiodajkeahaaDoorMixC
import Derived.Laws.EntriesVeiled
import Derived.Test.YtmegiodajkeahaaDoorTagLaw
namespace Go.Proofs.YtmegiodajkeahaaDoor
open Go Go.RowKit
/-- The four variables that Tag's two closures share, from block b on. -/
def TagW (w : World) (b : Nat) (h wd s : Int) : Prop :=
  Bk w b 24 #[.int .u64 h] ∧ Bk w (b + 1) 24 #[.int .u64 wd] ∧ Bk w (b + 1 + 1) 3 #[.int .i64 s] ∧ Bk w (b + 1 + 1 + 1) 1 #[.func (.func 47) #[] #[pt (b + 1 + 1), pt b, pt (b + 1)]]
theorem TagW.next {w w' : World} {b : Nat} {h wd s : Int} (H : TagW w b h wd s) (hb : Below w.heap.size w w') : TagW w' b h wd s :=
  ⟨H.1.next hb, H.2.1.next hb, H.2.2.1.next hb, H.2.2.2.next hb⟩
/-- What a walk reads of it. -/
def TagC (w : World) (b : Nat) (h wd s : Int) : Prop :=
  (w.cell? ⟨b, 0, none⟩ = some (.int .u64 h) ∧ w.cell? ⟨b + 1, 0, none⟩ = some (.int .u64 wd) ∧ w.cell? ⟨b + 1 + 1, 0, none⟩ = some (.int .i64 s) ∧ w.cell? ⟨b + 1 + 1 + 1, 0, none⟩ = some (.func (.func 47) #[] #[pt (b + 1 + 1), pt b, pt (b + 1)])) ∧
  w.frozen? ⟨b, 0, none⟩ = false ∧ w.frozen? ⟨b + 1, 0, none⟩ = false ∧ w.frozen? ⟨b + 1 + 1, 0, none⟩ = false
theorem TagW.cells {w : World} {b : Nat} {h wd s : Int} (H : TagW w b h wd s) : TagC w b h wd s :=
  ⟨⟨H.1.cell 0, H.2.1.cell 0, H.2.2.1.cell 0, H.2.2.2.cell 0⟩, H.1.free 0, H.2.1.free 0, H.2.2.1.free 0⟩
set_option maxHeartbeats 400000 in
theorem tagMix_no (b : Nat) (h wd : Int) (w : World) (H : TagW w b h wd 0) :
    Calls Tryd.prog 47 #[pt (b + 1 + 1), pt b, pt (b + 1)] w fun e w' => e = .returned (.tuple #[]) ∧ w = w' := by
  obtain ⟨⟨c0, c1, c2, c3⟩, f0, f1, f2⟩ := H.cells
  go_enter Tryd.func47, Tryd.ntmps47
  go_wp2
  go_end0
  exact ⟨rfl, rfl⟩
theorem TagW.ph {w : World} {b : Nat} {h wd s : Int} (H : TagW w b h wd s) (x : Int) : TagW (w.setCell ⟨b, 0, none⟩ (.int .u64 x)) b x wd s :=
  ⟨H.1.put 0 _, H.2.1.far (by dsimp only; omega) _, H.2.2.1.far (by dsimp only; omega) _, H.2.2.2.far (by dsimp only; omega) _⟩
theorem TagW.pw {w : World} {b : Nat} {h wd s : Int} (H : TagW w b h wd s) (x : Int) : TagW (w.setCell ⟨b + 1, 0, none⟩ (.int .u64 x)) b h x s :=
  ⟨H.1.far (by dsimp only; omega) _, H.2.1.put 0 _, H.2.2.1.far (by dsimp only; omega) _, H.2.2.2.far (by dsimp only; omega) _⟩
theorem TagW.ps {w : World} {b : Nat} {h wd s : Int} (H : TagW w b h wd s) (x : Int) : TagW (w.setCell ⟨b + 1 + 1, 0, none⟩ (.int .i64 x)) b h wd x :=
  ⟨H.1.far (by dsimp only; omega) _, H.2.1.far (by dsimp only; omega) _, H.2.2.1.put 0 _, H.2.2.2.far (by dsimp only; omega) _⟩
theorem TagW.lt {w : World} {b : Nat} {h wd s : Int} (H : TagW w b h wd s) : b + 1 + 1 + 1 < w.heap.size := H.2.2.2.lt
set_option maxHeartbeats 400000 in
theorem tagMix_yes (b : Nat) (h wd s : Int) (hs : 0 < s) (w : World) (hR : Rnd w) (H : TagW w b h wd s) :
    Calls Tryd.prog 47 #[pt (b + 1 + 1), pt b, pt (b + 1)] w fun e w' => e = .returned (.tuple #[]) ∧ TagW w' b (Pl.mix h wd) 0 0 ∧ Below b w w' := by
  obtain ⟨⟨c0, c1, c2, c3⟩, f0, f1, f2⟩ := H.cells
  go_enter Tryd.func47, Tryd.ntmps47
  go_wp2_with fail
  refine (mix_any _ _ _ hR).mono ?_
  rintro e w1 ⟨rfl, hb⟩
  have H1 := H.next hb
  clear c0 c1 c2 c3 f0 f1 f2
  obtain ⟨⟨c0, c1, c2, c3⟩, f0, f1, f2⟩ := H1.cells
  go_wp2
  go_end0
  have hl := H.lt
  have hl1 := H1.lt
  exact ⟨rfl, ((H1.ph _).pw _).ps _, (((hb.mono (by omega)).setCell (by dsimp only; omega) _).setCell (by dsimp only; omega) _).setCell (by dsimp only; omega) _⟩
set_option maxHeartbeats 400000 in
theorem tagStep_any (b : Nat) (h wd c : Int) (s : Nat) (hc : 0 ≤ c ∧ c ≤ 255) (hs : s < 8) (hw : 0 ≤ wd ∧ wd < Pl.sft s) (w : World) (hR : Rnd w) (hb0 : 1 < b) (H : TagW w b h wd s) :
    Calls Tryd.prog 48 #[.int .u8 c, pt (b + 1), pt (b + 1 + 1), pt (b + 1 + 1 + 1)] w fun e w' => e = .returned (.tuple #[]) ∧ TagW w' b (Pl.stp ⟨h, wd, s⟩ c).h (Pl.stp ⟨h, wd, s⟩ c).w (Pl.stp ⟨h, wd, s⟩ c).s ∧ Below b w w' := by
  obtain ⟨⟨c0, c1, c2, c3⟩, f0, f1, f2⟩ := H.cells
  have Hor := hid (Pl.or_shift wd c s hs hc hw)
  clear hw
  by_cases h7 : s = 7
  · have h7' : ((s : Int) + 1 == 8) = true := by rw [beq_iff_eq]; omega
    have H7 := hid h7
    clear h7
    have hl := H.lt
    have hsp := Int.natCast_nonneg s
    go_enter Tryd.func48, Tryd.ntmps48
    go_wp2
    go_region
    go_wp2_with fail
    have H0 := (H.pw (bits .or .u64 wd (IntKind.u64.wrap (c * 2 ^ (8 * s))))).ps ((s : Int) + 1)
    refine (tagMix_yes b h (bits .or .u64 wd (IntKind.u64.wrap (c * 2 ^ (8 * s)))) ((s : Int) + 1) (by omega) _ ?_ ?_).mono ?_
    · exact Rnd.below hR ((((Below.refl b _).setCell (by dsimp only; omega) _).setCell (by dsimp only; omega) _).drew) hb0
    · exact H0
    · rintro e w1 ⟨rfl, H1, hb⟩
      go_wp2
      go_end0
      have e7 := H7.out
      subst e7
      rw [Pl.stp_full h wd c, ← Hor.out]
      exact ⟨rfl, H1, (((Below.refl _ _).setCell (by dsimp only; omega) _).setCell (by dsimp only; omega) _).drew.trans hb⟩
  · have h7' : ((s : Int) + 1 == 8) = false := by rw [beq_eq_false_iff_ne]; omega
    go_enter Tryd.func48, Tryd.ntmps48
    go_wp2
    go_region
    go_wp2
    go_end0
    have hl := H.lt
    rw [Pl.stp_few h wd c s h7, Hor.out]
    exact ⟨rfl, ((H.pw _).ps _), (((Below.refl _ _).setCell (by dsimp only; omega) _).setCell (by dsimp only; omega) _).drew⟩
set_option maxHeartbeats 400000 in
theorem tagMix_any (b : Nat) (h wd : Int) (s : Nat) (h0 : s = 0 → wd = 0) (w : World) (hR : Rnd w) (H : TagW w b h wd s) :
    Calls Tryd.prog 47 #[pt (b + 1 + 1), pt b, pt (b + 1)] w fun e w' => e = .returned (.tuple #[]) ∧ TagW w' b (Pl.flush ⟨h, wd, s⟩) 0 0 ∧ Below b w w' := by
  by_cases hs : s = 0
  · obtain rfl := h0 hs
    subst hs
    exact (tagMix_no b h 0 w H).mono fun e w' ⟨he, hw⟩ => ⟨he, by rw [← hw]; exact H, by rw [← hw]; exact Below.refl _ _⟩
  · refine (tagMix_yes b h wd s (by omega) w hR H).mono fun e w' ⟨he, hw, hb⟩ => ⟨he, ?_, hb⟩
    unfold Pl.flush
    rw [if_pos (by show 0 < s; omega)]
    exact hw
set_option maxHeartbeats 400000 in
theorem tag_any (k0 k1 : Int) (A : Option Addr) (c : Nat) (xs : List Int) (w : World) (hR : Rnd w) (hS : IsSl w A .u8 xs) (hx : ∀ x ∈ xs, 0 ≤ x ∧ x ≤ 255) (hn : xs.length ≤ 1000000000) :
    Calls Tryd.prog 36 #[.agg #[.int .u64 k0, .int .u64 k1], .slice A xs.length c] w fun e w' => e = .returned (.int .u64 (Pl.tagOf k0 k1 xs)) ∧ Below w.heap.size w w' := by
  generalize hN : xs.length = n at hn ⊢
  have HN := hid hN
  have HX := hid hx
  clear hN hx
  have hmf : ∀ (fn : Fn) (first cap : Array Value) (w : World), (Instr.makeFunc fn first cap).run Tryd.prog w = .ok (.func fn first cap) w := fun _ _ _ _ => rfl
  go_enter Tryd.func36, Tryd.ntmps36
  go_wp2_with fail
  refine (mix_any _ _ _ (hR.next ((Below.refl _ _).alloc (Nat.le_refl _) _))).mono ?_
  rintro e w1 ⟨rfl, hb1⟩
  have hbb : Below w.heap.size w w1 := bup ((Below.refl _ _).alloc (Nat.le_refl _) _) hb1 (by simp)
  have hR1 : Rnd w1 := hR.next hbb
  clear hb1
  go_wp2
  have hsz := hbb.size
  have hlt0 := hR.lt
  have T0 : TagW ((((w1.alloc (.cells #[.int .u64 (Pl.mix k0 k1)] 24)).alloc (.cells #[.int .u64 0] 24)).alloc (.cells #[.int .i64 0] 3)).alloc
      (.cells #[.func (.func 47) #[] #[pt (w1.heap.size + 1 + 1), pt w1.heap.size, pt (w1.heap.size + 1)]] 1)) w1.heap.size (Pl.mix k0 k1) 0 0 :=
    ⟨(((Bk.new w1 _ _).alloc _).alloc _).alloc _, by simpa using (((Bk.new (w1.alloc _) _ _).alloc _).alloc _), by simpa using ((Bk.new ((w1.alloc _).alloc _) _ _).alloc _), by simpa using (Bk.new (((w1.alloc _).alloc _).alloc _) _ _)⟩
  have B0 : Below w.heap.size w ((((w1.alloc (.cells #[.int .u64 (Pl.mix k0 k1)] 24)).alloc (.cells #[.int .u64 0] 24)).alloc (.cells #[.int .i64 0] 3)).alloc
      (.cells #[.func (.func 47) #[] #[pt (w1.heap.size + 1 + 1), pt w1.heap.size, pt (w1.heap.size + 1)]] 1)) := by
    have := hbb.size
    exact (((hbb.alloc (by omega) _).alloc (by simp; omega) _).alloc (by simp; omega) _).alloc (by simp; omega) _
  have HT0 := hid (And.intro T0 B0)
  clear T0 B0
  go_loopw [21] (fun i wr => ∃ k : Nat, k ≤ n ∧ i = .int .i64 k ∧ TagW wr w1.heap.size (Pl.hAt k0 k1 xs k) (Pl.wAt k0 k1 xs k) ((k % 8 : Nat) : Int) ∧ Below w.heap.size w wr) (fun i _ => n - (intOf i).toNat)
  case atStart => exact ⟨0, Nat.zero_le _, rfl, HT0.out.1, HT0.out.2⟩
  case round =>
    clear HT0
    obtain ⟨k, hk, rfl, HT, hbr⟩ := hrel
    have hRr := hR.next hbr
    have hlr := HT.lt
    have hw := Pl.w_range k0 k1 xs k (by rw [HN.out]; exact hk) HX.out
    by_cases hlt : k < n
    · obtain ⟨x, hx⟩ : ∃ x, xs[k]? = some x := ⟨xs[k]'(by have := HN.out; omega), List.getElem?_eq_getElem _⟩
      have hx255 := HX.out x (List.mem_of_getElem? hx)
      rcases hS.row with h0 | ⟨bb, off, rfl, hbb', hcell⟩
      · have := HN.out; omega
      · have hc1 : wr.cell? ⟨bb, off + k, none⟩ = some (.int .u8 x) := (hbr.cell (p := ⟨bb, off + k, none⟩) hbb').trans (hcell k x hx)
        have HST := hid hx
        clear hx hcell hS
        have HW := hid hw
        clear hw
        have h8 : k % 8 < 8 := Nat.mod_lt _ (by omega)
        go_wp2_with fail
        refine (tagStep_any w1.heap.size _ _ x (k % 8) hx255 h8 HW.out wr hRr (by omega) HT).mono ?_
        rintro e w2 ⟨rfl, HT2, hb2⟩
        go_wp2
        go_roundw
        case rel =>
          have hn1 := Pl.at_next k0 k1 HST.out
          rw [hn1] at HT2
          exact ⟨k + 1, by omega, by go_num, HT2, hbr.trans (hb2.mono (by omega))⟩
        case measure => simp [intOf]; omega
    · obtain rfl : k = n := by omega
      have HW := hid (Pl.w_zero k0 k1 xs k (by rw [HN.out]; exact Nat.le_refl _) HX.out)
      clear hw
      have hc8 := HT.cells.1.2.2.2
      go_wp2_with fail
      refine (tagMix_any w1.heap.size _ _ (k % 8) HW.out wr hRr HT).mono ?_
      rintro e w2 ⟨rfl, HT2, hb2⟩
      have hbr2 : Below w.heap.size w w2 := hbr.trans (hb2.mono (by omega))
      have hR2 := hR.next hbr2
      have hc2 := HT2.cells.1.1
      have hsz2 := hbr2.size
      go_wp2_with fail
      refine (mix_any _ _ _ hR2).mono ?_
      rintro e w3 ⟨rfl, hb3⟩
      go_wp2
      go_ret
      refine ⟨ret_int ?_, hbr2.trans (hb3.mono hsz2)⟩
      have := Pl.tag_at k0 k1 xs
      rw [HN.out] at this
      exact this
end Go.Proofs.YtmegiodajkeahaaDoor
