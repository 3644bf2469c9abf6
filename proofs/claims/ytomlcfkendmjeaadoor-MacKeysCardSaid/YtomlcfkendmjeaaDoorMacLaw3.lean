/- The walk of the law MacShort. -/
import Derived.Test.YtomlcfkendmjeaaDoorMacLaw1
namespace Go.Proofs.YtomlcfkendmjeaaDoor
open Go Go.RowKit
theorem bdrewN {B : Nat} {a w : World} (h : Below B a w) (n : Nat) : Below B a (w.drewN n) := ⟨h.os, h.tape, h.output, h.size, h.block⟩
/-- Do the first k numbers differ somewhere? -/
def dif (xs ys : List Int) (k : Nat) : Bool := xs.take k != ys.take k
theorem dif_next {xs ys : List Int} {k : Nat} {x y : Int} (hx : xs[k]? = some x) (hy : ys[k]? = some y) : dif xs ys (k + 1) = (dif xs ys k || x != y) := by
  unfold dif
  have lx := (List.getElem?_eq_some_iff.1 hx).1
  have ly := (List.getElem?_eq_some_iff.1 hy).1
  rw [Pl.take_snoc hx, Pl.take_snoc hy, Bool.eq_iff_iff]
  simp only [bne_iff_ne, ne_eq, Bool.or_eq_true]
  have hl : (xs.take k).length = (ys.take k).length := by simp; omega
  constructor
  · intro h
    by_cases e : xs.take k = ys.take k
    · right; intro e2; exact h (by rw [e, e2])
    · exact .inl e
  · intro h e
    have := List.append_inj e hl
    rcases h with h | h
    · exact h this.1
    · exact h (by simpa using this.2)
theorem dif_tag {k0 k1 : Int} {xs ys : List Int} (hl : xs.length = ys.length) (h8 : xs.length ≤ 8) (hx : IsBytes xs) (hy : IsBytes ys) : (Pl.tagOf k0 k1 xs == Pl.tagOf k0 k1 ys) = !dif xs ys xs.length := by
  unfold dif
  rw [List.take_length, hl, List.take_length]
  by_cases e : xs = ys
  · subst e; simp
  · have : Pl.tagOf k0 k1 xs ≠ Pl.tagOf k0 k1 ys := fun h => e (Pl.tagOf_inj hl h8 hx hy h)
    have e2 : (xs != ys) = true := bne_iff_ne.2 e
    rw [beq_eq_false_iff_ne.2 this, e2]
    rfl
theorem KeyS.drewN {W : World} {g : Nat} {a b : Int} {w : World} (h : KeyS W g a b w) (n : Nat) : KeyS W g a b (w.drewN n) := ⟨h.1, bdrewN h.2 n⟩
attribute [local simp high] guard_bind eql_key neq_key
set_option maxHeartbeats 1000000 in
theorem macShort_walk (k0 k1 : Int) (A B : Option Addr) (c c' : Nat) (xs ys : List Int) (W : World) (hR : Rnd W) (hS : IsSl W A .u8 xs) (hS' : IsSl W B .u8 ys) (hx : IsBytes xs) (hy : IsBytes ys) :
    Calls Tryd.prog 7 #[.agg #[.int .u64 k0, .int .u64 k1], .slice A xs.length c, .slice B ys.length c'] W fun e w' => e = .returned (.bool true) ∧ Below W.heap.size W w' := by
  have B0 := (Below.refl W.heap.size W).alloc (Nat.le_refl _) (.cells #[.int .u64 k0, .int .u64 k1] 24)
  have HX := hid hx
  have HY := hid hy
  clear hx hy
  by_cases h1 : xs.length = ys.length
  · generalize hN : xs.length = n at h1 ⊢
    have HN := hid hN
    have HM := hid h1
    rw [← h1]
    clear hN h1
    by_cases h2 : (8 : Int) < (n : Int)
    · go_enter Tryd.func7, Tryd.ntmps7
      go_wp2_with fail
      refine (awake_any _ (hR.next B0)).mono ?_
      rintro e w1 ⟨rfl, hb⟩
      go_wp2
      go_ret
      exact ⟨rfl, bstep B0 hb⟩
    · have K0 := KeyS.of (Bk.new W 24 #[.int .u64 k0, .int .u64 k1]) B0
      go_enter Tryd.func7, Tryd.ntmps7
      go_wp2_with fail
      generalize W.alloc (.cells #[.int .u64 k0, .int .u64 k1] 24) = w0 at *
      go_loopw [7, 8] (fun d i wr => ∃ k : Nat, k ≤ n ∧ i = .int .i64 k ∧ d = .bool (dif xs ys k) ∧ KeyS W W.heap.size k0 k1 wr) (fun _ i _ => n - (intOf i).toNat)
      case atStart => exact ⟨0, Nat.zero_le _, rfl, rfl, K0⟩
      case round =>
        obtain ⟨k, hk, rfl, rfl, hK⟩ := hrel
        by_cases hlt : k < n
        · obtain ⟨x, hx⟩ : ∃ x, xs[k]? = some x := ⟨xs[k]'(by have := HN.out; omega), List.getElem?_eq_getElem _⟩
          obtain ⟨y, hy⟩ : ∃ y, ys[k]? = some y := ⟨ys[k]'(by have := HM.out; omega), List.getElem?_eq_getElem _⟩
          rcases (hS.next hK.2).row with h0 | ⟨bb, off, rfl, hbb', hcell⟩
          · have := HN.out; omega
          · rcases (hS'.next hK.2).row with h0 | ⟨bc, off', rfl, hbc', hcell'⟩
            · have := HM.out; omega
            · have hc1 : wr.cell? ⟨bb, off + k, none⟩ = some (.int .u8 x) := hcell k x hx
              have hc2 : wr.cell? ⟨bc, off' + k, none⟩ = some (.int .u8 y) := hcell' k y hy
              have HE := hid (dif_next hx hy)
              clear hx hy hcell hcell'
              have hi0 : (0 : Int) ≤ (k : Int) := by omega
              have hi1 : (k : Int) < (n : Int) := by omega
              cases hd : dif xs ys k
              · go_wp2
                go_quiet (fail)
                go_wp2
                exact ⟨⟨k + 1, by omega, by go_num, by rw [HE.out, hd]; rfl, hK.drewN nq⟩, by simp [intOf]; omega⟩
              · go_wp2
                go_quiet (fail)
                go_wp2
                exact ⟨⟨k + 1, by omega, by go_num, by rw [HE.out, hd]; rfl, hK.drewN nq⟩, by simp [intOf]; omega⟩
        · obtain rfl : k = n := by omega
          have hdt := dif_tag (k0 := k0) (k1 := k1) (HN.out.trans HM.out) (by have := HN.out; omega) HX.out HY.out
          rw [HN.out] at hdt
          have hdt' : (Pl.tagOf k0 k1 ys == Pl.tagOf k0 k1 xs) = !dif xs ys k := by rw [← hdt, Bool.eq_iff_iff]; simp only [beq_iff_eq]; exact eq_comm
          have CA : ∀ w, Rnd w → IsSl w A .u8 xs → Calls Tryd.prog 11 #[.agg #[.int .u64 k0, .int .u64 k1], .slice A k c] w fun e w' => e = .returned (.int .u64 (Pl.tagOf k0 k1 xs)) ∧ Below w.heap.size w w' := fun w h1 h2 => by
            have := tag_any k0 k1 A c xs w h1 h2 HX.out (by have := HN.out; omega)
            rw [HN.out] at this; exact this
          have CB : ∀ w, Rnd w → IsSl w B .u8 ys → Calls Tryd.prog 11 #[.agg #[.int .u64 k0, .int .u64 k1], .slice B k c'] w fun e w' => e = .returned (.int .u64 (Pl.tagOf k0 k1 ys)) ∧ Below w.heap.size w w' := fun w h1 h2 => by
            have := tag_any k0 k1 B c' ys w h1 h2 HY.out (by have := HM.out; omega)
            rw [← HM.out] at this; exact this
          have CC : ∀ t w, Rnd w → IsSl w B .u8 ys → Calls Tryd.prog 12 #[.agg #[.int .u64 k0, .int .u64 k1], .slice B k c', .int .u64 t] w fun e w' => e = .returned (.bool (Pl.tagOf k0 k1 ys == t)) ∧ Below w.heap.size w w' := fun t w h1 h2 => by
            have := check_any k0 k1 B c' ys t w h1 h2 HY.out (by have := HM.out; omega)
            rw [← HM.out] at this; exact this
          generalize Pl.tagOf k0 k1 xs = T1 at *
          generalize Pl.tagOf k0 k1 ys = T2 at *
          have CC := CC T1
          rw [hdt'] at CC
          clear hdt'
          generalize dif xs ys k = D at *
          have CA := hid CA
          have CB := hid CB
          have CC := hid CC
          go_wp2_with fail
          go_region_held3 (fun w' => (w'.cell? ⟨W.heap.size, 0, none⟩ = some (.int .u64 k0)) ∧ (w'.cell? ⟨W.heap.size, 1, none⟩ = some (.int .u64 k1)) ∧ KeyS W W.heap.size k0 k1 w')
            (first | exact KeyS.all (KeyS.drew hK) | exact heldN (by assumption) hb)
            (first | (go_at_call_of 11 (Value.slice A k c); refine (CA.out _ (hR.next (heldB (by assumption))) (hS.next (heldB (by assumption)))).mono ?_; rintro e w' ⟨rfl, hb⟩)
                   | (go_at_call_of 11 (Value.slice B k c'); refine (CB.out _ (hR.next (heldB (by assumption))) (hS'.next (heldB (by assumption)))).mono ?_; rintro e w' ⟨rfl, hb⟩))
          have hK2 : KeyS W W.heap.size k0 k1 w' := (heldN (by assumption) (Below.refl _ _)).2.2
          have B2 := hK2.2
          obtain ⟨ka, kb⟩ := hK2.1.two
          go_wp2_with fail
          refine (CC.out _ (hR.next B2) (hS'.next B2)).mono ?_
          rintro e w3 ⟨rfl, hb3⟩
          have B3 := bstep B2 hb3
          go_wp2_with fail
          refine (awake_any _ (hR.next B3)).mono ?_
          rintro e w4 ⟨rfl, hb4⟩
          go_wp2
          go_ret
          exact ⟨rfl, bstep B3 hb4⟩
  · have h1' : ((xs.length : Int) != (ys.length : Int)) = true := by rw [bne_iff_ne]; omega
    go_enter Tryd.func7, Tryd.ntmps7
    go_wp2_with fail
    refine (awake_any _ (hR.next B0)).mono ?_
    rintro e w1 ⟨rfl, hb⟩
    go_wp2
    go_ret
    exact ⟨rfl, bstep B0 hb⟩
end Go.Proofs.YtomlcfkendmjeaaDoor
