/- The law's own comparison: two lists of byte strings that read alike. -/
import Derived.Test.YtmegiodajkeahaaDoorChF
namespace Go.Proofs.YtmegiodajkeahaaDoor
open Go Go.RowKit
/-- A cell of each list, and what lies there. -/
def AlS (W : World) (b1 o1 b2 o2 : Nat) (A1 A2 : Option Addr) (c1 c2 : Nat) (xs : List Int) (n : Nat) (w : World) : Prop :=
  (w.cell? ⟨b1, o1, none⟩ = some (.slice A1 n c1) ∧ b1 < w.heap.size) ∧ (w.cell? ⟨b2, o2, none⟩ = some (.slice A2 n c2) ∧ b2 < w.heap.size) ∧ IsSl w A1 .u8 xs ∧ IsSl w A2 .u8 xs ∧ Below W.heap.size W w
theorem AlS.next {W w w' : World} {b1 o1 b2 o2 : Nat} {A1 A2 : Option Addr} {c1 c2 : Nat} {xs : List Int} {n : Nat} (h : AlS W b1 o1 b2 o2 A1 A2 c1 c2 xs n w) (hb : Below w.heap.size w w') : AlS W b1 o1 b2 o2 A1 A2 c1 c2 xs n w' :=
  ⟨⟨(hb.cell (p := ⟨b1, o1, none⟩) h.1.2).trans h.1.1, Nat.lt_of_lt_of_le h.1.2 hb.size⟩, ⟨(hb.cell (p := ⟨b2, o2, none⟩) h.2.1.2).trans h.2.1.1, Nat.lt_of_lt_of_le h.2.1.2 hb.size⟩, h.2.2.1.next hb, h.2.2.2.1.next hb, bstep h.2.2.2.2 hb⟩
set_option maxHeartbeats 1000000 in
theorem alike_same (X Y : Nat → Prop) (v1 v2 : Value) (bs : List (List Int)) (w : World) (h1 : IsBB w X v1 bs) (h2 : IsBB w Y v2 bs) (hn : bs.length ≤ 1000000) (hb : ∀ b ∈ bs, b.length ≤ 1000000) :
    Calls Tryd.prog 30 #[v1, v2] w fun e w' => e = .returned (.bool true) ∧ Below w.heap.size w w' := by
  have H1 := hid h1
  have H2 := hid h2
  have HB := hid hb
  obtain ⟨A, c, hv1, _⟩ := h1.row
  obtain ⟨A', c', hv2, _⟩ := h2.row
  clear h1 h2 hb
  have HN := hid (show bs.length = bs.length from rfl)
  generalize hN : bs.length = n at hn hv1 hv2
  have HNN := hid hN
  clear hN
  have HV1 := hid hv1
  have HV2 := hid hv2
  subst hv1
  subst hv2
  go_enter Tryd.func30, Tryd.ntmps30
  go_wp2
  go_loopw [5] (fun i wr => ∃ k : Nat, k ≤ n ∧ i = .int .i64 k ∧ Below w.heap.size w wr) (fun i _ => n - (intOf i).toNat)
  case atStart => exact ⟨0, Nat.zero_le _, rfl, Below.refl _ _⟩
  case round =>
    obtain ⟨k, hk, rfl, hb⟩ := hrel
    have Hb := hid hb
    clear hb
    by_cases hlt : k < n
    · obtain ⟨xs, hx⟩ : ∃ x, bs[k]? = some x := ⟨bs[k]'(by have := HNN.out; omega), List.getElem?_eq_getElem _⟩
      obtain ⟨B1, d1, e1, r1⟩ := (H1.out.next Hb.out).row
      obtain ⟨B2, d2, e2, r2⟩ := (H2.out.next Hb.out).row
      rcases r1 with r1 | ⟨b1, o1, rfl, _, hb1, r1⟩
      · have := HNN.out; omega
      rcases r2 with r2 | ⟨b2, o2, rfl, _, hb2, r2⟩
      · have := HNN.out; omega
      obtain rfl : A = some ⟨b1, o1, none⟩ := by cases e1; rfl
      obtain rfl : A' = some ⟨b2, o2, none⟩ := by cases e2; rfl
      obtain ⟨A1, c1, q1, s1, _⟩ := r1 k xs hx
      obtain ⟨A2, c2, q2, s2, _⟩ := r2 k xs hx
      have hxl := HB.out xs (List.mem_of_getElem? hx)
      generalize hm : xs.length = m at *
      have EQ : ∀ w', IsSl w' A1 .u8 xs → IsSl w' A2 .u8 xs → Calls Tryd.prog 42 #[.slice A1 m c1, .slice A2 m c2] w' fun e w'' => e = .returned (.bool true) ∧ Below w'.heap.size w' w'' := fun w' ha hb => by
        have := equal_same A1 A2 c1 c2 xs w' ha hb (by omega)
        rw [hm] at this
        exact this
      replace EQ := hid EQ
      have K1 := hid (show AlS wr b1 (o1 + k) b2 (o2 + k) A1 A2 c1 c2 xs m wr from ⟨⟨q1, hb1⟩, ⟨q2, hb2⟩, s1, s2, Below.refl _ _⟩)
      have HM := hid hm
      clear q1 q2 s1 s2 r1 r2 hx hm e1 e2
      go_wp2_with fail
      have hk1 : ((k : Int) < (n : Int)) = True := eq_true (by omega)
      refine region_class (fun w' => AlS wr b1 (o1 + k) b2 (o2 + k) A1 A2 c1 c2 xs m w') (by kernel_rfl) (by kernel_rfl) (K1.out.next (Below.refl _ _).drew) ?_
      repeat
        first
        | (refine BigFrame.wpQuiet_skip (by rfl) ?_
           simp only [Act.put, List.setIfInBounds_toArray, List.set_cons_zero, List.set_cons_succ])
        | (refine class_want (by rfl) ?_
           apply Exists.intro
           refine ⟨fun w1 h1 => ?_, ?_⟩
           focus
             obtain ⟨⟨e0, e1⟩, ⟨e2, e3⟩, e4, e5, e6⟩ := id h1
             clear e6
             unfold Oper.quietAt Oper.quietUpon
             go_simp
             first
             | exact rfl
             | (with_reducible refine (EQ.out _ e4 e5).mono ?_
                rintro e w2 ⟨rfl, hb⟩
                exact ⟨rfl, AlS.next h1 hb⟩)
           simp only [Act.put, List.setIfInBounds_toArray, List.set_cons_zero, List.set_cons_succ])
      refine wpQuiet_nil ?_
      intro w3 h3
      have H3 := hid h3
      clear h3 hk1
      go_wp2
      go_roundw
      case rel => exact ⟨k + 1, by omega, by simp, bstep Hb.out H3.out.2.2.2.2⟩
      case measure => simp [intOf]; omega
    · go_wp2
      go_ret
      exact ⟨rfl, Hb.out⟩
end Go.Proofs.YtmegiodajkeahaaDoor
