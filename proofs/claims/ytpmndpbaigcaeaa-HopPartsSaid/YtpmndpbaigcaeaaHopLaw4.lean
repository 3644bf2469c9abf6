/- The walk of HopParts. -/
import Derived.Test.YtpmndpbaigcaeaaHopLaw3
namespace Go.Proofs.Ytpmndpbaigcaeaa
open Go Go.RowKit
/-- The first part and the second part of a slice of slices. -/
theorem IsSS.take {w : World} {A : Option Addr} {ss : List (List Int)} (h : IsSS w A ss) (k : Nat) : IsSS w A (ss.take k) := by
  rcases h with h | ⟨b, off, h1, h2, h3⟩
  · left; rw [h]; simp
  · refine .inr ⟨b, off, h1, h2, fun i x hx => h3 i x ?_⟩
    rw [List.getElem?_take] at hx
    split at hx
    · exact hx
    · cases hx
theorem IsSS.drop {w : World} {b off : Nat} {ss : List (List Int)} (h : IsSS w (some ⟨b, off, none⟩) ss) (k : Nat) (hk : k < ss.length) : IsSS w (some ⟨b, off + k, none⟩) (ss.drop k) := by
  rcases h with h | ⟨b', off', h1, h2, h3⟩
  · rw [h] at hk; simp at hk
  · cases h1
    refine .inr ⟨b, off + k, rfl, h2, fun i x hx => ?_⟩
    rw [List.getElem?_drop] at hx
    rw [Nat.add_assoc]
    exact h3 (k + i) x hx
set_option maxHeartbeats 2000000 in
theorem hopParts_walk (A B : Option Addr) (a : List Int) (ss : List (List Int)) (c d : Nat) (cut : Int) (w : World) (hA : IsSl w A .i64 a) (hB : IsSS w B ss) (hcap : ss.length ≤ d) :
    Calls Try.prog 9 #[.slice A a.length c, .slice B ss.length d, .int .i64 cut] w fun e w' => e = .returned (.bool true) ∧ Below w.heap.size w w' := by
  have AW := fun w => awake_any w
  replace AW := hid AW
  by_cases hs : ss.length ≤ 20
  case neg =>
    have hs' : (20 : Int) < ss.length := by omega
    go_enter Try.func9, Try.ntmps9
    go_wp2_with fail
    refine (AW.out _).mono ?_
    rintro e w1 ⟨rfl, hb⟩
    go_wp2
    go_ret
    exact ⟨rfl, hb⟩
  have hs' : ((20 : Int) < ss.length) = False := eq_false (by omega)
  by_cases hf : a.length ≤ 600
  case neg =>
    have CF := hid (few_no A none a.length 0 c 0 (fun h => hf h.1) w)
    clear hf
    go_enter Try.func9, Try.ntmps9
    go_wp2_with fail
    refine CF.out.mono ?_
    rintro e w1 ⟨rfl, rfl⟩
    go_wp2_with fail
    refine (AW.out _).mono ?_
    rintro e w1 ⟨rfl, hb⟩
    go_wp2
    go_ret
    exact ⟨rfl, hb⟩
  have CF := hid (few_yes A none a.length 0 c 0 hf (by omega) w)
  by_cases hc0 : cut < 0
  case pos =>
    go_enter Try.func9, Try.ntmps9
    go_wp2_with fail
    refine CF.out.mono ?_
    rintro e w1 ⟨rfl, rfl⟩
    go_wp2_with fail
    refine (AW.out _).mono ?_
    rintro e w1 ⟨rfl, hb⟩
    go_wp2
    go_ret
    exact ⟨rfl, hb⟩
  by_cases hc1 : (ss.length : Int) < cut
  case pos =>
    go_enter Try.func9, Try.ntmps9
    go_wp2_with fail
    refine CF.out.mono ?_
    rintro e w1 ⟨rfl, rfl⟩
    go_wp2_with fail
    refine (AW.out _).mono ?_
    rintro e w1 ⟨rfl, hb⟩
    go_wp2
    go_ret
    exact ⟨rfl, hb⟩
  obtain ⟨k0, hk0⟩ : ∃ k0 : Nat, cut = k0 := ⟨cut.toNat, by omega⟩
  subst hk0
  have hkn0 : k0 ≤ ss.length := by omega
  have hkn0' : ((ss.length : Int) < (k0 : Int)) = False := eq_false (by omega)
  have hc0' : ((k0 : Int) < 0) = False := eq_false (by omega)
  clear hc0 hc1
  have htl : (ss.take k0).length = k0 := by simp; omega
  have hdl : (ss.drop k0).length = ss.length - k0 := by simp
  have C1 := hid (fun w hA hB => chain_any A B a ss c d w hA hB hf (by omega))
  have C2 := hid (fun w hA hB => chain_any A B a (ss.take k0) c d w hA hB hf (by omega))
  have hlen2 := chain_len a (ss.take k0) hf
  have hlen1 := chain_len a ss hf
  have C3 := hid (fun (w : World) D1 d1 B2 d2 hA hB => chain_any D1 B2 (Pl.chainOf a (ss.take k0)).1 (ss.drop k0) d1 d2 w hA hB hlen2 (by omega))
  have hpar := hid (fun h1 h2 hl => Pl.chain_parts (a := a) (ss := ss) (cut := k0) hkn0 h1 h2 hl)
  have hgood := hid (fun h2 => Pl.good_chainOf (a := a) (ss := ss.take k0) h2)
  generalize Pl.chainOf a (ss.take k0) = R2 at *
  generalize hR1 : Pl.chainOf a ss = R1 at *
  obtain ⟨L2, e2⟩ := R2
  obtain ⟨L1, e1⟩ := R1
  simp only at hlen1 hlen2
  replace hlen1 := hid hlen1
  rw [htl] at C2
  rw [hdl] at C3
  replace C1 := hid C1
  replace C2 := hid C2
  replace C3 := hid C3
  replace hR1 := hid hR1
  clear hf htl hdl
  generalize hN : ss.length = n at *
  replace hN := hid hN
  have hn20 : (n : Int) ≤ 20 := by omega
  have hkn0i : (k0 : Int) ≤ n := by omega
  have hnd : (n : Int) ≤ d := by omega
  go_enter Try.func9, Try.ntmps9
  go_wp2_with fail
  refine CF.out.mono ?_
  rintro e w1 ⟨rfl, rfl⟩
  go_wp2
  go_loopw [36] (fun i wr => ∃ k : Nat, i = .int .i64 k ∧ k ≤ n ∧ wr = w) (fun i _ => n - (intOf i).toNat)
  case atStart => exact ⟨0, rfl, Nat.zero_le _, rfl⟩
  case round =>
    obtain ⟨k, rfl, hk, rfl⟩ := hrel
    by_cases hkn : k < n
    · obtain ⟨x, hx⟩ : ∃ x, ss[k]? = some x := ⟨_, List.getElem?_eq_getElem (by rw [hN.out]; exact hkn)⟩
      rcases hB.row with hz | ⟨b, off, rfl, hb1, hca⟩
      · have := hN.out; omega
      obtain ⟨Ax, cx, f0, hSx⟩ := hca k x hx
      clear hca hx hSx
      by_cases hxl : x.length ≤ 600
      · have CX := hid (few_yes Ax none x.length 0 cx 0 hxl (by omega) wr)
        clear hxl
        go_wp2_with fail
        refine CX.out.mono ?_
        rintro e w1 ⟨rfl, rfl⟩
        go_wp2
        go_roundw
        case rel => exact ⟨k + 1, by simp, by omega, trivial⟩
        case measure => simp [intOf]; omega
      · have CX := hid (few_no Ax none x.length 0 cx 0 (fun h => hxl h.1) wr)
        clear hxl
        go_wp2_with fail
        refine CX.out.mono ?_
        rintro e w1 ⟨rfl, rfl⟩
        go_wp2_with fail
        refine (AW.out _).mono ?_
        rintro e w1 ⟨rfl, hb⟩
        go_wp2
        go_ret
        exact ⟨rfl, hb⟩
    · have hkn2 : k = n := by omega
      subst hkn2
      go_wp2_with fail
      refine (C1.out.out _ hA hB).mono ?_
      rintro e w1 ⟨D1, d1, rfl, hb1, hD1⟩
      go_wp2_with fail
      refine (C2.out.out _ (hA.next hb1) ((hB.next hb1).take k0)).mono ?_
      rintro e w2 ⟨D2, d2, rfl, hb2, hD2⟩
      have hbb := bstep hb1 hb2
      replace hD1 := hD1.next hb2
      clear C1 C2 hb1 hb2
      by_cases he1 : e1 = 0
      case neg =>
        go_wp2_with fail
        refine (AW.out _).mono ?_
        rintro e w7 ⟨rfl, hb⟩
        go_wp2
        go_ret
        exact ⟨rfl, bstep hbb hb⟩
      by_cases he2 : e2 = 0
      case neg =>
        go_wp2_with fail
        refine (AW.out _).mono ?_
        rintro e w7 ⟨rfl, hb⟩
        go_wp2
        go_ret
        exact ⟨rfl, bstep hbb hb⟩
      obtain ⟨q1, q2, q3⟩ := hgood.out he2
      replace q1 : L2.length ≤ 512 := q1
      replace q2 : ∀ i, i < L2.length → 0 ≤ Pl.gd L2 i := q2
      replace q3 : ∀ i, i + 1 < L2.length → Pl.gd L2 i ≤ Pl.gd L2 (i + 1) := q3
      have hC3 : (∀ i, i < L2.length → Pl.gd L2 i ≤ Pl.M) → ∀ (w : World) D1 d1 B2 d2, IsSl w D1 .i64 L2 → IsSS w B2 (ss.drop k0) → Calls Try.prog 22 #[.slice D1 L2.length d1, .slice B2 (k - k0) d2] w fun e w' => ∃ A' c', e = .returned (.tuple #[.slice A' L1.length c', .int .i64 0]) ∧ Below w.heap.size w w' ∧ IsSl w' A' .i64 L1 := fun hl w D1 d1 B2 d2 hA hB => by
        have hh := C3.out.out w D1 d1 B2 d2 hA hB
        rw [hpar.out he1 he2 hl] at hh
        simp only [he1] at hh
        exact hh
      subst he1
      subst he2
      replace hC3 := hid hC3
      clear C3 hpar hgood
      by_cases hL0 : L2.length = 0
      · have hlM : ∀ i, i < L2.length → Pl.gd L2 i ≤ Pl.M := fun i hi => by omega
        have hC4 := hC3.out hlM
        clear hC3 hlM q1 q2 q3 hlen2
        obtain rfl : L2 = [] := List.eq_nil_of_length_eq_zero hL0
        simp only [List.length_nil] at hC4 ⊢
        replace hC4 := hid hC4
        clear hL0
        by_cases hkk : k0 < k
        · rcases (hB.next hbb).row with hz | ⟨b, off, rfl, hb1, hca⟩
          · have := hN.out; omega
          have hSS := (hB.next hbb).drop k0 (by rw [hN.out]; exact hkk)
          have g7 : (d = k0) = False := eq_false (by omega)
          clear hca
          go_wp2_with fail
          refine (hC4.out _ _ _ _ _ hD2 hSS).mono ?_
          rintro e w8 ⟨A8, c8, rfl, hb8, hS8⟩
          have hb9 := bstep hbb hb8
          have E1 := hid (equal_same D1 A8 d1 c8 L1 w8 (hD1.next hb8) hS8 (by have := hlen1.out; omega))
          clear hb8 hC4 hbb
          go_wp2_with fail
          refine E1.out.mono ?_
          rintro e w5 ⟨rfl, hb⟩
          have hb5 := bstep hb9 hb
          clear E1 hb9 hb
          go_wp2_with fail
          refine (AW.out _).mono ?_
          rintro e w7 ⟨rfl, hb⟩
          go_wp2
          go_ret
          exact ⟨rfl, bstep hb5 hb⟩
        · have hke : k0 = k := by omega
          have hnil : ss.drop k0 = [] := by rw [hke, ← hN.out, List.drop_length]
          rw [hnil, show k - k0 = 0 from by omega] at hC4
          cases B with
          | none =>
            go_wp2_with fail
            refine (hC4.out _ _ _ _ _ hD2 (.inl rfl)).mono ?_
            rintro e w8 ⟨A8, c8, rfl, hb8, hS8⟩
            have hb9 := bstep hbb hb8
            have E1 := hid (equal_same D1 A8 d1 c8 L1 w8 (hD1.next hb8) hS8 (by have := hlen1.out; omega))
            clear hb8 hC4 hbb
            go_wp2_with fail
            refine E1.out.mono ?_
            rintro e w5 ⟨rfl, hb⟩
            have hb5 := bstep hb9 hb
            clear E1 hb9 hb
            go_wp2_with fail
            refine (AW.out _).mono ?_
            rintro e w7 ⟨rfl, hb⟩
            go_wp2
            go_ret
            exact ⟨rfl, bstep hb5 hb⟩
          | some ad =>
            by_cases hdk : d = k
            · go_wp2_with fail
              refine (hC4.out _ _ _ _ _ hD2 (.inl rfl)).mono ?_
              rintro e w8 ⟨A8, c8, rfl, hb8, hS8⟩
              have hb9 := bstep hbb hb8
              have E1 := hid (equal_same D1 A8 d1 c8 L1 w8 (hD1.next hb8) hS8 (by have := hlen1.out; omega))
              clear hb8 hC4 hbb
              go_wp2_with fail
              refine E1.out.mono ?_
              rintro e w5 ⟨rfl, hb⟩
              have hb5 := bstep hb9 hb
              clear E1 hb9 hb
              go_wp2_with fail
              refine (AW.out _).mono ?_
              rintro e w7 ⟨rfl, hb⟩
              go_wp2
              go_ret
              exact ⟨rfl, bstep hb5 hb⟩
            · go_wp2_with fail
              refine (hC4.out _ _ _ _ _ hD2 (.inl rfl)).mono ?_
              rintro e w8 ⟨A8, c8, rfl, hb8, hS8⟩
              have hb9 := bstep hbb hb8
              have E1 := hid (equal_same D1 A8 d1 c8 L1 w8 (hD1.next hb8) hS8 (by have := hlen1.out; omega))
              clear hb8 hC4 hbb
              go_wp2_with fail
              refine E1.out.mono ?_
              rintro e w5 ⟨rfl, hb⟩
              have hb5 := bstep hb9 hb
              clear E1 hb9 hb
              go_wp2_with fail
              refine (AW.out _).mono ?_
              rintro e w7 ⟨rfl, hb⟩
              go_wp2
              go_ret
              exact ⟨rfl, bstep hb5 hb⟩
      · have hlast := Pl.gd_get (l := L2) (k := L2.length - 1) (by omega)
        have hLp : 1 ≤ L2.length := by omega
        rcases hD2.row with h0 | ⟨b2, off2, rfl, hb2', hcd⟩
        · omega
        have fl := hcd _ _ hlast
        by_cases hlm : 1125899906842624 < Pl.gd L2 (L2.length - 1)
        · clear hlast hcd
          generalize Pl.gd L2 (L2.length - 1) = y at *
          go_wp2_with fail
          refine (AW.out _).mono ?_
          rintro e w7 ⟨rfl, hb⟩
          go_wp2
          go_ret
          exact ⟨rfl, bstep hbb hb⟩
        · have hlM : ∀ i, i < L2.length → Pl.gd L2 i ≤ Pl.M := fun i hi => by
            have := Pl.le_of_sorted q3 (L2.length - 1) i (by omega) (by omega)
            simp only [Pl.M]; omega
          have hC4 := hid (hC3.out hlM)
          clear hlast hcd hC3 hlM q2 q3
          generalize Pl.gd L2 (L2.length - 1) = y at *
          by_cases hkk : k0 < k
          · rcases (hB.next hbb).row with hz | ⟨b, off, rfl, hb1, hca⟩
            · have := hN.out; omega
            have hSS := (hB.next hbb).drop k0 (by rw [hN.out]; exact hkk)
            have g7 : (d = k0) = False := eq_false (by omega)
            clear hca
            go_wp2_with fail
            refine (hC4.out _ _ _ _ _ hD2 hSS).mono ?_
            rintro e w8 ⟨A8, c8, rfl, hb8, hS8⟩
            have hb9 := bstep hbb hb8
            have E1 := hid (equal_same D1 A8 d1 c8 L1 w8 (hD1.next hb8) hS8 (by have := hlen1.out; omega))
            clear hb8 hC4 hbb
            go_wp2_with fail
            refine E1.out.mono ?_
            rintro e w5 ⟨rfl, hb⟩
            have hb5 := bstep hb9 hb
            clear E1 hb9 hb
            go_wp2_with fail
            refine (AW.out _).mono ?_
            rintro e w7 ⟨rfl, hb⟩
            go_wp2
            go_ret
            exact ⟨rfl, bstep hb5 hb⟩
          · have hke : k0 = k := by omega
            have hnil : ss.drop k0 = [] := by rw [hke, ← hN.out, List.drop_length]
            rw [hnil, show k - k0 = 0 from by omega] at hC4
            cases B with
            | none =>
              go_wp2_with fail
              refine (hC4.out _ _ _ _ _ hD2 (.inl rfl)).mono ?_
              rintro e w8 ⟨A8, c8, rfl, hb8, hS8⟩
              have hb9 := bstep hbb hb8
              have E1 := hid (equal_same D1 A8 d1 c8 L1 w8 (hD1.next hb8) hS8 (by have := hlen1.out; omega))
              clear hb8 hC4 hbb
              go_wp2_with fail
              refine E1.out.mono ?_
              rintro e w5 ⟨rfl, hb⟩
              have hb5 := bstep hb9 hb
              clear E1 hb9 hb
              go_wp2_with fail
              refine (AW.out _).mono ?_
              rintro e w7 ⟨rfl, hb⟩
              go_wp2
              go_ret
              exact ⟨rfl, bstep hb5 hb⟩
            | some ad =>
              by_cases hdk : d = k
              · go_wp2_with fail
                refine (hC4.out _ _ _ _ _ hD2 (.inl rfl)).mono ?_
                rintro e w8 ⟨A8, c8, rfl, hb8, hS8⟩
                have hb9 := bstep hbb hb8
                have E1 := hid (equal_same D1 A8 d1 c8 L1 w8 (hD1.next hb8) hS8 (by have := hlen1.out; omega))
                clear hb8 hC4 hbb
                go_wp2_with fail
                refine E1.out.mono ?_
                rintro e w5 ⟨rfl, hb⟩
                have hb5 := bstep hb9 hb
                clear E1 hb9 hb
                go_wp2_with fail
                refine (AW.out _).mono ?_
                rintro e w7 ⟨rfl, hb⟩
                go_wp2
                go_ret
                exact ⟨rfl, bstep hb5 hb⟩
              · go_wp2_with fail
                refine (hC4.out _ _ _ _ _ hD2 (.inl rfl)).mono ?_
                rintro e w8 ⟨A8, c8, rfl, hb8, hS8⟩
                have hb9 := bstep hbb hb8
                have E1 := hid (equal_same D1 A8 d1 c8 L1 w8 (hD1.next hb8) hS8 (by have := hlen1.out; omega))
                clear hb8 hC4 hbb
                go_wp2_with fail
                refine E1.out.mono ?_
                rintro e w5 ⟨rfl, hb⟩
                have hb5 := bstep hb9 hb
                clear E1 hb9 hb
                go_wp2_with fail
                refine (AW.out _).mono ?_
                rintro e w7 ⟨rfl, hb⟩
                go_wp2
                go_ret
                exact ⟨rfl, bstep hb5 hb⟩
end Go.Proofs.Ytpmndpbaigcaeaa
