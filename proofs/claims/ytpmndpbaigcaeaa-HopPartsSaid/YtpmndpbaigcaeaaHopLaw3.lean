/- The walk of HopChains. -/
import Derived.Test.YtpmndpbaigcaeaaHopC9
import Derived.Test.YtpmndpbaigcaeaaHopLaw1
namespace Go.Proofs.Ytpmndpbaigcaeaa
open Go Go.RowKit
theorem chain_len (a : List Int) (ss : List (List Int)) (h : a.length ≤ 600) : (Pl.chainOf a ss).1.length ≤ 600 := by
  by_cases he : (Pl.chainOf a ss).2 = 0
  · have := (Pl.good_chainOf he).1; omega
  · unfold Pl.chainOf at he ⊢
    split
    · simp
    · next h16 =>
      rw [if_neg h16] at he
      split
      · next h0 =>
        rw [if_pos h0] at he
        split
        · exact h
        · simp
      · next h0 =>
        rw [if_neg h0] at he
        have : ∀ (p : List (List Int)) (lim : Int) (l : List Int), (Pl.chainE lim l p).2 ≠ 0 → (Pl.chainE lim l p).1 = [] := by
          intro p
          induction p with
          | nil => intro lim l hh; exact absurd rfl hh
          | cons s p ih =>
            intro lim l hh
            simp only [Pl.chainE] at hh ⊢
            split
            · next hz => rw [if_pos hz] at hh; exact ih _ _ hh
            · rfl
        rw [this _ _ _ he]; simp
set_option maxHeartbeats 2000000 in
theorem hopChains_walk (A B : Option Addr) (a : List Int) (ss : List (List Int)) (c d : Nat) (w : World) (hA : IsSl w A .i64 a) (hB : IsSS w B ss) :
    Calls Try.prog 6 #[.slice A a.length c, .slice B ss.length d] w fun e w' => e = .returned (.bool true) ∧ Below w.heap.size w w' := by
  have AW := fun w => awake_any w
  replace AW := hid AW
  by_cases hs : ss.length ≤ 20
  case neg =>
    have hs' : (20 : Int) < ss.length := by omega
    go_enter Try.func6, Try.ntmps6
    go_wp2_with fail
    refine (AW.out _).mono ?_
    rintro e w1 ⟨rfl, hb⟩
    go_wp2
    go_ret
    exact ⟨rfl, hb⟩
  have hs' : ((20 : Int) < ss.length) = False := eq_false (by omega)
  by_cases hf : a.length ≤ 600
  case neg =>
    have CF := hid (few_no A none a.length 0 c 0 (fun h => hf h.1) w)
    clear hf
    go_enter Try.func6, Try.ntmps6
    go_wp2_with fail
    refine CF.out.mono ?_
    rintro e w1 ⟨rfl, rfl⟩
    go_wp2_with fail
    refine (AW.out _).mono ?_
    rintro e w1 ⟨rfl, hb⟩
    go_wp2
    go_ret
    exact ⟨rfl, hb⟩
  have CF := hid (few_yes A none a.length 0 c 0 hf (by omega) w)
  have C1 := hid (fun w hA hB => chain_any A B a ss c d w hA hB hf (by omega))
  have C2 := hid (fun w hA hB => refChain_any A B a ss c d w hA hB hf (by omega))
  have hlen := chain_len a ss hf
  generalize Pl.chainOf a ss = R at *
  obtain ⟨L, ev⟩ := R
  simp only at C1 C2 hlen
  replace C1 := hid C1
  replace C2 := hid C2
  replace hlen := hid hlen
  clear hf
  generalize hN : ss.length = n at *
  replace hN := hid hN
  have hn20 : (n : Int) ≤ 20 := by omega
  go_enter Try.func6, Try.ntmps6
  go_wp2_with fail
  refine CF.out.mono ?_
  rintro e w1 ⟨rfl, rfl⟩
  go_wp2
  go_loopw [22] (fun i wr => ∃ k : Nat, i = .int .i64 k ∧ k ≤ n ∧ wr = w) (fun i _ => n - (intOf i).toNat)
  case atStart => exact ⟨0, rfl, Nat.zero_le _, rfl⟩
  case round =>
    obtain ⟨k, rfl, hk, rfl⟩ := hrel
    by_cases hkn : k < n
    · obtain ⟨x, hx⟩ : ∃ x, ss[k]? = some x := ⟨_, List.getElem?_eq_getElem (by rw [hN.out]; exact hkn)⟩
      rcases hB.row with hz | ⟨b, off, rfl, hb1, hca⟩
      · have := hN.out; omega
      obtain ⟨Ax, cx, f0, hSx⟩ := hca k x hx
      clear hca hx hSx
      by_cases hxl : x.length ≤ 600
      · have CX := hid (few_yes Ax none x.length 0 cx 0 hxl (by omega) wr)
        clear hxl
        go_wp2_with fail
        refine CX.out.mono ?_
        rintro e w1 ⟨rfl, rfl⟩
        go_wp2
        go_roundw
        case rel => exact ⟨k + 1, by simp, by omega, trivial⟩
        case measure => simp [intOf]; omega
      · have CX := hid (few_no Ax none x.length 0 cx 0 (fun h => hxl h.1) wr)
        clear hxl
        go_wp2_with fail
        refine CX.out.mono ?_
        rintro e w1 ⟨rfl, rfl⟩
        go_wp2_with fail
        refine (AW.out _).mono ?_
        rintro e w1 ⟨rfl, hb⟩
        go_wp2
        go_ret
        exact ⟨rfl, hb⟩
    · have hkn2 : k = n := by omega
      subst hkn2
      go_wp2_with fail
      refine (C1.out.out _ hA hB).mono ?_
      rintro e w1 ⟨D1, d1, rfl, hb1, hD1⟩
      go_wp2_with fail
      refine (C2.out.out _ (hA.next hb1) (hB.next hb1)).mono ?_
      rintro e w2 ⟨D2, d2, rfl, hb2, hD2⟩
      have hb3 := bstep hb1 hb2
      have E1 := hid (equal_same D1 D2 d1 d2 L w2 (hD1.next hb2) hD2 (by have := hlen.out; omega))
      clear hb1 hb2 C1 C2
      go_wp2_with fail
      refine E1.out.mono ?_
      rintro e w5 ⟨rfl, hb⟩
      have hb5 := bstep hb3 hb
      clear E1 hb3 hb
      go_wp2_with fail
      refine (AW.out _).mono ?_
      rintro e w7 ⟨rfl, hb⟩
      go_wp2
      go_ret
      exact ⟨rfl, bstep hb5 hb⟩
end Go.Proofs.Ytpmndpbaigcaeaa
