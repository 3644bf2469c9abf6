/- The walks of HopPasses, HopBusies, HopBacklogs. -/
import Derived.Test.YtpmndpbaigcaeaaHopAw
namespace Go.Proofs.Ytpmndpbaigcaeaa
open Go Go.RowKit
theorem few_yes (A B : Option Addr) (n m c d : Nat) (h1 : n ≤ 600) (h2 : m ≤ 600) (w : World) : Calls Try.prog 10 #[.slice A n c, .slice B m d] w fun e w' => e = .returned (.bool true) ∧ w = w' := by
  have h1' : (n : Int) ≤ 600 := by omega
  have h2' : (m : Int) ≤ 600 := by omega
  go_enter Try.func10, Try.ntmps10
  go_wp2
  go_ret
  exact ⟨ret_bool (by simp), rfl⟩
theorem few_no (A B : Option Addr) (n m c d : Nat) (h : ¬ (n ≤ 600 ∧ m ≤ 600)) (w : World) : Calls Try.prog 10 #[.slice A n c, .slice B m d] w fun e w' => e = .returned (.bool false) ∧ w = w' := by
  by_cases h1 : n ≤ 600
  · have h1' : (n : Int) ≤ 600 := by omega
    have h2' : ¬ (m : Int) ≤ 600 := by omega
    go_enter Try.func10, Try.ntmps10
    go_wp2
    go_ret
    exact ⟨ret_bool (by simp), rfl⟩
  · have h1' : ¬ (n : Int) ≤ 600 := by omega
    go_enter Try.func10, Try.ntmps10
    go_wp2
    go_ret
    exact ⟨rfl, rfl⟩
set_option maxHeartbeats 1000000 in
theorem hopBacklogs_walk (A B : Option Addr) (a s : List Int) (c d : Nat) (t : Int) (w : World) (hA : IsSl w A .i64 a) (hB : IsSl w B .i64 s) :
    Calls Try.prog 5 #[.slice A a.length c, .slice B s.length d, .int .i64 t] w fun e w' => e = .returned (.bool true) ∧ Below w.heap.size w w' := by
  have AW := fun w => awake_any w
  replace AW := hid AW
  by_cases hf : a.length ≤ 600 ∧ s.length ≤ 600
  case neg =>
    have CF := hid (few_no A B a.length s.length c d hf w)
    clear hf
    go_enter Try.func5, Try.ntmps5
    go_wp2_with fail
    refine CF.out.mono ?_
    rintro e w1 ⟨rfl, rfl⟩
    go_wp2
    go_ret
    exact ⟨rfl, Below.refl _ _⟩
  case pos =>
    have CF := hid (few_yes A B a.length s.length c d hf.1 hf.2 w)
    have C1 := hid (backlog_any A B a s c d t w hA hB hf.1 hf.2)
    have C2 := hid (refBacklog_any A B a s c d t w hA hB hf.1 hf.2)
    clear hf
    go_enter Try.func5, Try.ntmps5
    go_wp2_with fail
    refine CF.out.mono ?_
    rintro e w1 ⟨rfl, rfl⟩
    go_wp2_with fail
    refine C1.out.mono ?_
    rintro e w1 ⟨rfl, rfl⟩
    go_wp2_with fail
    refine C2.out.mono ?_
    rintro e w1 ⟨rfl, rfl⟩
    go_wp2_with fail
    refine (AW.out _).mono ?_
    rintro e w1 ⟨rfl, hb⟩
    go_wp2
    go_ret
    exact ⟨rfl, hb⟩
set_option maxHeartbeats 1000000 in
theorem hopPasses_walk (A B : Option Addr) (a s : List Int) (c d : Nat) (w : World) (hA : IsSl w A .i64 a) (hB : IsSl w B .i64 s) :
    Calls Try.prog 3 #[.slice A a.length c, .slice B s.length d] w fun e w' => e = .returned (.bool true) ∧ Below w.heap.size w w' := by
  have AW := fun w => awake_any w
  replace AW := hid AW
  by_cases hf : a.length ≤ 600 ∧ s.length ≤ 600
  case neg =>
    have CF := hid (few_no A B a.length s.length c d hf w)
    clear hf
    go_enter Try.func3, Try.ntmps3
    go_wp2_with fail
    refine CF.out.mono ?_
    rintro e w1 ⟨rfl, rfl⟩
    go_wp2_with fail
    refine (AW.out _).mono ?_
    rintro e w1 ⟨rfl, hb⟩
    go_wp2
    go_ret
    exact ⟨rfl, hb⟩
  case pos =>
    have CF := hid (few_yes A B a.length s.length c d hf.1 hf.2 w)
    have C1 := hid (fun w hA hB => Pass_any A B a s c d w hA hB hf.1)
    have C2 := hid (fun w hA hB => refPassT_any A B a s c d w hA hB hf.1)
    have C3 := hid (fun w hA hB => waits_any A B a s c d w hA hB hf.1)
    have C4 := hid (fun w hA hB => refWaits_any A B a s c d w hA hB hf.1)
    have hLP : (resL Pl.M a s).length ≤ 1000000000 := by
      unfold resL; split
      · rw [Pl.deps_len]; omega
      · simp
    have hLW : (resW a s).length ≤ 1000000000 := by
      unfold resW; split
      · rw [Pl.waits_len]; omega
      · simp
    generalize resL Pl.M a s = LP at *
    generalize resW a s = LW at *
    generalize Pl.errOf Pl.M a s = ev at *
    replace hLP := hid hLP
    replace hLW := hid hLW
    clear hf
    go_enter Try.func3, Try.ntmps3
    go_wp2_with fail
    refine CF.out.mono ?_
    rintro e w1 ⟨rfl, rfl⟩
    go_wp2_with fail
    refine (C1.out _ hA hB).mono ?_
    rintro e w1 ⟨v1, rfl, hb1, O1⟩
    obtain ⟨D1, d1, rfl, hD1, _⟩ := O1.slice_
    clear O1 C1 CF
    go_wp2_with fail
    refine (C2.out _ (hA.next hb1) (hB.next hb1)).mono ?_
    rintro e w2 ⟨v2, rfl, hb, O2⟩
    have hb2 := bstep hb1 hb
    replace hD1 := hD1.next hb
    obtain ⟨D2, d2, rfl, hD2, _⟩ := O2.slice_
    clear O2 C2 hb1 hb
    go_wp2_with fail
    refine (C3.out _ (hA.next hb2) (hB.next hb2)).mono ?_
    rintro e w3 ⟨v3, rfl, hb, O3⟩
    have hb3 := bstep hb2 hb
    replace hD1 := hD1.next hb
    replace hD2 := hD2.next hb
    obtain ⟨D3, d3, rfl, hD3, _⟩ := O3.slice_
    clear O3 C3 hb2 hb
    go_wp2_with fail
    refine (C4.out _ (hA.next hb3) (hB.next hb3)).mono ?_
    rintro e w4 ⟨v4, rfl, hb, O4⟩
    have hb4 := bstep hb3 hb
    replace hD1 := hD1.next hb
    replace hD2 := hD2.next hb
    replace hD3 := hD3.next hb
    obtain ⟨D4, d4, rfl, hD4, _⟩ := O4.slice_
    clear O4 C4 hb3 hb
    have E1 := hid (equal_same D1 D2 d1 d2 LP w4 hD1 hD2 hLP.out)
    go_wp2_with fail
    refine E1.out.mono ?_
    rintro e w5 ⟨rfl, hb⟩
    have hb5 := bstep hb4 hb
    have E2 := hid (equal_same D3 D4 d3 d4 LW w5 (hD3.next hb) (hD4.next hb) hLW.out)
    clear E1 hb4 hb
    go_wp2_with fail
    refine E2.out.mono ?_
    rintro e w6 ⟨rfl, hb⟩
    have hb6 := bstep hb5 hb
    clear E2 hb5 hb
    go_wp2_with fail
    refine (AW.out _).mono ?_
    rintro e w7 ⟨rfl, hb⟩
    go_wp2
    go_ret
    exact ⟨rfl, bstep hb6 hb⟩
set_option maxHeartbeats 1000000 in
theorem hopBusies_walk (A B : Option Addr) (a s : List Int) (c d : Nat) (w : World) (hA : IsSl w A .i64 a) (hB : IsSl w B .i64 s) :
    Calls Try.prog 4 #[.slice A a.length c, .slice B s.length d] w fun e w' => e = .returned (.bool true) ∧ Below w.heap.size w w' := by
  have AW := fun w => awake_any w
  replace AW := hid AW
  by_cases hf : a.length ≤ 600 ∧ s.length ≤ 600
  case neg =>
    have CF := hid (few_no A B a.length s.length c d hf w)
    clear hf
    go_enter Try.func4, Try.ntmps4
    go_wp2_with fail
    refine CF.out.mono ?_
    rintro e w1 ⟨rfl, rfl⟩
    go_wp2_with fail
    refine (AW.out _).mono ?_
    rintro e w1 ⟨rfl, hb⟩
    go_wp2
    go_ret
    exact ⟨rfl, hb⟩
  case pos =>
    have CF := hid (few_yes A B a.length s.length c d hf.1 hf.2 w)
    have C1 := hid (fun w hA hB => busy_any A B a s c d w hA hB hf.1)
    have C2 := hid (fun w hA hB => refBusy_any A B a s c d w hA hB hf.1)
    have hLP : (resB a s).length ≤ 1000000000 := by
      unfold resB; split
      · have := Pl.bs_len a s a.length; omega
      · simp
    generalize resB a s = LP at *
    generalize Pl.errOf Pl.M a s = ev at *
    replace hLP := hid hLP
    clear hf
    go_enter Try.func4, Try.ntmps4
    go_wp2_with fail
    refine CF.out.mono ?_
    rintro e w1 ⟨rfl, rfl⟩
    go_wp2_with fail
    refine (C1.out _ hA hB).mono ?_
    rintro e w1 ⟨v1, rfl, hb1, O1⟩
    obtain ⟨D1, d1, rfl, hD1, _⟩ := O1.slice_
    clear O1 C1 CF
    go_wp2_with fail
    refine (C2.out _ (hA.next hb1) (hB.next hb1)).mono ?_
    rintro e w2 ⟨v2, rfl, hb, O2⟩
    have hb2 := bstep hb1 hb
    replace hD1 := hD1.next hb
    obtain ⟨D2, d2, rfl, hD2, _⟩ := O2.slice_
    clear O2 C2 hb1 hb
    have E1 := hid (equalIv_same D1 D2 d1 d2 LP w2 hD1 hD2 hLP.out)
    go_wp2_with fail
    refine E1.out.mono ?_
    rintro e w5 ⟨rfl, hb⟩
    have hb5 := bstep hb2 hb
    clear E1 hb2 hb
    go_wp2_with fail
    refine (AW.out _).mono ?_
    rintro e w7 ⟨rfl, hb⟩
    go_wp2
    go_ret
    exact ⟨rfl, bstep hb5 hb⟩
end Go.Proofs.Ytpmndpbaigcaeaa
