/- The contracts of slices.Equal at integers, and of the reference of package prng: New, Next, Below, Range. -/
import Derived.Test.YtdfabmjkahhlmaaDoorPermC
namespace Go.Proofs.YtdfabmjkahhlmaaDoor
open Go Go.RowKit
theorem bdrewN {B : Nat} {a w : World} (h : Below B a w) (n : Nat) : Below B a (w.drewN n) := ⟨h.os, h.tape, h.output, h.size, h.block⟩
set_option maxHeartbeats 1000000 in
/-- slices.Equal at two slices that read as one list. -/
theorem equal_same (A B : Option Addr) (c c' : Nat) (xs : List Int) (w : World) (hS : IsSl w A .i64 xs) (hS' : IsSl w B .i64 xs) (hn : xs.length ≤ 1000000000) :
    Calls Tryd.prog 19 #[.slice A xs.length c, .slice B xs.length c'] w fun e w' => e = .returned (.bool true) ∧ Below w.heap.size w w' := by
  generalize hN : xs.length = n at hn ⊢
  have HN := hid hN
  clear hN
  go_enter Tryd.func19, Tryd.ntmps19
  go_wp2
  go_loopw [13] (fun i wr => ∃ k : Nat, k ≤ n ∧ i = .int .i64 k ∧ Below w.heap.size w wr) (fun i _ => n - (intOf i).toNat)
  case atStart => exact ⟨0, Nat.zero_le _, rfl, Below.refl _ _⟩
  case round =>
    obtain ⟨k, hk, rfl, hb⟩ := hrel
    by_cases hlt : k < n
    · obtain ⟨x, hx⟩ : ∃ x, xs[k]? = some x := ⟨xs[k]'(by have := HN.out; omega), List.getElem?_eq_getElem _⟩
      rcases (hS.next hb).row with h0 | ⟨bb, off, rfl, hbb', hcell⟩
      · have := HN.out; omega
      · rcases (hS'.next hb).row with h0 | ⟨bc, off', rfl, hbc', hcell'⟩
        · have := HN.out; omega
        · have hc1 : wr.cell? ⟨bb, off + k, none⟩ = some (.int .i64 x) := hcell k x hx
          have hc2 : wr.cell? ⟨bc, off' + k, none⟩ = some (.int .i64 x) := hcell' k x hx
          clear hx hcell hcell'
          have hi0 : (0 : Int) ≤ (k : Int) := by omega
          have hi1 : (k : Int) < (n : Int) := by omega
          go_wp2
          go_quiet (fail)
          go_wp2
          exact ⟨⟨k + 1, by omega, by go_num, bdrewN hb nq⟩, by simp [intOf]; omega⟩
    · go_wp2
      go_ret
      exact ⟨rfl, hb⟩
theorem equal_lengths (A B : Option Addr) (n m c c' : Nat) (h : n ≠ m) (w : World) :
    Calls Tryd.prog 19 #[.slice A n c, .slice B m c'] w fun e w' => e = .returned (.bool false) ∧ w = w' := by
  have h' : ((n : Int) != (m : Int)) = true := by rw [bne_iff_ne]; omega
  go_enter Tryd.func19, Tryd.ntmps19
  go_wp2
  go_ret
  exact ⟨rfl, rfl⟩
theorem refNew_any (seed : Int) (w : World) : Calls Tryd.prog 20 #[.int .u64 seed] w fun e w' => e = .returned (pt w.heap.size) ∧ w' = w.alloc (.cells #[.int .u64 seed, .int .u64 0] 62) := by
  go_enter Tryd.func20, Tryd.ntmps20
  go_wp2
  go_ret
  exact ⟨rfl, rfl⟩
set_option maxHeartbeats 1000000 in
theorem refNext_any (g : Nat) (seed : Int) (n : Nat) (hn : n ≤ 1099511627776) (w : World) (H : Src w g 62 seed n) :
    Calls Tryd.prog 21 #[pt g] w fun e w' => e = .returned (.int .u64 (Pl.mix seed n)) ∧ Src w' g 62 seed (n + 1) ∧ Only g w w' := by
  obtain ⟨c0, c1⟩ := H.all
  go_enter Tryd.func21, Tryd.ntmps21
  go_wp2
  go_region_held3 (fun w' => (w'.cell? ⟨g, 0, none⟩ = some (.int .u64 seed)) ∧ (w'.cell? ⟨g, 1, none⟩ = some (.int .u64 (n : Int))) ∧ Src w' g 62 seed n ∧ Below w.heap.size w w')
    (first | exact SrcS.start H | exact SrcS.next (by assumption) hb)
    (first | (go_at_call 12; refine (refMix_any _ _ _).mono ?_; rintro e w' ⟨rfl, rfl⟩; have hb := Below.refl w.heap.size w))
  have H1 : Src w.drew g 62 seed n := Bk.drew H
  have f1 := Bk.free H1 1
  go_wp2
  go_ret
  refine ⟨rfl, ?_, ?_⟩
  · exact Bk.drew (Bk.put H 1 (.int .u64 ((n : Int) + 1)))
  · exact (Only.refl_.put 1 _).drew
theorem refNext_nil (w : World) : Calls Tryd.prog 21 #[.pointer none] w fun e w' => e = .returned (.int .u64 0) ∧ w = w' := by
  go_enter Tryd.func21, Tryd.ntmps21
  go_wp2
  go_ret
  exact ⟨rfl, rfl⟩
theorem refBelow_no (g : Nat) (m : Int) (hm : m < 1) (w : World) : Calls Tryd.prog 22 #[pt g, .int .i64 m] w fun e w' => e = .returned (.int .i64 0) ∧ w = w' := by
  go_enter Tryd.func22, Tryd.ntmps22
  go_wp2
  go_ret
  exact ⟨rfl, rfl⟩
set_option maxHeartbeats 1000000 in
theorem refBelow_any (g : Nat) (seed : Int) (n : Nat) (hn : n ≤ 1099511627776) (m : Int) (hm : 1 ≤ m ∧ m ≤ 9223372036854775807) (w : World) (H : Src w g 62 seed n) :
    Calls Tryd.prog 22 #[pt g, .int .i64 m] w fun e w' => e = .returned (.int .i64 (Pl.belowOf seed n m)) ∧ Src w' g 62 seed (n + 1) ∧ Only g w w' := by
  have hb := Pl.belowOf_range seed n hm.1
  have hx := Pl.mix_nonneg seed n
  have HB := hid (show Pl.mix seed n % m = Pl.belowOf seed n m from rfl)
  have hlo : 0 ≤ Pl.mix seed n % m := hb.1
  have hhi : Pl.mix seed n % m < m := hb.2
  go_enter Tryd.func22, Tryd.ntmps22
  go_wp2_with fail
  refine (refNext_any g seed n hn w H).mono ?_
  rintro e w1 ⟨rfl, H1, ho⟩
  go_wp2
  go_ret
  exact ⟨rfl, H1, ho⟩
theorem refRange_no (g : Nat) (lo hi : Int) (h : hi < lo) (w : World) : Calls Tryd.prog 23 #[pt g, .int .i64 lo, .int .i64 hi] w fun e w' => e = .returned (.int .i64 lo) ∧ w = w' := by
  go_enter Tryd.func23, Tryd.ntmps23
  go_wp2
  go_ret
  exact ⟨rfl, rfl⟩
set_option maxHeartbeats 1000000 in
theorem refRange_any (g : Nat) (seed : Int) (n : Nat) (hn : n ≤ 1099511627776) (lo hi : Int) (h : lo ≤ hi) (w : World) (H : Src w g 62 seed n) :
    Calls Tryd.prog 23 #[pt g, .int .i64 lo, .int .i64 hi] w fun e w' => e = .returned (.int .i64 (rangeOf seed n lo hi)) ∧ Src w' g 62 seed (n + 1) ∧ Only g w w' := by
  have hx := Pl.mix_nonneg seed n
  unfold rangeOf
  have HS := hid (show IntKind.u64.wrap (IntKind.u64.wrap (IntKind.u64.wrap hi - IntKind.u64.wrap lo) + 1) = IntKind.u64.wrap (IntKind.u64.wrap (IntKind.u64.wrap hi - IntKind.u64.wrap lo) + 1) from rfl)
  have hs0 : 0 ≤ IntKind.u64.wrap (IntKind.u64.wrap (IntKind.u64.wrap hi - IntKind.u64.wrap lo) + 1) := wrap_u64_nonneg _
  by_cases h0 : IntKind.u64.wrap (IntKind.u64.wrap (IntKind.u64.wrap hi - IntKind.u64.wrap lo) + 1) = 0
  · have h0' : (IntKind.u64.wrap (IntKind.u64.wrap (IntKind.u64.wrap hi - IntKind.u64.wrap lo) + 1) != 0) = false := by rw [h0]; rfl
    have HZ := hid h0
    clear h0
    go_enter Tryd.func23, Tryd.ntmps23
    go_wp2_with fail
    refine (refNext_any g seed n hn w H).mono ?_
    rintro e w1 ⟨rfl, H1, ho⟩
    go_wp2
    go_ret
    exact ⟨ret_int (by rw [HZ.out]; exact (IntWalk.i64_left _).symm), H1, ho⟩
  · have h0' : (IntKind.u64.wrap (IntKind.u64.wrap (IntKind.u64.wrap hi - IntKind.u64.wrap lo) + 1) != 0) = true := bne_iff_ne.2 h0
    have h1 : 1 ≤ IntKind.u64.wrap (IntKind.u64.wrap (IntKind.u64.wrap hi - IntKind.u64.wrap lo) + 1) := by omega
    have HR : Hid (rem0 (Pl.mix seed n) (IntKind.u64.wrap (IntKind.u64.wrap (IntKind.u64.wrap hi - IntKind.u64.wrap lo) + 1)) = Pl.mix seed n % (IntKind.u64.wrap (IntKind.u64.wrap (IntKind.u64.wrap hi - IntKind.u64.wrap lo) + 1))) := hid (by unfold rem0; rw [if_neg h0])
    clear h0
    go_enter Tryd.func23, Tryd.ntmps23
    go_wp2_with fail
    refine (refNext_any g seed n hn w H).mono ?_
    rintro e w1 ⟨rfl, H1, ho⟩
    go_wp2
    go_ret
    exact ⟨ret_int (by rw [HR.out]; exact (IntWalk.i64_left _).symm), H1, ho⟩
end Go.Proofs.YtdfabmjkahhlmaaDoor
