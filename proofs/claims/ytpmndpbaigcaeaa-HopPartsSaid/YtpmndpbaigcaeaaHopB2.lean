/- The contract of Busy of the reference of package hop. -/
import Derived.Test.YtpmndpbaigcaeaaHopB1
namespace Go.Proofs.Ytpmndpbaigcaeaa
open Go Go.RowKit
set_option maxHeartbeats 2000000 in
theorem refBusy_any (A B : Option Addr) (a s : List Int) (c d : Nat) (w : World) (hA : IsSl w A .i64 a) (hB : IsSl w B .i64 s) (hna : a.length ≤ 600) :
    Calls Try.prog 18 #[.slice A a.length c, .slice B s.length d] w fun e w' => ∃ v, e = .returned (.tuple #[v, .int .i64 (Pl.errOf Pl.M a s)]) ∧ Below w.heap.size w w' ∧ OwnIv w' w.heap.size v (resB a s) := by
  have CP := hid (refPassT_any A B a s c d w hA hB hna)
  have hrL : resL Pl.M a s = if Pl.errOf Pl.M a s = 0 then Pl.deps a s a.length else [] := rfl
  have hrB : resB a s = if Pl.errOf Pl.M a s = 0 then Pl.bs a s a.length else [] := rfl
  generalize hE : Pl.errOf Pl.M a s = ev at *
  replace hE := hid hE
  go_enter Try.func18, Try.ntmps18
  go_wp2_with fail
  refine CP.out.mono ?_
  rintro e w1 ⟨v, rfl, hb, hO⟩
  clear CP
  rw [hrL] at hO
  clear hrL
  by_cases he : ev = 0
  case neg =>
    go_wp2
    go_ret2
    refine ⟨.slice none 0 0, rfl, hb, ?_⟩
    rw [hrB, if_neg he]
    exact OwnIv.nil_ _ _
  rw [if_pos he] at hO
  subst he
  rw [if_pos rfl] at hrB
  replace hrB := hid hrB
  obtain ⟨Al, cl, rfl, hSl, _⟩ := hO.slice_
  rw [Pl.deps_len]
  clear hO
  have hSl0 := hSl
  have hA1 := hA.next hb
  have hsz1 := hb.size
  generalize hN : a.length = n at *
  replace hN := hid hN
  go_wp2
  go_loopw [8, 9] (fun v i wr => ∃ k : Nat, i = .int .i64 k ∧ k ≤ n ∧ Below w1.heap.size w1 wr ∧ OwnIv wr w1.heap.size v (Pl.bs a s k)) (fun _ i _ => n - (intOf i).toNat)
  case atStart => exact ⟨0, rfl, Nat.zero_le _, Below.refl _ _, OwnIv.nil_ _ _⟩
  case round =>
    obtain ⟨k, rfl, hk, Br, O⟩ := hrel
    by_cases hkn : k < n
    · have hx := Pl.gd_get (l := a) (k := k) (by rw [hN.out]; exact hkn)
      have hq := Pl.deps_get a s n k hkn
      have hbn := bs_succ a s k
      have hll := Pl.bs_len a s k
      rcases hA1.row with h0 | ⟨b, off, rfl, hb1, hca⟩
      · have := hN.out; omega
      rcases hSl.row with h0 | ⟨b', off', rfl, hb', hcl⟩
      · rw [Pl.deps_len] at h0; omega
      have f0 := (Br.cell (p := ⟨b, off + k, none⟩) hb1).trans (hca k _ hx)
      have f1 := (Br.cell (p := ⟨b', off' + k, none⟩) hb').trans (hcl k _ hq)
      have hszr := Br.size
      clear hx hq hca hcl hA hB hA1 hSl hSl0
      generalize Pl.gd a k = x at *
      generalize Pl.fr a s (k + 1) = q at *
      generalize Pl.bs a s k = l at *
      unfold Pl.bstep at hbn
      cases hl : l.getLast? with
      | none =>
        obtain rfl : l = [] := List.getLast?_eq_none_iff.1 hl
        rw [hl] at hbn
        simp only at hbn
        obtain ⟨A', c', rfl, _, _⟩ := O.slice_
        simp only [List.length_nil] at O ⊢
        by_cases hd : x < q
        · rw [if_pos hd] at hbn
          replace hbn := hid hbn
          go_wp2_with fail
          go_quiet (fail)
          generalize nq = nq0
          go_wp2_with fail
          go_quiet (fail)
          have O2 := O.drewN (nq0 + nq)
          have B2 := bdrewN Br (nq0 + nq)
          have hsz2 := B2.size
          have f02 : (wr.drewN (nq0 + nq)).cell? ⟨b, off + k, none⟩ = some (.int .i64 x) := f0
          have f12 : (wr.drewN (nq0 + nq)).cell? ⟨b', off' + k, none⟩ = some (.int .i64 q) := f1
          have hwd : (wr.drewN nq0).drewN nq = wr.drewN (nq0 + nq) := World.drewN_drewN _ _ _
          rw [hwd]
          clear hwd f0 f1 O Br
          generalize wr.drewN (nq0 + nq) = w2 at *
          go_wp2_with fail
          have K2 : Bk (w2.drew.alloc (.cells #[.int .i64 x, .int .i64 q] 33)) w2.heap.size 33 #[.int .i64 x, .int .i64 q] := Bk.new w2.drew 33 #[.int .i64 x, .int .i64 q]
          have O2a : OwnIv (w2.drew.alloc (.cells #[.int .i64 x, .int .i64 q] 33)) w1.heap.size (.slice A' 0 c') [] := O2.drew.alloc _
          have Ba : Below w1.heap.size w1 (w2.drew.alloc (.cells #[.int .i64 x, .int .i64 q] 33)) := B2.drew.alloc (by show w1.heap.size ≤ w2.heap.size; omega) _
          have hL1000 : ([] : List (Int × Int)).length ≤ 1000 := by simp
          have hBs : w1.heap.size ≤ (w2.drew.alloc (.cells #[.int .i64 x, .int .i64 q] 33)).heap.size := Ba.size
          go_region_law (refine step_app_iv rfl (.tmp 61) (.tmp 71) rfl w1.heap.size (.slice A' 0 c') [] rfl O2a w2.heap.size 1 (x, q) rfl K2 hL1000 hBs ?_; intro v3 w3 O3 hb3)
          all_goals
            go_wp2
            go_roundw
            case rel => exact ⟨k + 1, by simp, by omega, Ba.trans hb3, by rw [hbn.out]; exact O3⟩
            case measure => simp [intOf]; omega
        · rw [if_neg hd] at hbn
          replace hbn := hid hbn
          go_wp2_with fail
          go_quiet (fail)
          generalize nq = nq0
          go_wp2_with fail
          go_quiet (fail)
          go_wp2
          go_roundw
          case rel => exact ⟨k + 1, by simp, by omega, bdrewN Br _, by rw [hbn.out]; exact O.drewN _⟩
          case measure => simp [intOf]; omega
      | some p =>
        have hsn := Pl.snoc_of hl
        generalize l.dropLast = l' at *
        subst hsn
        rw [hl] at hbn
        simp only at hbn
        obtain ⟨g, cap, rfl, hg, hgs⟩ := O.at_ (by simp)
        obtain ⟨A', c', hv, hI, _⟩ := O.slice_
        cases hv
        rcases hI.row with h0 | ⟨b2, off2, hA2, hb2, hcc⟩
        · simp at h0
        cases hA2
        have hc2 := (hcc l'.length p (by simp)).2
        simp only [Nat.zero_add] at hc2
        simp only [List.length_append, List.length_cons, List.length_nil, Nat.zero_add] at O hll ⊢
        have hst := O.store q
        generalize hm : l'.length = m at *
        replace hm := hid hm
        clear hcc hI hl
        by_cases hin : x ≤ p.2
        · rw [if_pos hin] at hbn
          replace hbn := hid hbn
          obtain ⟨fz, O2⟩ := hst
          replace O2 := hid O2
          go_wp2_with fail
          go_quiet (fail)
          go_wp2
          go_roundw
          case rel => exact ⟨k + 1, by simp, by omega, (bdrewN Br nq).setCell (by dsimp only; omega) _, by rw [hbn.out]; exact O2.out⟩
          case measure => simp [intOf]; omega
        · rw [if_neg hin] at hbn
          clear hst
          by_cases hd : x < q
          · rw [if_pos hd] at hbn
            replace hbn := hid hbn
            go_wp2_with fail
            go_quiet (fail)
            generalize nq = nq0
            go_wp2_with fail
            go_quiet (fail)
            have O2 := O.drewN (nq0 + nq)
            have B2 := bdrewN Br (nq0 + nq)
            have hsz2 := B2.size
            have f02 : (wr.drewN (nq0 + nq)).cell? ⟨b, off + k, none⟩ = some (.int .i64 x) := f0
            have f12 : (wr.drewN (nq0 + nq)).cell? ⟨b', off' + k, none⟩ = some (.int .i64 q) := f1
            have hwd : (wr.drewN nq0).drewN nq = wr.drewN (nq0 + nq) := World.drewN_drewN _ _ _
            rw [hwd]
            clear hwd f0 f1 O Br
            generalize wr.drewN (nq0 + nq) = w2 at *
            go_wp2_with fail
            have K2 : Bk (w2.drew.alloc (.cells #[.int .i64 x, .int .i64 q] 33)) w2.heap.size 33 #[.int .i64 x, .int .i64 q] := Bk.new w2.drew 33 #[.int .i64 x, .int .i64 q]
            have O2a : OwnIv (w2.drew.alloc (.cells #[.int .i64 x, .int .i64 q] 33)) w1.heap.size (.slice (some ⟨g, 0, none⟩) (m + 1) cap) (l' ++ [p]) := O2.drew.alloc _
            have Ba : Below w1.heap.size w1 (w2.drew.alloc (.cells #[.int .i64 x, .int .i64 q] 33)) := B2.drew.alloc (by show w1.heap.size ≤ w2.heap.size; omega) _
            have hL1000 : (l' ++ [p]).length ≤ 1000 := by rw [List.length_append, hm.out]; simp only [List.length_cons, List.length_nil]; omega
            have hBs : w1.heap.size ≤ (w2.drew.alloc (.cells #[.int .i64 x, .int .i64 q] 33)).heap.size := Ba.size
            go_region_law (refine step_app_iv rfl (.tmp 61) (.tmp 71) rfl w1.heap.size (.slice (some ⟨g, 0, none⟩) (m + 1) cap) (l' ++ [p]) rfl O2a w2.heap.size 1 (x, q) rfl K2 hL1000 hBs ?_; intro v3 w3 O3 hb3)
            all_goals
              go_wp2
              go_roundw
              case rel => exact ⟨k + 1, by simp, by omega, Ba.trans hb3, by rw [hbn.out]; exact O3⟩
              case measure => simp [intOf]; omega
          · rw [if_neg hd] at hbn
            replace hbn := hid hbn
            go_wp2_with fail
            go_quiet (fail)
            generalize nq = nq0
            go_wp2_with fail
            go_quiet (fail)
            go_wp2
            go_roundw
            case rel => exact ⟨k + 1, by simp, by omega, bdrewN Br _, by rw [hbn.out]; exact O.drewN _⟩
            case measure => simp [intOf]; omega
    · have hkn2 : k = n := by omega
      subst hkn2
      obtain ⟨A3, c3, rfl, _, _⟩ := O.slice_
      go_wp2
      go_ret2
      exact ⟨_, rfl, bstep hb Br, by rw [hrB.out]; exact O.mono hsz1⟩
end Go.Proofs.Ytpmndpbaigcaeaa
