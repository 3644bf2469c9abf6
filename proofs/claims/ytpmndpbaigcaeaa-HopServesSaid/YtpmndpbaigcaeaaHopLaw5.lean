/- The walk of HopServes. -/
import Derived.Test.YtpmndpbaigcaeaaHopLaw2
namespace Go.Proofs.Ytpmndpbaigcaeaa
open Go Go.RowKit
set_option maxHeartbeats 4000000 in
theorem hopServes_walk (A B : Option Addr) (a s : List Int) (c d : Nat) (w : World) (hA : IsSl w A .i64 a) (hB : IsSl w B .i64 s) :
    Calls Try.prog 7 #[.slice A a.length c, .slice B s.length d] w fun e w' => e = .returned (.bool true) ∧ Below w.heap.size w w' := by
  have AW := fun w => awake_any w
  replace AW := hid AW
  by_cases hf : a.length ≤ 600 ∧ s.length ≤ 600
  case neg =>
    have CF := hid (few_no A B a.length s.length c d hf w)
    clear hf
    go_enter Try.func7, Try.ntmps7
    go_wp2_with fail
    refine CF.out.mono ?_
    rintro e w1 ⟨rfl, rfl⟩
    go_wp2_with fail
    refine (AW.out _).mono ?_
    rintro e w1 ⟨rfl, hb⟩
    go_wp2
    go_ret
    exact ⟨rfl, hb⟩
  have CF := hid (few_yes A B a.length s.length c d hf.1 hf.2 w)
  have C1 := hid (Pass_any A B a s c d w hA hB hf.1)
  have C2 := hid (fun w hA hB => busy_any A B a s c d w hA hB hf.1)
  have hL : resL Pl.M a s = if Pl.errOf Pl.M a s = 0 then Pl.deps a s a.length else [] := rfl
  have hI : resB a s = if Pl.errOf Pl.M a s = 0 then Pl.bs a s a.length else [] := rfl
  generalize hE : Pl.errOf Pl.M a s = ev at *
  generalize resL Pl.M a s = LD at *
  generalize resB a s = LB at *
  replace hE := hid hE
  replace hL := hid hL
  replace hI := hid hI
  obtain ⟨hfa, _⟩ := hf
  go_enter Try.func7, Try.ntmps7
  go_wp2_with fail
  refine CF.out.mono ?_
  rintro e w1 ⟨rfl, rfl⟩
  go_wp2_with fail
  refine C1.out.mono ?_
  rintro e w1 ⟨v1, rfl, hb1, O1⟩
  obtain ⟨D1, d1, rfl, hD, _⟩ := O1.slice_
  clear O1 C1 CF
  go_wp2_with fail
  refine (C2.out _ (hA.next hb1) (hB.next hb1)).mono ?_
  rintro e w2 ⟨v2, rfl, hb, O2⟩
  have hb2 := bstep hb1 hb
  replace hD := hD.next hb
  obtain ⟨D2, d2, rfl, hV, _⟩ := O2.slice_
  clear O2 C2 hb1 hb
  by_cases he : ev = 0
  case neg =>
    go_wp2_with fail
    refine (AW.out _).mono ?_
    rintro e w3 ⟨rfl, hb⟩
    go_wp2
    go_ret
    exact ⟨rfl, bstep hb2 hb⟩
  subst he
  have hLd : LD = Pl.deps a s a.length := by have := hL.out; rw [if_pos rfl] at this; exact this
  have hIb : LB = Pl.bs a s a.length := by have := hI.out; rw [if_pos rfl] at this; exact this
  obtain ⟨hlen, h512, h3, h4⟩ := Pl.ok_of hE.out
  have hBus := Pl.bus h3 h4 a.length (Nat.le_refl _)
  have htot := hBus.tot
  have hap := hBus.ap
  clear hBus h4
  rw [← hIb] at htot hap
  have hll : LD.length = a.length := by rw [hLd, Pl.deps_len]
  have hlb : LB.length ≤ a.length := by rw [hIb]; exact Pl.bs_len a s a.length
  have hdg : ∀ k, k < a.length → LD[k]? = some (Pl.fr a s (k + 1)) := fun k hk => by rw [hLd]; exact Pl.deps_get a s _ k hk
  have hwb := Pl.work_bounds hE.out
  have hfb := fun k hk => fr_le hE.out k hk
  clear hL hI hLd hIb
  have hAA := hA.next hb2
  have hBB := hB.next hb2
  rw [hll, ← hlen]
  generalize hM : LB.length = m at *
  generalize hN : a.length = n at *
  replace hN := hid hN
  replace hM := hid hM
  replace hll := hid hll
  replace hlen := hid hlen
  replace hdg := hid hdg
  replace hwb := hid hwb
  replace hfb := hid hfb
  replace h3 := hid h3
  replace htot := hid htot
  replace hap := hid hap
  go_wp2
  go_loopw [9, 49] (fun p i wr => ∃ k : Nat, i = .int .i64 k ∧ k ≤ n ∧ p = .int .i64 (Pl.work s k) ∧ Below w2.heap.size w2 wr) (fun _ i _ => n - (intOf i).toNat)
  case atStart => exact ⟨0, rfl, Nat.zero_le _, rfl, Below.refl _ _⟩
  case round =>
    obtain ⟨k, rfl, hk, rfl, Br⟩ := hrel
    obtain ⟨i0, i1⟩ := hwb.out k hk
    by_cases hkn : k < n
    · have ha := Pl.gd_get (l := a) (k := k) (by rw [hN.out]; exact hkn)
      have hs := Pl.gd_get (l := s) (k := k) (by rw [← hlen.out]; exact hkn)
      have hd := hdg.out k hkn
      obtain ⟨x0, x1, y0, y1⟩ := Pl.okM_true.1 (h3.out k hkn)
      replace x1 : Pl.gd a k ≤ 1125899906842624 := x1
      obtain ⟨g1, g2⟩ := Pl.fr_ge a s k
      obtain ⟨q0, q1⟩ := hfb.out (k + 1) (by omega)
      obtain ⟨p0, p1⟩ := hfb.out k hk
      rcases (hAA.next Br).row with h0 | ⟨b, off, rfl, hb, hca⟩
      · have := hN.out; omega
      rcases (hBB.next Br).row with h0 | ⟨b', off', rfl, hb', hcb⟩
      · have := hlen.out; have := hN.out; omega
      rcases (hD.next Br).row with h0 | ⟨b2, off2, rfl, hb2', hcd⟩
      · have := hll.out; have := hN.out; omega
      have f0 := hca k _ ha
      have f1 := hcb k _ hs
      have f2 := hcd k _ hd
      have hws := Pl.work_succ s k
      have hks : k < s.length := by rw [← hlen.out]; exact hkn
      by_cases hk0 : k = 0
      · subst hk0
        generalize Pl.gd a 0 = x at *
        generalize Pl.gd s 0 = y at *
        generalize Pl.fr a s (0 + 1) = q at *
        generalize Pl.fr a s 0 = p at *
        generalize Pl.work s 0 = u at *
        replace hws := hid hws
        clear ha hs hd hca hcb hcd
        simp only [Int.natCast_zero, Nat.add_zero] at f0 f1 f2 ⊢
        go_wp2_with fail
        have g3 : (q < x + y) = False := eq_false (by omega)
        go_quiet (fail)
        go_wp2
        go_roundw
        case rel => exact ⟨1, by simp, by omega, by rw [hws.out], bdrewN Br nq⟩
        case measure => simp [intOf]; omega
      · have hd1 := hdg.out (k - 1) (by omega)
        rw [show k - 1 + 1 = k from by omega] at hd1
        have f3 := hcd (k - 1) _ hd1
        generalize Pl.gd a k = x at *
        generalize Pl.gd s k = y at *
        generalize Pl.fr a s (k + 1) = q at *
        generalize Pl.fr a s k = p at *
        generalize Pl.work s k = u at *
        replace hws := hid hws
        clear ha hs hd hd1 hca hcb hcd
        have hk2 : 1 ≤ k := by omega
        go_wp2_with fail
        have g5 : (0 < k) = True := eq_true (by omega)
        have g3 : (q < x + y) = False := eq_false (by omega)
        have g4 : (q < p + y) = False := eq_false (by omega)
        go_quiet (fail)
        go_wp2
        go_roundw
        case rel => exact ⟨k + 1, by simp, by omega, by rw [hws.out], bdrewN Br nq⟩
        case measure => simp [intOf]; omega
    · have hkn2 : k = n := by omega
      subst hkn2
      generalize hW0 : Pl.work s k = W0 at *
      replace hW0 := hid hW0
      have hbr0 := bstep hb2 Br
      replace hV := hV.next Br
      have hW5 : W0 ≤ 5120000000000 := by omega
      clear Br hAA hBB hD hA hB
      go_wp2
      obtain ⟨wo, rfl⟩ : ∃ wo : World, wo = wr := ⟨_, rfl⟩
      go_loopw [9, 96] (fun p i wr => ∃ j : Nat, i = .int .i64 j ∧ j ≤ m ∧ p = .int .i64 (W0 - Pl.total (LB.take j)) ∧ Below wo.heap.size wo wr) (fun _ i _ => m - (intOf i).toNat)
      case atStart => exact ⟨0, rfl, Nat.zero_le _, by simp [Pl.total], Below.refl _ _⟩
      case round =>
        obtain ⟨j, rfl, hj, rfl, Br⟩ := hrel
        obtain ⟨t0, t1⟩ := Pl.total_take hap.out.1 j
        rw [htot.out] at t1
        by_cases hjm : j < m
        · obtain ⟨⟨lo, hi⟩, hp⟩ : ∃ p, LB[j]? = some p := ⟨_, List.getElem?_eq_getElem (by rw [hM.out]; exact hjm)⟩
          have hlt := hap.out.1 _ (List.mem_of_getElem? hp)
          have htn := Pl.total_next hp
          obtain ⟨s0, s1⟩ := Pl.total_take hap.out.1 (j + 1)
          rw [htot.out] at s1
          rcases (hV.next Br).row with h0 | ⟨b, off, rfl, hb, hcv⟩
          · have := hM.out; omega
          obtain ⟨f0, f1⟩ := hcv j _ hp
          simp only at f0 f1 hlt htn
          have K := Bk.new wr 33 #[.int .i64 lo, .int .i64 hi]
          have Ba := Br.alloc Br.size (.cells #[.int .i64 lo, .int .i64 hi] 33)
          have kk0 := K.cell 0
          have kk1 := K.cell 1
          simp only [List.getElem?_toArray, List.getElem?_cons_zero, List.getElem?_cons_succ] at kk0 kk1
          by_cases hj0 : j = 0
          · subst hj0
            generalize hT1 : Pl.total (LB.take (0 + 1)) = T1 at *
            generalize Pl.total (LB.take 0) = T0 at *
            replace hT1 := hid hT1
            replace htn := hid htn
            clear hcv hp hV
            simp only [Int.natCast_zero, Nat.zero_mul, Nat.add_zero] at f0 f1 ⊢
            go_wp2_with fail
            have g3 : (hi ≤ lo) = False := eq_false (by omega)
            generalize wr.alloc (.cells #[.int .i64 lo, .int .i64 hi] 33) = w5 at *
            go_quiet (fail)
            have e0 := htn.out
            go_wp2
            go_roundw
            case rel => exact ⟨0 + 1, by simp, by omega, by rw [hT1.out, htn.out]; congr 1; omega, bdrewN Ba nq⟩
            case measure => simp [intOf]; omega
          · obtain ⟨⟨lo', hi'⟩, hp'⟩ : ∃ p, LB[j - 1]? = some p := ⟨_, List.getElem?_eq_getElem (by rw [hM.out]; omega)⟩
            have hgap := hap.out.2 (j - 1) _ _ hp' (by rw [show j - 1 + 1 = j from by omega]; exact hp)
            obtain ⟨f2, f3⟩ := hcv (j - 1) _ hp'
            have f3' := ((Below.refl wr.heap.size wr).alloc (Nat.le_refl _) (.cells #[.int .i64 lo, .int .i64 hi] 33)).cell (p := ⟨b, off + (j - 1) * 2 + 1, none⟩) hb
            replace f3' := f3'.trans f3
            simp only at f2 f3 f3' hgap
            generalize hT1 : Pl.total (LB.take (j + 1)) = T1 at *
            generalize Pl.total (LB.take j) = T0 at *
            replace hT1 := hid hT1
            replace htn := hid htn
            clear hcv hp hp' hV
            have hj2 : 1 ≤ j := by omega
            go_wp2_with fail
            have g5 : (0 < j) = True := eq_true (by omega)
            have g3 : (hi ≤ lo) = False := eq_false (by omega)
            have g4 : (lo ≤ hi') = False := eq_false (by omega)
            generalize wr.alloc (.cells #[.int .i64 lo, .int .i64 hi] 33) = w5 at *
            go_quiet (fail)
            have e0 := htn.out
            go_wp2
            go_roundw
            case rel => exact ⟨j + 1, by simp, by omega, by rw [hT1.out, htn.out]; congr 1; omega, bdrewN Ba nq⟩
            case measure => simp [intOf]; omega
        · have hjm2 : j = m := by omega
          subst hjm2
          have htk : LB.take j = LB := by rw [← hM.out, List.take_length]
          have hz : W0 - Pl.total (LB.take j) = 0 := by rw [htk, htot.out]; omega
          rw [hz]
          go_wp2_with fail
          refine (AW.out _).mono ?_
          rintro e w6 ⟨rfl, hb⟩
          go_wp2
          go_ret
          exact ⟨rfl, bstep (bstep hbr0 Br) hb⟩
end Go.Proofs.Ytpmndpbaigcaeaa
