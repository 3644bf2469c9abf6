/- The walks of HopServes and HopCounts. -/
import Derived.Test.YtpmndpbaigcaeaaHopLaw1
namespace Go.Proofs.Ytpmndpbaigcaeaa
open Go Go.RowKit
namespace Pl
def cov (t : Int) (l : List (Int × Int)) : Bool := l.any fun p => decide (p.1 ≤ t) && decide (t < p.2)
theorem cov_iff {t : Int} {l : List (Int × Int)} : cov t l = true ↔ covers l t := by unfold cov covers; simp
theorem take_snoc {α : Type} {l : List α} {k : Nat} {x : α} (h : l[k]? = some x) : l.take (k + 1) = l.take k ++ [x] := by rw [List.take_add_one, h]; rfl
theorem cov_next {t : Int} {l : List (Int × Int)} {k : Nat} {p : Int × Int} (h : l[k]? = some p) : cov t (l.take (k + 1)) = (cov t (l.take k) || (decide (p.1 ≤ t) && decide (t < p.2))) := by
  rw [take_snoc h]; unfold cov; rw [List.any_append]; simp
theorem net_bounds (a d : List Int) (t : Int) : ∀ k : Nat, -(k : Int) ≤ net a d t k ∧ net a d t k ≤ k
  | 0 => by unfold net; omega
  | k + 1 => by
    have := net_bounds a d t k
    unfold net
    split <;> split <;> omega
theorem net_succ (a d : List Int) (t : Int) (k : Nat) : net a d t (k + 1) = (if gd a k ≤ t then 1 else 0) - (if gd d k ≤ t then 1 else 0) + net a d t k := rfl
theorem work_succ (s : List Int) (k : Nat) : work s (k + 1) = work s k + gd s k := rfl
theorem work_bounds {lim : Int} {a s : List Int} (he : errOf lim a s = 0) : ∀ k, k ≤ a.length → 0 ≤ work s k ∧ work s k ≤ 10000000000 * k
  | 0, _ => by unfold work; omega
  | k + 1, hk => by
    have := work_bounds he k (by omega)
    have := okM_true.1 ((ok_of he).2.2.1 k (by omega))
    rw [work_succ]; omega
theorem total_nonneg : ∀ l : List (Int × Int), (∀ p ∈ l, p.1 < p.2) → 0 ≤ total l
  | [], _ => by simp [total]
  | p :: l, h => by
    have := total_nonneg l (fun q hq => h q (by simp [hq]))
    have := h p (by simp)
    unfold total at *
    simp only [List.map_cons, List.sum_cons]
    omega
theorem total_app (l m : List (Int × Int)) : total (l ++ m) = total l + total m := by unfold total; simp
theorem total_take {l : List (Int × Int)} (h : ∀ p ∈ l, p.1 < p.2) (k : Nat) : 0 ≤ total (l.take k) ∧ total (l.take k) ≤ total l := by
  have h1 := total_nonneg (l.take k) (fun p hp => h p (List.mem_of_mem_take hp))
  have h2 := total_nonneg (l.drop k) (fun p hp => h p (List.mem_of_mem_drop hp))
  have h3 := total_app (l.take k) (l.drop k)
  rw [List.take_append_drop] at h3
  omega
theorem total_next {l : List (Int × Int)} {k : Nat} {p : Int × Int} (h : l[k]? = some p) : total (l.take (k + 1)) = total (l.take k) + (p.2 - p.1) := by rw [take_snoc h, total_snoc]
end Pl
set_option maxHeartbeats 2000000 in
theorem hopCounts_walk (A B : Option Addr) (a s : List Int) (c d : Nat) (t : Int) (w : World) (hA : IsSl w A .i64 a) (hB : IsSl w B .i64 s) :
    Calls Try.prog 8 #[.slice A a.length c, .slice B s.length d, .int .i64 t] w fun e w' => e = .returned (.bool true) ∧ Below w.heap.size w w' := by
  have AW := fun w => awake_any w
  replace AW := hid AW
  by_cases hf : a.length ≤ 600 ∧ s.length ≤ 600
  case neg =>
    have CF := hid (few_no A B a.length s.length c d hf w)
    clear hf
    go_enter Try.func8, Try.ntmps8
    go_wp2_with fail
    refine CF.out.mono ?_
    rintro e w1 ⟨rfl, rfl⟩
    go_wp2_with fail
    refine (AW.out _).mono ?_
    rintro e w1 ⟨rfl, hb⟩
    go_wp2
    go_ret
    exact ⟨rfl, hb⟩
  have CF := hid (few_yes A B a.length s.length c d hf.1 hf.2 w)
  have C1 := hid (Pass_any A B a s c d w hA hB hf.1)
  have C2 := hid (fun w hA hB => busy_any A B a s c d w hA hB hf.1)
  have hL : resL Pl.M a s = if Pl.errOf Pl.M a s = 0 then Pl.deps a s a.length else [] := rfl
  have hI : resB a s = if Pl.errOf Pl.M a s = 0 then Pl.bs a s a.length else [] := rfl
  generalize hE : Pl.errOf Pl.M a s = ev at *
  generalize resL Pl.M a s = LD at *
  generalize resB a s = LB at *
  replace hE := hid hE
  replace hL := hid hL
  replace hI := hid hI
  obtain ⟨hfa, _⟩ := hf
  have hfa' := hid hfa
  go_enter Try.func8, Try.ntmps8
  go_wp2_with fail
  refine CF.out.mono ?_
  rintro e w1 ⟨rfl, rfl⟩
  go_wp2_with fail
  refine C1.out.mono ?_
  rintro e w1 ⟨v1, rfl, hb1, O1⟩
  obtain ⟨D1, d1, rfl, hD, _⟩ := O1.slice_
  clear O1 C1 CF
  go_wp2_with fail
  refine (C2.out _ (hA.next hb1) (hB.next hb1)).mono ?_
  rintro e w2 ⟨v2, rfl, hb, O2⟩
  have hb2 := bstep hb1 hb
  replace hD := hD.next hb
  obtain ⟨D2, d2, rfl, hV, _⟩ := O2.slice_
  clear O2 C2 hb1 hb
  by_cases he : ev = 0
  case neg =>
    go_wp2_with fail
    refine (AW.out _).mono ?_
    rintro e w3 ⟨rfl, hb⟩
    go_wp2
    go_ret
    exact ⟨rfl, bstep hb2 hb⟩
  subst he
  have hLd : LD = Pl.deps a s a.length := by have := hL.out; rw [if_pos rfl] at this; exact this
  have hIb : LB = Pl.bs a s a.length := by have := hI.out; rw [if_pos rfl] at this; exact this
  have hll : LD.length = a.length := by rw [hLd, Pl.deps_len]
  have hlb : LB.length ≤ a.length := by rw [hIb]; exact Pl.bs_len a s a.length
  have hnet := fun k h => Pl.net_inside (a := a) (d := LD) (t := t) k h
  have hge := fun i hi => Pl.dep_ge hE.out i hi
  have hbz := Pl.busy_iff hE.out t
  rw [← hLd] at hge hbz
  rw [← hIb] at hbz
  clear hL hI hLd hIb
  replace hnet := hid hnet
  replace hge := hid hge
  replace hbz := hid hbz
  have hAA := hA.next hb2
  have CB := fun w (hA : IsSl w A .i64 a) hD => backlog_any A D1 a LD c d1 t w hA hD hfa (by rw [hll]; exact hfa)
  rw [hll] at CB ⊢
  have hmm : min a.length a.length = a.length := by omega
  rw [hmm] at CB
  clear hmm
  generalize hM : LB.length = m at *
  generalize hN : a.length = n at *
  replace hN := hid hN
  replace hM := hid hM
  replace hll := hid hll
  replace CB := hid CB
  go_wp2
  go_loopw [11, 48] (fun p i wr => ∃ k : Nat, i = .int .i64 k ∧ k ≤ n ∧ p = .int .i64 (Pl.net a LD t k) ∧ wr = w2) (fun _ i _ => n - (intOf i).toNat)
  case atStart => exact ⟨0, rfl, Nat.zero_le _, rfl, rfl⟩
  case round =>
    obtain ⟨k, rfl, hk, rfl, rfl⟩ := hrel
    obtain ⟨i0, i1⟩ := Pl.net_bounds a LD t k
    by_cases hkn : k < n
    · have ha := Pl.gd_get (l := a) (k := k) (by rw [hN.out]; exact hkn)
      have hd := Pl.gd_get (l := LD) (k := k) (by rw [hll.out]; exact hkn)
      rcases hAA.row with h0 | ⟨b, off, rfl, hb, hca⟩
      · have := hN.out; omega
      rcases hD.row with h0 | ⟨b', off', rfl, hb', hcb⟩
      · have := hll.out; omega
      have f0 := hca k _ ha
      have f1 := hcb k _ hd
      have hsu := Pl.net_succ a LD t k
      generalize Pl.gd a k = x at *
      generalize Pl.gd LD k = y at *
      generalize Pl.net a LD t k = p at *
      clear ha hd hca hcb hA hB hAA hD
      by_cases hx : x ≤ t
      · rw [if_pos hx] at hsu
        by_cases hy : y ≤ t
        · rw [if_pos hy] at hsu
          replace hsu := hid hsu
          go_wp2
          go_roundw
          case rel => exact ⟨k + 1, by simp, by omega, by rw [hsu.out]; congr 1; omega, trivial⟩
          case measure => simp [intOf]; omega
        · rw [if_neg hy] at hsu
          replace hsu := hid hsu
          go_wp2
          go_roundw
          case rel => exact ⟨k + 1, by simp, by omega, by rw [hsu.out]; congr 1; omega, trivial⟩
          case measure => simp [intOf]; omega
      · rw [if_neg hx] at hsu
        by_cases hy : y ≤ t
        · rw [if_pos hy] at hsu
          replace hsu := hid hsu
          go_wp2
          go_roundw
          case rel => exact ⟨k + 1, by simp, by omega, by rw [hsu.out]; congr 1; omega, trivial⟩
          case measure => simp [intOf]; omega
        · rw [if_neg hy] at hsu
          replace hsu := hid hsu
          go_wp2
          go_roundw
          case rel => exact ⟨k + 1, by simp, by omega, by rw [hsu.out]; congr 1; omega, trivial⟩
          case measure => simp [intOf]; omega
    · have hkn2 : k = n := by omega
      subst hkn2
      have hni := hid (hnet.out k (fun i hi => hge.out i hi))
      generalize Pl.net a LD t k = p at *
      go_wp2
      obtain ⟨wo, rfl⟩ : ∃ wo : World, wo = wr := ⟨_, rfl⟩
      go_loopw [13, 70] (fun q i wr => ∃ j : Nat, i = .int .i64 j ∧ j ≤ m ∧ q = .bool (Pl.cov t (LB.take j)) ∧ Below wo.heap.size wo wr) (fun _ i _ => m - (intOf i).toNat)
      case atStart => exact ⟨0, rfl, Nat.zero_le _, rfl, Below.refl _ _⟩
      case round =>
        obtain ⟨j, rfl, hj, rfl, Br⟩ := hrel
        by_cases hjm : j < m
        · obtain ⟨⟨lo, hi⟩, hp⟩ : ∃ p, LB[j]? = some p := ⟨_, List.getElem?_eq_getElem (by rw [hM.out]; exact hjm)⟩
          rcases (hV.next Br).row with h0 | ⟨b, off, rfl, hb, hcv⟩
          · have := hM.out; omega
          obtain ⟨f0, f1⟩ := hcv j _ hp
          have hcn := Pl.cov_next (t := t) hp
          simp only at f0 f1 hcn
          generalize Pl.cov t (LB.take j) = bb at *
          clear hcv hp hV
          cases bb
          case true =>
            rw [Bool.true_or] at hcn
            replace hcn := hid hcn
            go_wp2
            go_roundw
            case rel => exact ⟨j + 1, by simp, by omega, by rw [hcn.out], Br.alloc Br.size _⟩
            case measure => simp [intOf]; omega
          case false =>
            rw [Bool.false_or] at hcn
            by_cases h1 : lo ≤ t
            · by_cases h2 : t < hi
              · rw [decide_eq_true h1, decide_eq_true h2] at hcn
                replace hcn := hid hcn
                go_wp2
                go_roundw
                case rel => exact ⟨j + 1, by simp, by omega, by rw [hcn.out]; rfl, Br.alloc Br.size _⟩
                case measure => simp [intOf]; omega
              · rw [decide_eq_false h2, Bool.and_false] at hcn
                replace hcn := hid hcn
                go_wp2
                go_roundw
                case rel => exact ⟨j + 1, by simp, by omega, by rw [hcn.out], Br.alloc Br.size _⟩
                case measure => simp [intOf]; omega
            · rw [decide_eq_false h1, Bool.false_and] at hcn
              replace hcn := hid hcn
              go_wp2
              go_roundw
              case rel => exact ⟨j + 1, by simp, by omega, by rw [hcn.out], Br.alloc Br.size _⟩
              case measure => simp [intOf]; omega
        · have hjm2 : j = m := by omega
          subst hjm2
          have htk : LB.take j = LB := by rw [← hM.out, List.take_length]
          have hci : 0 < Pl.inside a LD t k ↔ Pl.cov t LB = true := by rw [Pl.cov_iff]; exact hbz.out
          rw [htk]
          have hbl := bstep hb2 Br
          go_wp2_with fail
          refine (CB.out _ (hAA.next Br) (hD.next Br)).mono ?_
          rintro e w5 ⟨rfl, rfl⟩
          rw [← hni.out]
          rw [← hni.out] at hci
          generalize Pl.cov t LB = bb at *
          have hpb : decide (0 < p) = bb := by
            cases bb with
            | true => exact decide_eq_true (hci.2 rfl)
            | false => exact decide_eq_false (fun h => by have := hci.1 h; cases this)
          clear hci
          go_wp2_with fail
          refine (AW.out _).mono ?_
          rintro e w6 ⟨rfl, hb⟩
          go_wp2
          go_ret
          exact ⟨rfl, bstep hbl hb⟩
end Go.Proofs.Ytpmndpbaigcaeaa
