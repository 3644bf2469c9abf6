/- Plain law of chains, hop by hop; slices of slices; slices.Equal at intervals; the contract of Chain of package hop. -/
import Derived.Test.YtpmndpbaigcaeaaHopB2
namespace Go.Proofs.Ytpmndpbaigcaeaa
open Go Go.RowKit
namespace Pl
def limK (k : Nat) : Int := if k = 0 then M else 2 * M
theorem take_app {ss : List (List Int)} {k : Nat} {x : List Int} (h : ss[k]? = some x) : ss.take (k + 1) = ss.take k ++ [x] := by rw [List.take_add_one, h]; rfl
theorem take_len {ss : List (List Int)} {k : Nat} {x : List Int} (h : ss[k]? = some x) : (ss.take k).length = k := by
  have := (List.getElem?_eq_some_iff.1 h).1
  simp; omega
theorem chain_next {a : List Int} {ss : List (List Int)} {k : Nat} {x l : List Int} (hx : ss[k]? = some x) (h : chainE M a (ss.take k) = (l, 0)) (he : errOf (limK k) l x = 0) : chainE M a (ss.take (k + 1)) = (deps l x l.length, 0) := by
  rw [take_app hx, chainE_app _ _ _ _ (by rw [h]), h, take_len hx]
  show chainE (limK k) l [x] = _
  unfold chainE
  rw [if_pos he]; rfl
theorem chain_fail {a : List Int} {ss : List (List Int)} {k : Nat} {x l : List Int} (hx : ss[k]? = some x) (h : chainE M a (ss.take k) = (l, 0)) (he : ¬ errOf (limK k) l x = 0) : chainE M a ss = ([], errOf (limK k) l x) := by
  have hk := (List.getElem?_eq_some_iff.1 hx)
  have hs : ss = ss.take k ++ x :: ss.drop (k + 1) := by
    have h1 := (List.take_append_drop k ss).symm
    rw [List.drop_eq_getElem_cons hk.1, hk.2] at h1
    exact h1
  rw [hs, chainE_app _ _ _ _ (by rw [h]), h, take_len hx]
  show chainE (limK k) l (x :: _) = _
  unfold chainE
  rw [if_neg he]
theorem err_same {lim lim' : Int} {l s : List Int} (h : ∀ i, i < l.length → gd l i ≤ lim ∧ gd l i ≤ lim') : errOf lim l s = errOf lim' l s := by
  have : allOk lim l s = allOk lim' l s := by
    rw [Bool.eq_iff_iff, allOk_iff, allOk_iff]
    constructor
    · intro hh i hi
      have h1 := okM_true.1 (hh i hi)
      have h2 := h i hi
      exact okM_true.2 (by omega)
    · intro hh i hi
      have h1 := okM_true.1 (hh i hi)
      have h2 := h i hi
      exact okM_true.2 (by omega)
  unfold errOf
  rw [this]
theorem deps_bound {lim C : Int} {l s : List Int} (he : errOf lim l s = 0) (hC : 0 ≤ C) (h : ∀ i, i < l.length → gd l i ≤ C) : ∀ i, i < (deps l s l.length).length → gd (deps l s l.length) i ≤ C + 5120000000000 := by
  intro i hi
  rw [deps_len] at hi
  rw [deps_gd _ _ _ _ hi]
  obtain ⟨_, h512, h3, _⟩ := ok_of (err_le he h)
  have := (fr_bounds hC h3 (i + 1) (by omega)).2
  omega
end Pl
/-- The slice at A reads as these slices, which all may be read. -/
def IsSS (w : World) (A : Option Addr) (ss : List (List Int)) : Prop :=
  ss = [] ∨ ∃ b off, A = some ⟨b, off, none⟩ ∧ b < w.heap.size ∧ ∀ (i : Nat) (x : List Int), ss[i]? = some x → ∃ Ai ci, w.cell? ⟨b, off + i, none⟩ = some (.slice Ai x.length ci) ∧ IsSl w Ai .i64 x
theorem IsSS.next {w w' : World} {A : Option Addr} {ss : List (List Int)} (h : IsSS w A ss) (hb : Below w.heap.size w w') : IsSS w' A ss := by
  rcases h with h | ⟨b, off, h1, h2, h3⟩
  · exact .inl h
  · refine .inr ⟨b, off, h1, Nat.lt_of_lt_of_le h2 hb.size, fun i x hx => ?_⟩
    obtain ⟨Ai, ci, hc, hs⟩ := h3 i x hx
    exact ⟨Ai, ci, (hb.cell (p := ⟨b, off + i, none⟩) h2).trans hc, hs.next hb⟩
theorem IsSS.row {w : World} {A : Option Addr} {ss : List (List Int)} (h : IsSS w A ss) : ss.length = 0 ∨ ∃ b off, A = some ⟨b, off, none⟩ ∧ b < w.heap.size ∧ ∀ (i : Nat) (x : List Int), ss[i]? = some x → ∃ Ai ci, w.cell? ⟨b, off + i, none⟩ = some (.slice Ai x.length ci) ∧ IsSl w Ai .i64 x := by
  rcases h with h | h
  · left; rw [h]; rfl
  · exact .inr h
section
attribute [local simp high] guard_bind_iv eql_iv neq_iv
set_option maxHeartbeats 1000000 in
theorem equalIv_same (A B : Option Addr) (c c' : Nat) (l : List (Int × Int)) (w : World) (hS : IsIv w A l) (hS' : IsIv w B l) (hn : l.length ≤ 1000000000) :
    Calls Try.prog 19 #[.slice A l.length c, .slice B l.length c'] w fun e w' => e = .returned (.bool true) ∧ Below w.heap.size w w' := by
  generalize hN : l.length = n at hn ⊢
  have HN := hid hN
  clear hN
  go_enter Try.func19, Try.ntmps19
  go_wp2
  go_loopw [13] (fun i wr => ∃ k : Nat, k ≤ n ∧ i = .int .i64 k ∧ Below w.heap.size w wr) (fun i _ => n - (intOf i).toNat)
  case atStart => exact ⟨0, Nat.zero_le _, rfl, Below.refl _ _⟩
  case round =>
    obtain ⟨k, hk, rfl, hb⟩ := hrel
    by_cases hlt : k < n
    · obtain ⟨⟨x, y⟩, hx⟩ : ∃ x, l[k]? = some x := ⟨l[k]'(by have := HN.out; omega), List.getElem?_eq_getElem _⟩
      rcases (hS.next hb).row with h0 | ⟨bb, off, rfl, hbb', hcell⟩
      · have := HN.out; omega
      · rcases (hS'.next hb).row with h0 | ⟨bc, off', rfl, hbc', hcell'⟩
        · have := HN.out; omega
        · obtain ⟨hc1, hc2⟩ := hcell k _ hx
          obtain ⟨hd1, hd2⟩ := hcell' k _ hx
          simp only at hc1 hc2 hd1 hd2
          clear hx hcell hcell'
          have hi0 : (0 : Int) ≤ (k : Int) := by omega
          have hi1 : (k : Int) < (n : Int) := by omega
          go_wp2_with fail
          go_quiet (fail)
          go_wp2
          exact ⟨⟨k + 1, by omega, by go_num, bdrewN hb nq⟩, by simp [intOf]; omega⟩
    · go_wp2
      go_ret
      exact ⟨rfl, hb⟩
end
set_option maxHeartbeats 1000000 in
theorem chain_any (A B : Option Addr) (a : List Int) (ss : List (List Int)) (c d : Nat) (w : World) (hA : IsSl w A .i64 a) (hB : IsSS w B ss) (hna : a.length ≤ 600) (hss : ss.length ≤ 100) :
    Calls Try.prog 22 #[.slice A a.length c, .slice B ss.length d] w fun e w' => ∃ A' c', e = .returned (.tuple #[.slice A' (Pl.chainOf a ss).1.length c', .int .i64 (Pl.chainOf a ss).2]) ∧ Below w.heap.size w w' ∧ IsSl w' A' .i64 (Pl.chainOf a ss).1 := by
  have hmk := run_make_ints (P := Try.prog) 22 3 .i64 8 Try.underlying22 info_int .i64 .i64 a.length (by omega) (by omega)
  by_cases h16 : 16 < ss.length
  case pos =>
    have hr : Pl.chainOf a ss = ([], 6) := by unfold Pl.chainOf; rw [if_pos h16]
    rw [hr]
    have h16' : (16 : Int) < ss.length := by omega
    clear hmk
    go_enter Try.func22, Try.ntmps22
    go_wp2
    go_ret2
    exact ⟨none, 0, rfl, Below.refl _ _, .inl rfl⟩
  by_cases h0 : ss.length = 0
  case pos =>
    have hz : Pl.zeros a.length = List.replicate a.length 0 := rfl
    have hP := fun (w : World) hA hB => Pass_any A (some ⟨w.heap.size, 0, none⟩) a (Pl.zeros a.length) c a.length (w.alloc (.cells (ints .i64 (List.replicate a.length 0)) 3)) hA hB hna
    have hr : Pl.chainOf a ss = (if Pl.errOf Pl.M a (Pl.zeros a.length) = 0 then (a, 0) else ([], Pl.errOf Pl.M a (Pl.zeros a.length))) := by unfold Pl.chainOf; rw [if_neg h16, if_pos h0]
    have hrL : resL Pl.M a (Pl.zeros a.length) = (Pl.chainOf a ss).1 := by
      rw [hr]; unfold resL
      split
      · next h => exact Pl.deps_zeros h
      · rfl
    have hrE : Pl.errOf Pl.M a (Pl.zeros a.length) = (Pl.chainOf a ss).2 := by
      rw [hr]; split
      · next h => exact h
      · rfl
    rw [hrL, hrE] at hP
    rw [Pl.zeros_len] at hP
    replace hP := hid hP
    rw [h0]
    generalize Pl.chainOf a ss = R at *
    clear hr hrL hrE
    go_enter Try.func22, Try.ntmps22
    go_wp2_with fail
    have B1 := (Below.refl w.heap.size w).alloc (Nat.le_refl _) (.cells (ints .i64 (List.replicate a.length 0)) 3)
    have K1 := Bk.new w 3 (ints .i64 (List.replicate a.length 0))
    refine (hP.out w (hA.next B1) (by rw [hz]; exact K1.sl)).mono ?_
    rintro e w1 ⟨v, rfl, hb, hO⟩
    obtain ⟨A', c', rfl, hS, _⟩ := hO.slice_
    go_wp2
    go_ret2
    exact ⟨A', c', rfl, bup B1 hb (by simp), hS⟩
  have hr : Pl.chainOf a ss = Pl.chainE Pl.M a ss := by unfold Pl.chainOf; rw [if_neg h16, if_neg h0]
  rw [hr]
  clear hmk
  generalize hN : ss.length = n at *
  replace hN := hid hN
  have hnz : ((n : Int) == 0) = false := by rw [beq_eq_false_iff_ne]; omega
  have h16i : (n : Int) ≤ 16 := by omega
  go_enter Try.func22, Try.ntmps22
  go_wp2
  go_loopw [6, 7, 28] (fun v q i wr => ∃ (k : Nat) (l : List Int) (Al : Option Addr) (cl : Nat) (lv : Int), i = .int .i64 k ∧ k ≤ n ∧ Below w.heap.size w wr ∧ v = .slice Al l.length cl ∧ IsSl wr Al .i64 l ∧ l.length ≤ 600 ∧ q = .int .i64 lv ∧ Hid ((if k = 0 then (1125899906842624 : Int) else 9223372036854775807) = lv) ∧ Pl.chainE Pl.M a (ss.take k) = (l, 0) ∧ (k ≠ 0 → ∀ i, i < l.length → Pl.gd l i ≤ 1125899906842624 + (k : Int) * 5120000000000)) (fun _ _ i _ => n - (intOf i).toNat)
  case atStart => exact ⟨0, a, A, c, _, rfl, Nat.zero_le _, Below.refl _ _, rfl, hA, hna, rfl, rfl, rfl, fun h => absurd rfl h⟩
  case round =>
    obtain ⟨k, l, Al, cl, lv, rfl, hk, Br, rfl, hSl, hll, rfl, hlv, hch, hbd⟩ := hrel
    by_cases hkn : k < n
    · obtain ⟨x, hx⟩ : ∃ x, ss[k]? = some x := ⟨_, List.getElem?_eq_getElem (by rw [hN.out]; exact hkn)⟩
      rcases (hB.next Br).row with hz | ⟨b, off, rfl, hb1, hca⟩
      · have := hN.out; omega
      obtain ⟨Ax, cx, f0, hSx⟩ := hca k x hx
      clear hca
      have hks := (List.getElem?_eq_some_iff.1 hx).1
      obtain ⟨lim2, hsame, h2, hlim, hbb⟩ : ∃ lim2 : Int, Pl.errOf lv l x = Pl.errOf (Pl.limK k) l x ∧ (Pl.errOf lv l x = 0 → Pl.errOf lim2 l x = 0) ∧ (0 ≤ lim2 ∧ lim2 ≤ 9000000000000000000) ∧ (Pl.errOf lv l x = 0 → ∀ i, i < (Pl.deps l x l.length).length → Pl.gd (Pl.deps l x l.length) i ≤ 1125899906842624 + ((k + 1 : Nat) : Int) * 5120000000000) := by
        by_cases hk0 : k = 0
        · subst hk0
          obtain rfl : (1125899906842624 : Int) = lv := hlv.out
          refine ⟨1125899906842624, rfl, id, by decide, fun he i hi => ?_⟩
          have := Pl.deps_bound he (C := 1125899906842624) (by decide) (fun i hi => (Pl.okM_true.1 ((Pl.ok_of he).2.2.1 i hi)).2.1) i hi
          omega
        · have hb := hbd hk0
          have hk16 : (k : Int) ≤ 16 := by omega
          obtain rfl : (9223372036854775807 : Int) = lv := by have := hlv.out; rw [if_neg hk0] at this; exact this
          refine ⟨1125899906842624 + (k : Int) * 5120000000000, ?_, fun he => Pl.err_le he hb, by omega, fun he i hi => ?_⟩
          · unfold Pl.limK
            rw [if_neg hk0]
            refine Pl.err_same fun i hi => ?_
            have := hb i hi
            simp only [Pl.M]
            omega
          · have := Pl.deps_bound he (C := 1125899906842624 + (k : Int) * 5120000000000) (by omega) hb i hi
            omega
      have CP := hid (pass_any Al Ax l x cl cx lv lim2 wr hSl hSx hll h2 hlim)
      have hnx := fun he => Pl.chain_next hx hch he
      have hfl := fun he => Pl.chain_fail hx hch he
      have hrL : resL lv l x = if Pl.errOf lv l x = 0 then Pl.deps l x l.length else [] := rfl
      rw [← hsame] at hnx hfl
      clear hlv h2 hlim hbd hsame hx hch hSl hSx
      generalize Pl.errOf lv l x = ev at *
      replace hnx := hid hnx
      replace hfl := hid hfl
      replace hbb := hid hbb
      replace hrL := hid hrL
      have hxl := hid (rfl : x.length = x.length)
      generalize x.length = xn at *
      go_wp2_with fail
      refine CP.out.mono ?_
      rintro e w2 ⟨v2, rfl, hb2, hO⟩
      clear CP
      have hbt := bstep Br hb2
      by_cases he : ev = 0
      · subst he
        rw [hrL.out, if_pos rfl] at hO
        obtain ⟨A2, c2, rfl, hS2, _⟩ := hO.slice_
        clear hO
        have hdl := Pl.deps_len l x l.length
        replace hdl := hid hdl
        go_wp2
        go_roundw
        case rel => exact ⟨k + 1, _, A2, c2, _, by simp, by omega, hbt, rfl, hS2, by rw [hdl.out]; exact hll, rfl, by unfold Hid; rw [if_neg (by omega)], hnx.out trivial, fun _ => hbb.out trivial⟩
        case measure => simp [intOf]; omega
      · rw [hrL.out, if_neg he] at hO
        obtain ⟨A2, c2, rfl, hS2, _⟩ := hO.slice_
        go_wp2
        go_ret2
        rw [hfl.out he]
        exact ⟨none, 0, rfl, hbt, .inl rfl⟩
    · have hkn2 : k = n := by omega
      subst hkn2
      have htk : ss.take k = ss := by rw [← hN.out, List.take_length]
      rw [htk] at hch
      replace hch := hid hch
      go_wp2
      go_ret2
      rw [hch.out]
      exact ⟨Al, cl, rfl, Br, hSl⟩
end Go.Proofs.Ytpmndpbaigcaeaa
