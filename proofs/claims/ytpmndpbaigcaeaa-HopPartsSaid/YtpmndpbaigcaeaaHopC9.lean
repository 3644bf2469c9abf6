/- The contract of Chain of the reference of package hop. -/
import Derived.Test.YtpmndpbaigcaeaaHopC8
namespace Go.Proofs.Ytpmndpbaigcaeaa
open Go Go.RowKit
theorem limK_le (k : Nat) : 0 ≤ Pl.limK k ∧ Pl.limK k ≤ 9000000000000000000 := by
  unfold Pl.limK; split <;> decide
set_option maxHeartbeats 2000000 in
theorem refChain_any (A B : Option Addr) (a : List Int) (ss : List (List Int)) (c d : Nat) (w : World) (hA : IsSl w A .i64 a) (hB : IsSS w B ss) (hna : a.length ≤ 600) (hss : ss.length ≤ 100) :
    Calls Try.prog 23 #[.slice A a.length c, .slice B ss.length d] w fun e w' => ∃ A' c', e = .returned (.tuple #[.slice A' (Pl.chainOf a ss).1.length c', .int .i64 (Pl.chainOf a ss).2]) ∧ Below w.heap.size w w' ∧ IsSl w' A' .i64 (Pl.chainOf a ss).1 := by
  have hmk := run_make_ints (P := Try.prog) 22 3 .i64 8 Try.underlying22 info_int .i64 .i64 a.length (by omega) (by omega)
  by_cases h16 : 16 < ss.length
  case pos =>
    have hr : Pl.chainOf a ss = ([], 6) := by unfold Pl.chainOf; rw [if_pos h16]
    rw [hr]
    have h16' : (16 : Int) < ss.length := by omega
    clear hmk
    go_enter Try.func23, Try.ntmps23
    go_wp2
    go_ret2
    exact ⟨none, 0, rfl, Below.refl _ _, .inl rfl⟩
  have B1 := (Below.refl w.heap.size w).alloc (Nat.le_refl _) (.cells (ints .i64 (List.replicate a.length 0)) 3)
  have K1 := Bk.new w 3 (ints .i64 (List.replicate a.length 0))
  have CZ := refCheck_any A (some ⟨w.heap.size, 0, none⟩) a (Pl.zeros a.length) c a.length Pl.M (w.alloc (.cells (ints .i64 (List.replicate a.length 0)) 3)) (hA.next B1) K1.sl hna
  rw [Pl.zeros_len] at CZ
  replace CZ := hid CZ
  clear K1
  have hs1 : (w.alloc (.cells (ints .i64 (List.replicate a.length 0)) 3)).heap.size = w.heap.size + 1 := by simp
  have hr0 : ss.length = 0 → Pl.chainOf a ss = (if Pl.errOf Pl.M a (Pl.zeros a.length) = 0 then (a, 0) else ([], Pl.errOf Pl.M a (Pl.zeros a.length))) := fun h0 => by unfold Pl.chainOf; rw [if_neg h16, if_pos h0]
  have hr1 : ss.length ≠ 0 → Pl.chainOf a ss = Pl.chainE Pl.M a ss := fun h0 => by unfold Pl.chainOf; rw [if_neg h16, if_neg h0]
  generalize hev : Pl.errOf Pl.M a (Pl.zeros a.length) = ev at *
  generalize Pl.chainOf a ss = R at *
  replace hev := hid hev
  replace hr0 := hid hr0
  replace hr1 := hid hr1
  generalize hN : ss.length = n at *
  replace hN := hid hN
  have h16i : ((16 : Int) < n) = False := eq_false (by omega)
  by_cases h0 : n = 0
  · subst h0
    go_enter Try.func23, Try.ntmps23
    go_wp2_with fail
    generalize w.alloc (.cells (ints .i64 (List.replicate a.length 0)) 3) = w0 at *
    refine CZ.out.mono ?_
    rintro e w1 ⟨rfl, hb⟩
    have hb1 := bup B1 hb (by omega)
    clear hb B1 CZ
    by_cases he : ev = 0
    case neg =>
      go_wp2
      go_ret2
      have e1 := hr0.out trivial
      rw [if_neg he] at e1
      rw [e1]
      exact ⟨none, 0, rfl, hb1, .inl rfl⟩
    subst he
    have hR : Pl.chainE Pl.M a ss = R := by
      have e1 := hr0.out trivial
      rw [if_pos rfl] at e1
      rw [e1]
      have : ss = [] := List.eq_nil_of_length_eq_zero hN.out
      rw [this]; rfl
    replace hR := hid hR
    clear hr0 hr1 hmk
    have O1 := Own.empty (k := .i64) (Bk.new w1 3 #[]) hb1.size
    have B2 := hb1.alloc hb1.size (.cells #[] 3)
    have hA2 := (hA.next hb1).next ((Below.refl _ _).alloc (Nat.le_refl _) (.cells #[] 3))
    have hsz := hb1.size
    go_wp2_with (at_builtin; refine wpList_app_ints rfl (.tmp 27) (.tmp 28) 22 rfl w.heap.size 3 .i64 8 Try.underlying22 info_int _ [] rfl O1 A c a rfl hA2 (by simp only [maxLen, List.length_nil]; omega) (by simp only [List.length_nil]; omega) (by simp; omega) ?_; intro v1 w2 O2 hb2 hg2 hat2)
    obtain ⟨Al, cl, rfl, hS2, _⟩ := O2.slice_
    simp only [List.nil_append] at hS2 ⊢
    have B3 := B2.trans hb2
    clear O1 O2 B2 hb2 hg2 hat2 hA2 hb1
    go_loopw [7, 8, 9] (fun v q i wr => ∃ (k : Nat) (l : List Int) (Al : Option Addr) (cl : Nat) (lv : Int), i = .int .i64 k ∧ k ≤ 0 ∧ Below w.heap.size w wr ∧ v = .slice Al l.length cl ∧ IsSl wr Al .i64 l ∧ l.length ≤ 600 ∧ q = .int .i64 lv ∧ Hid (Pl.limK k = lv) ∧ Pl.chainE Pl.M a (ss.take k) = (l, 0)) (fun _ _ i _ => 0 - (intOf i).toNat)
    case atStart => exact ⟨0, a, Al, cl, _, rfl, Nat.zero_le _, B3, rfl, hS2, hna, rfl, rfl, rfl⟩
    case round =>
      obtain ⟨k, l, Al, cl, lv, rfl, hk, Br, rfl, hSl, hll, rfl, hlv, hch⟩ := hrel
      clear B3 hS2
      by_cases hkn : k < 0
      · exact absurd hkn (Nat.not_lt_zero k)
      · have hkn2 : k = 0 := by omega
        subst hkn2
        have htk : ss.take 0 = ss := by rw [← hN.out, List.take_length]
        rw [htk, hR.out] at hch
        replace hch := hid hch
        go_wp2
        go_ret2
        rw [hch.out]
        exact ⟨Al, cl, rfl, Br, hSl⟩
  · have hnz : ((n : Int) == 0) = false := by rw [beq_eq_false_iff_ne]; omega
    go_enter Try.func23, Try.ntmps23
    go_wp2_with fail
    generalize w.alloc (.cells (ints .i64 (List.replicate a.length 0)) 3) = w0 at *
    refine CZ.out.mono ?_
    rintro e w1 ⟨rfl, hb⟩
    have hb1 := bup B1 hb (by omega)
    clear hb B1 CZ
    have hR : Pl.chainE Pl.M a ss = R := (hr1.out h0).symm
    replace hR := hid hR
    clear hr0 hr1 hmk
    have O1 := Own.empty (k := .i64) (Bk.new w1 3 #[]) hb1.size
    have B2 := hb1.alloc hb1.size (.cells #[] 3)
    have hA2 := (hA.next hb1).next ((Below.refl _ _).alloc (Nat.le_refl _) (.cells #[] 3))
    have hsz := hb1.size
    go_wp2_with (at_builtin; refine wpList_app_ints rfl (.tmp 27) (.tmp 28) 22 rfl w.heap.size 3 .i64 8 Try.underlying22 info_int _ [] rfl O1 A c a rfl hA2 (by simp only [maxLen, List.length_nil]; omega) (by simp only [List.length_nil]; omega) (by simp; omega) ?_; intro v1 w2 O2 hb2 hg2 hat2)
    obtain ⟨Al, cl, rfl, hS2, _⟩ := O2.slice_
    simp only [List.nil_append] at hS2 ⊢
    have B3 := B2.trans hb2
    clear O1 O2 B2 hb2 hg2 hat2 hA2 hb1
    go_loopw [7, 8, 9] (fun v q i wr => ∃ (k : Nat) (l : List Int) (Al : Option Addr) (cl : Nat) (lv : Int), i = .int .i64 k ∧ k ≤ n ∧ Below w.heap.size w wr ∧ v = .slice Al l.length cl ∧ IsSl wr Al .i64 l ∧ l.length ≤ 600 ∧ q = .int .i64 lv ∧ Hid (Pl.limK k = lv) ∧ Pl.chainE Pl.M a (ss.take k) = (l, 0)) (fun _ _ i _ => n - (intOf i).toNat)
    case atStart => exact ⟨0, a, Al, cl, _, rfl, Nat.zero_le _, B3, rfl, hS2, hna, rfl, rfl, rfl⟩
    case round =>
      obtain ⟨k, l, Al, cl, lv, rfl, hk, Br, rfl, hSl, hll, rfl, hlv, hch⟩ := hrel
      clear B3 hS2
      by_cases hkn : k < n
      · obtain ⟨x, hx⟩ : ∃ x, ss[k]? = some x := ⟨_, List.getElem?_eq_getElem (by rw [hN.out]; exact hkn)⟩
        rcases (hB.next Br).row with hz | ⟨b, off, rfl, hb1, hca⟩
        · have := hN.out; omega
        obtain ⟨Ax, cx, f0, hSx⟩ := hca k x hx
        have hnx := fun he => Pl.chain_next hx hch he
        have hfl := fun he => Pl.chain_fail hx hch he
        have hlim := limK_le k
        rw [hlv.out] at hnx hfl hlim
        have CK := hid (refCheck_any Al Ax l x cl cx lv wr hSl hSx hll)
        have CP := hid (fun (w : World) h1 h2 he => refPass_any Al Ax l x cl cx lv w h1 h2 he hlim)
        generalize Pl.errOf lv l x = ex at *
        have hdl := hid (Pl.deps_len l x l.length)
        replace hnx := hid hnx
        replace hfl := hid hfl
        clear hca hx hch hlv hlim
        generalize x.length = xn at *
        go_wp2_with fail
        refine CK.out.mono ?_
        rintro e w3 ⟨rfl, hb3⟩
        have Br3 := bstep Br hb3
        clear CK
        by_cases hex : ex = 0
        · have f0' := (hb3.cell (p := ⟨b, off + k, none⟩) hb1).trans f0
          have CPP := hid (CP.out w3 (hSl.next hb3) (hSx.next hb3) hex)
          subst hex
          have hnx0 := hid (hnx.out rfl)
          clear hnx hfl CP
          go_wp2_with fail
          refine CPP.out.mono ?_
          rintro e w4 ⟨v4, rfl, hb4, O4⟩
          obtain ⟨A4, c4, rfl, hS4, _⟩ := O4.slice_
          clear CPP O4
          go_wp2
          go_roundw
          case rel => exact ⟨k + 1, _, A4, c4, _, by simp, by omega, bstep Br3 hb4, rfl, hS4, by rw [hdl.out]; exact hll, rfl, by unfold Hid Pl.limK; rw [if_neg (by omega)]; rfl, hnx0.out⟩
          case measure => simp [intOf]; omega
        · go_wp2
          go_ret2
          have e1 := hfl.out hex
          rw [hR.out] at e1
          rw [e1]
          exact ⟨none, 0, rfl, Br3, .inl rfl⟩
      · have hkn2 : k = n := by omega
        subst hkn2
        have htk : ss.take k = ss := by rw [← hN.out, List.take_length]
        rw [htk, hR.out] at hch
        replace hch := hid hch
        go_wp2
        go_ret2
        rw [hch.out]
        exact ⟨Al, cl, rfl, Br, hSl⟩
end Go.Proofs.Ytpmndpbaigcaeaa
