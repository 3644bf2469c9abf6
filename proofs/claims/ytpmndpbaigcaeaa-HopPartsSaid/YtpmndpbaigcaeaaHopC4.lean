/- The contracts of pass and Pass of the reference of package hop. -/
import Derived.Test.YtpmndpbaigcaeaaHopC3
namespace Go.Proofs.Ytpmndpbaigcaeaa
open Go Go.RowKit
theorem Own.drewN {w : World} {B : Nat} {e : TypeId} {k : IntKind} {v : Value} {xs : List Int} (h : Own w B e k v xs) (n : Nat) : Own (w.drewN n) B e k v xs := h
set_option maxHeartbeats 1000000 in
theorem refPass_any (A B : Option Addr) (a s : List Int) (c d : Nat) (lim : Int) (w : World) (hA : IsSl w A .i64 a) (hB : IsSl w B .i64 s) (he : Pl.errOf lim a s = 0) (hlim : 0 ≤ lim ∧ lim ≤ 9000000000000000000) :
    Calls Try.prog 26 #[.slice A a.length c, .slice B s.length d] w fun e w' => ∃ v, e = .returned v ∧ Below w.heap.size w w' ∧ Own w' w.heap.size 3 .i64 v (Pl.deps a s a.length) := by
  obtain ⟨hlen, h512, h3, h4⟩ := Pl.ok_of he
  rw [← hlen]
  have hfb := Pl.fr_bounds hlim.1 h3
  generalize hN : a.length = n at *
  replace hN := hid hN
  replace hlen := hid hlen
  replace h3 := hid h3
  replace hfb := hid hfb
  replace he := hid he
  clear h4
  go_enter Try.func26, Try.ntmps26
  go_wp2
  go_loopw [5, 6, 7] (fun v p i wr => ∃ k : Nat, i = .int .i64 k ∧ k ≤ n ∧ p = .int .i64 (Pl.fr a s k) ∧ Below w.heap.size w wr ∧ Own wr w.heap.size 3 .i64 v (Pl.deps a s k)) (fun _ _ i _ => n - (intOf i).toNat)
  case atStart => exact ⟨0, rfl, Nat.zero_le _, rfl, Below.refl _ _, Own.nil_ _ _ _ _⟩
  case round =>
    obtain ⟨k, rfl, hk, rfl, Br, Or⟩ := hrel
    by_cases hkn : k < n
    · obtain ⟨x, hx⟩ : ∃ x, a[k]? = some x := ⟨_, List.getElem?_eq_getElem (by rw [hN.out]; exact hkn)⟩
      obtain ⟨y, hy⟩ : ∃ y, s[k]? = some y := ⟨_, List.getElem?_eq_getElem (by rw [← hlen.out]; exact hkn)⟩
      have ea := Pl.gd_some hx
      have es := Pl.gd_some hy
      have hok := Pl.okM_true.1 (h3.out k hkn)
      rw [ea, es] at hok
      obtain ⟨x0, x1, y0, y1⟩ := hok
      obtain ⟨p0, p1⟩ := hfb.out k hk
      have hfs := Pl.fr_succ a s k
      rw [ea, es] at hfs
      have hds := Pl.deps_succ a s k
      rcases hA.row with h0 | ⟨b, off, rfl, hb, hca⟩
      · have := hN.out; omega
      rcases hB.row with h0 | ⟨b', off', rfl, hb', hcb⟩
      · have := hlen.out; omega
      have f0 := (Br.cell (p := ⟨b, off + k, none⟩) hb).trans (hca k x hx)
      have f1 := (Br.cell (p := ⟨b', off' + k, none⟩) hb').trans (hcb k y hy)
      clear hx hy hca hcb hA hB
      generalize hq : Pl.fr a s (k + 1) = q at *
      generalize Pl.fr a s k = p at *
      replace hq := hid hq
      replace hds := hid hds
      have hsz := Br.size
      by_cases hxp : x < p
      · rw [if_pos hxp] at hfs
        replace hfs := hid hfs
        go_wp2_with fail
        go_quiet (fail)
        have O2 := Or.drewN nq
        have B2 := bdrewN Br nq
        have hsz2 := B2.size
        generalize wr.drewN nq = w2 at *
        clear f0 f1 Or Br
        go_wp2_with (at_builtin; refine wpList_app_ints rfl (.tmp 25) (.tmp 27) 22 rfl w.heap.size 3 .i64 8 Try.underlying22 info_int u5 (Pl.deps a s k) rfl (O2.alloc (.cells #[.int .i64 (p + y)] 3)) (some ⟨w2.heap.size, 0, none⟩) 1 [(p + y)] rfl (IsSl.of_bk [(p + y)] (Bk.new w2 3 #[.int .i64 (p + y)]) rfl) (by simp only [maxLen, Pl.deps_len, List.length_cons, List.length_nil]; omega) (by simp only [Pl.deps_len, List.length_cons, List.length_nil]; omega) (by simp; omega) ?_; intro v3 w3 O3 hb3 hg3 hat3)
        go_roundw
        case rel => exact ⟨k + 1, by simp, by omega, by rw [hq.out, hfs.out], (B2.alloc hsz2 _).trans hb3, by rw [hds.out, hfs.out]; exact O3⟩
        case measure => simp [intOf]; omega
      · rw [if_neg hxp] at hfs
        replace hfs := hid hfs
        go_wp2_with fail
        go_quiet (fail)
        have O2 := Or.drewN nq
        have B2 := bdrewN Br nq
        have hsz2 := B2.size
        generalize wr.drewN nq = w2 at *
        clear f0 f1 Or Br
        go_wp2_with (at_builtin; refine wpList_app_ints rfl (.tmp 25) (.tmp 27) 22 rfl w.heap.size 3 .i64 8 Try.underlying22 info_int u5 (Pl.deps a s k) rfl (O2.alloc (.cells #[.int .i64 (x + y)] 3)) (some ⟨w2.heap.size, 0, none⟩) 1 [(x + y)] rfl (IsSl.of_bk [(x + y)] (Bk.new w2 3 #[.int .i64 (x + y)]) rfl) (by simp only [maxLen, Pl.deps_len, List.length_cons, List.length_nil]; omega) (by simp only [Pl.deps_len, List.length_cons, List.length_nil]; omega) (by simp; omega) ?_; intro v3 w3 O3 hb3 hg3 hat3)
        go_roundw
        case rel => exact ⟨k + 1, by simp, by omega, by rw [hq.out, hfs.out], (B2.alloc hsz2 _).trans hb3, by rw [hds.out, hfs.out]; exact O3⟩
        case measure => simp [intOf]; omega
    · have hkn2 : k = n := by omega
      subst hkn2
      go_wp2
      go_ret
      exact ⟨_, rfl, Br, Or⟩
end Go.Proofs.Ytpmndpbaigcaeaa
