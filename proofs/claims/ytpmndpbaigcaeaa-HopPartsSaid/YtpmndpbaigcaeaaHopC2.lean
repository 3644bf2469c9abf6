/- The contract of serve of package hop, whatever it calls back. -/
import Derived.Test.YtpmndpbaigcaeaaHopC1
import Derived.Test.YtpmndpbaigcaeaaInts
import Derived.Test.YtpmndpbaigcaeaaOwn
import Derived.Laws.EntriesVeiled
namespace Go.Proofs.Ytpmndpbaigcaeaa
open Go Go.RowKit
set_option maxHeartbeats 1000000 in
theorem serve_any (A B : Option Addr) (a s : List Int) (c d : Nat) (f : Nat) (caps : Array Value) (lim : Int) (w : World) (Inv : Nat → World → Prop) (hf : ∀ (args : Array Value) (w : World), (callFunc f args).run Try.prog w = .ok (.enter f args) w) (he : Pl.errOf lim a s = 0) (hlim : 0 ≤ lim ∧ lim ≤ 9000000000000000000)
    (h0 : Inv 0 w) (hsl : ∀ k wr, Inv k wr → IsSl wr A .i64 a ∧ IsSl wr B .i64 s)
    (hstep : ∀ k wr, k < a.length → Inv k wr → Calls Try.prog f (#[.int .i64 k, .int .i64 (Pl.fr a s (k + 1))] ++ caps) wr fun e w' => e = .returned (.tuple #[]) ∧ Inv (k + 1) w') :
    Calls Try.prog 28 #[.slice A a.length c, .slice B s.length d, .func (.func f) #[] caps] w fun e w' => e = .returned (.tuple #[]) ∧ Inv a.length w' := by
  obtain ⟨hlen, h512, h3, h4⟩ := Pl.ok_of he
  rw [← hlen]
  have hfb := Pl.fr_bounds hlim.1 h3
  generalize hN : a.length = n at *
  replace hN := hid hN
  replace hlen := hid hlen
  replace h3 := hid h3
  replace hfb := hid hfb
  replace hstep := hid hstep
  replace hsl := hid hsl
  replace he := hid he
  clear h4
  go_enter Try.func28, Try.ntmps28
  go_wp2
  go_loopw [6, 11] (fun p i wr => ∃ k : Nat, i = .int .i64 k ∧ k ≤ n ∧ p = .int .i64 (Pl.fr a s k) ∧ Inv k wr) (fun _ i _ => n - (intOf i).toNat)
  case atStart => exact ⟨0, rfl, Nat.zero_le _, rfl, h0⟩
  case round =>
    obtain ⟨k, rfl, hk, rfl, hI⟩ := hrel
    by_cases hkn : k < n
    · obtain ⟨x, hx⟩ : ∃ x, a[k]? = some x := ⟨_, List.getElem?_eq_getElem (by rw [hN.out]; exact hkn)⟩
      obtain ⟨y, hy⟩ : ∃ y, s[k]? = some y := ⟨_, List.getElem?_eq_getElem (by rw [← hlen.out]; exact hkn)⟩
      have ea := Pl.gd_some hx
      have es := Pl.gd_some hy
      have hok := Pl.okM_true.1 (h3.out k hkn)
      rw [ea, es] at hok
      obtain ⟨x0, x1, y0, y1⟩ := hok
      obtain ⟨p0, p1⟩ := hfb.out k hk
      have hfs := Pl.fr_succ a s k
      rw [ea, es] at hfs
      have hst := hstep.out k wr hkn hI
      obtain ⟨hA, hB⟩ := hsl.out k wr hI
      rcases hA.row with h0 | ⟨b, off, rfl, hb, hca⟩
      · have := hN.out; omega
      rcases hB.row with h0 | ⟨b', off', rfl, hb', hcb⟩
      · have := hlen.out; omega
      have f0 := hca k x hx
      have f1 := hcb k y hy
      clear hx hy hca hcb hA hB hI
      generalize hq : Pl.fr a s (k + 1) = q at *
      replace hq := hid hq
      generalize Pl.fr a s k = p at *
      replace hst := hid hst
      by_cases hxp : x < p
      · rw [if_pos hxp] at hfs
        replace hfs := hid hfs
        go_wp2_with fail
        rw [hfs.out] at hst
        refine hst.out.mono ?_
        rintro e w2 ⟨rfl, hI2⟩
        go_wp2
        go_roundw
        case rel => exact ⟨k + 1, by simp, by omega, by rw [hq.out, hfs.out], hI2⟩
        case measure => simp [intOf]; omega
      · rw [if_neg hxp] at hfs
        replace hfs := hid hfs
        go_wp2_with fail
        rw [hfs.out] at hst
        refine hst.out.mono ?_
        rintro e w2 ⟨rfl, hI2⟩
        go_wp2
        go_roundw
        case rel => exact ⟨k + 1, by simp, by omega, by rw [hq.out, hfs.out], hI2⟩
        case measure => simp [intOf]; omega
    · have hkn2 : k = n := by omega
      subst hkn2
      go_wp2
      go_end0
      exact ⟨rfl, hI⟩
end Go.Proofs.Ytpmndpbaigcaeaa
