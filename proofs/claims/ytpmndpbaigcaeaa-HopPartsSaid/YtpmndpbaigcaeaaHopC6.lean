/- The contract of Waits of the reference of package hop. -/
import Derived.Test.YtpmndpbaigcaeaaHopC5
namespace Go.Proofs.Ytpmndpbaigcaeaa
open Go Go.RowKit
theorem Own.at_ {w : World} {B : Nat} {e : TypeId} {k : IntKind} {v : Value} {xs : List Int} (h : Own w B e k v xs) (hn : 0 < xs.length) : ∃ g cap, v = .slice (some ⟨g, 0, none⟩) xs.length cap ∧ B ≤ g := by
  obtain ⟨_, h⟩ := h
  rcases h with ⟨_, h0⟩ | ⟨g, cap, cur, hv, hg, r⟩
  · omega
  · exact ⟨g, cap, hv, hg⟩
theorem Own.store {w : World} {B : Nat} {e : TypeId} {k : IntKind} {g n cap : Nat} {xs : List Int} (h : Own w B e k (.slice (some ⟨g, 0, none⟩) n cap) xs) (i : Nat) (x : Int) :
    w.frozen? ⟨g, i, none⟩ = false ∧ B ≤ g ∧ Own (w.setCell ⟨g, i, none⟩ (.int k x)) B e k (.slice (some ⟨g, 0, none⟩) n cap) (xs.set i x) := by
  obtain ⟨hl, h⟩ := h
  rcases h with ⟨h0, _⟩ | ⟨g', cap', cur, hv, hg, hh, hn, hc, hs, ht⟩
  · cases h0
  · cases hv
    refine ⟨Bk.free (t := e) hh i, hg, by simp, .inr ⟨g, cap, cur.setIfInBounds i (.int k x), by simp, hg, Bk.put (t := e) hh i _, by simpa using hn, hc, by simpa using hs, ?_⟩⟩
    simp only [List.length_set]
    rw [List.map_set, ← ht, Array.toList_setIfInBounds, List.take_set]
/-- Waits, the first k of them, then departures. -/
def mixW (a s : List Int) (n k : Nat) : List Int := (List.range n).map fun i => if i < k then Pl.wt a s i else Pl.fr a s (i + 1)
theorem mixW_len (a s : List Int) (n k : Nat) : (mixW a s n k).length = n := by unfold mixW; simp
theorem mixW_get (a s : List Int) (n k : Nat) (h : k < n) : (mixW a s n k)[k]? = some (Pl.fr a s (k + 1)) := by unfold mixW; simp [h]
theorem mixW_next (a s : List Int) (n k : Nat) : (mixW a s n k).set k (Pl.wt a s k) = mixW a s n (k + 1) := by
  apply List.ext_getElem?
  intro i
  unfold mixW
  by_cases hik : k = i
  · subst hik
    by_cases hk : k < n
    · rw [List.getElem?_set_self (by simpa using hk)]; simp [hk]
    · rw [List.getElem?_eq_none (by simp; omega), List.getElem?_eq_none (by simp; omega)]
  · rw [List.getElem?_set_ne hik]
    by_cases hi : i < n
    · simp only [List.getElem?_map, List.getElem?_range hi, Option.map_some]
      congr 1
      by_cases h1 : i < k
      · rw [if_pos h1, if_pos (by omega)]
      · rw [if_neg h1, if_neg (by omega)]
    · rw [List.getElem?_eq_none (by simp; omega), List.getElem?_eq_none (by simp; omega)]
theorem mixW_zero (a s : List Int) (n : Nat) : mixW a s n 0 = Pl.deps a s n := by unfold mixW Pl.deps; simp
theorem mixW_all (a s : List Int) (n : Nat) : mixW a s n n = Pl.waits a s n := by
  unfold mixW Pl.waits
  apply List.map_congr_left
  intro i hi
  rw [if_pos (List.mem_range.1 hi)]
set_option maxHeartbeats 1000000 in
theorem refWaits_any (A B : Option Addr) (a s : List Int) (c d : Nat) (w : World) (hA : IsSl w A .i64 a) (hB : IsSl w B .i64 s) (hna : a.length ≤ 600) :
    Calls Try.prog 15 #[.slice A a.length c, .slice B s.length d] w fun e w' => ∃ v, e = .returned (.tuple #[v, .int .i64 (Pl.errOf Pl.M a s)]) ∧ Below w.heap.size w w' ∧ Own w' w.heap.size 3 .i64 v (resW a s) := by
  have CP := hid (refPassT_any A B a s c d w hA hB hna)
  have hrL : resL Pl.M a s = if Pl.errOf Pl.M a s = 0 then Pl.deps a s a.length else [] := rfl
  have hrW : resW a s = if Pl.errOf Pl.M a s = 0 then Pl.waits a s a.length else [] := rfl
  generalize hE : Pl.errOf Pl.M a s = ev at *
  replace hE := hid hE
  go_enter Try.func15, Try.ntmps15
  go_wp2_with fail
  refine CP.out.mono ?_
  rintro e w1 ⟨v, rfl, hb, hO⟩
  clear CP
  rw [hrL] at hO
  clear hrL
  by_cases he : ev = 0
  case neg =>
    go_wp2
    go_ret2
    refine ⟨.slice none 0 0, rfl, hb, ?_⟩
    rw [hrW, if_neg he]
    exact Own.nil_ _ _ _ _
  rw [if_pos he] at hO
  subst he
  rw [if_pos rfl] at hrW
  replace hrW := hid hrW
  obtain ⟨hlen, h512, h3, h4⟩ := Pl.ok_of hE.out
  replace hlen := hid hlen
  replace h3 := hid h3
  clear h4
  have hfl := hid (fun k hk => fr_le hE.out k hk)
  by_cases hn0 : a.length = 0
  · have hd : Pl.deps a s a.length = [] := by rw [hn0]; rfl
    have hw : Pl.waits a s a.length = [] := by rw [hn0]; rfl
    rw [hd] at hO
    rw [hw] at hrW
    obtain ⟨A', c', rfl, _, _⟩ := hO.slice_
    simp only [List.length_nil] at hO
    go_wp2
    go_loopw [8] (fun i wr => i = .int .i64 0 ∧ wr = w1) (fun _ _ => 0)
    case atStart => exact ⟨rfl, rfl⟩
    case round =>
      obtain ⟨rfl, rfl⟩ := hrel
      go_wp2
      go_ret2
      exact ⟨_, rfl, hb, by rw [hrW.out]; exact hO⟩
  · obtain ⟨g, cap, rfl, hg⟩ := hO.at_ (by rw [Pl.deps_len]; omega)
    rw [Pl.deps_len] at hO ⊢
    rw [← mixW_zero] at hO
    generalize hN : a.length = n at *
    replace hN := hid hN
    go_wp2
    go_loopw [8] (fun i wr => ∃ k : Nat, i = .int .i64 k ∧ k ≤ n ∧ Below w.heap.size w wr ∧ Own wr w.heap.size 3 .i64 (.slice (some ⟨g, 0, none⟩) n cap) (mixW a s n k)) (fun i _ => n - (intOf i).toNat)
    case atStart => exact ⟨0, rfl, Nat.zero_le _, hb, hO⟩
    case round =>
      obtain ⟨k, rfl, hk, Br, Or⟩ := hrel
      clear hO hb
      by_cases hkn : k < n
      · have hx := Pl.gd_get (l := a) (k := k) (by rw [hN.out]; exact hkn)
        have hy := Pl.gd_get (l := s) (k := k) (by rw [← hlen.out]; exact hkn)
        have hok := Pl.okM_true.1 (h3.out k hkn)
        obtain ⟨x0, x1, y0, y1⟩ := hok
        replace x1 : Pl.gd a k ≤ 1125899906842624 := x1
        obtain ⟨p0, p1⟩ := hfl.out (k + 1) (by omega)
        have hm := mixW_get a s n k hkn
        obtain ⟨A', c', hv, hSl, _⟩ := Or.slice_
        rw [mixW_len] at hv
        cases hv
        rcases hSl.row with h0 | ⟨b2, off2, hA2, hb2, hcc⟩
        · rw [mixW_len] at h0; omega
        cases hA2
        have cc := hcc k _ hm
        simp only [Nat.zero_add] at cc
        obtain ⟨fz, _, On⟩ := Or.store k (Pl.wt a s k)
        rw [mixW_next] at On
        have hwt : Pl.wt a s k = Pl.fr a s (k + 1) - Pl.gd s k - Pl.gd a k := rfl
        rw [hwt] at On
        rcases hA.row with h0 | ⟨b, off, rfl, hb, hca⟩
        · have := hN.out; omega
        rcases hB.row with h0 | ⟨b', off', rfl, hb', hcb⟩
        · have := hlen.out; have := hN.out; omega
        have f0 := (Br.cell (p := ⟨b, off + k, none⟩) hb).trans (hca k _ hx)
        have f1 := (Br.cell (p := ⟨b', off' + k, none⟩) hb').trans (hcb k _ hy)
        have hks : k < s.length := by rw [← hlen.out]; exact hkn
        clear hx hy hca hcb hA hB hm hSl Or hcc
        generalize Pl.fr a s (k + 1) = q at *
        generalize Pl.gd a k = x at *
        generalize Pl.gd s k = y at *
        replace On := hid On
        clear hwt
        go_wp2_with fail
        go_region
        go_wp2
        go_roundw
        case rel => exact ⟨k + 1, by simp, by omega, (Br.setCell (by dsimp only; exact hg) _).drew, On.out.drew⟩
        case measure => simp [intOf]; omega
      · have hkn2 : k = n := by omega
        subst hkn2
        go_wp2
        go_ret2
        exact ⟨_, rfl, Br, by rw [hrW.out, ← mixW_all]; exact Or⟩
end Go.Proofs.Ytpmndpbaigcaeaa
