/- The contract of Make of package chain. -/
import Derived.Test.YtmegiodajkeahaaDoorChK2
namespace Go.Proofs.YtmegiodajkeahaaDoor
open Go Go.RowKit
namespace Pl
/-- The last key of a chain. -/
def lastK (seed : Int) (n : Nat) : Int × Int := (mix seed (n : Int), mix seed ((n : Int) + 4294967296))
/-- The keys from k on are laid. -/
def partK (last : Int × Int) (n k : Nat) : List (Int × Int) := List.replicate k (0, 0) ++ (keysL last n).drop k
theorem partK_get (last : Int × Int) (n m : Nat) (h : m < n) : (partK last n (m + 1))[m + 1]? = some (dnN last (n - (m + 1))) := by
  unfold partK
  rw [List.getElem?_append_right (by simp)]
  simp only [List.length_replicate, Nat.sub_self, List.getElem?_drop, Nat.add_zero]
  exact keysL_get _ _ _ (by omega)
theorem drop_keys (last : Int × Int) (n m : Nat) (h : m ≤ n) : (keysL last n).drop m = dnN last (n - m) :: (keysL last n).drop (m + 1) := by
  have hl : m < (keysL last n).length := by rw [keysL_len]; omega
  rw [List.drop_eq_getElem_cons hl]
  congr 1
  have := keysL_get last n m h
  rw [List.getElem?_eq_getElem hl] at this
  exact Option.some.inj this
theorem partK_set (last : Int × Int) (n m : Nat) (h : m < n) : (partK last n (m + 1)).set m (dn (dnN last (n - (m + 1)))) = partK last n m := by
  unfold partK
  rw [drop_keys last n m (by omega), show n - m = n - (m + 1) + 1 from by omega]
  rw [List.set_append_left _ _ (by simp), List.replicate_succ', List.set_append_right _ _ (by simp)]
  simp [dnN]
theorem partK_start (last : Int × Int) (n : Nat) : (List.replicate (n + 1) ((0 : Int), (0 : Int))).set n last = partK last n n := by
  unfold partK
  rw [drop_keys last n n (Nat.le_refl _), Nat.sub_self, List.drop_eq_nil_of_le (by rw [keysL_len]; omega), List.replicate_succ', List.set_append_right _ _ (by simp)]
  simp [dnN]
theorem partK_before (last : Int × Int) (n m : Nat) : (partK last n (m + 1))[m]? = some (0, 0) := by
  unfold partK
  rw [List.getElem?_append_left (by simp)]
  simp
theorem partK_zero (last : Int × Int) (n : Nat) : partK last n 0 = keysL last n := rfl
theorem partK_len (last : Int × Int) (n k : Nat) (h : k ≤ n + 1) : (partK last n k).length = n + 1 := by
  unfold partK
  simp [keysL_len]; omega
end Pl
theorem BkK.cells {w : World} {g : Nat} {l : List (Int × Int)} (h : BkK w g l) {i : Nat} {p : Int × Int} (hp : l[i]? = some p) : w.cell? ⟨g, i * 2, none⟩ = some (.int .u64 p.1) ∧ w.cell? ⟨g, i * 2 + 1, none⟩ = some (.int .u64 p.2) := by
  obtain ⟨e1, e2⟩ := kcells_get l i p hp
  rw [Bk.cell h, Bk.cell h]
  exact ⟨by simpa using e1, by simpa using e2⟩
theorem BkK.frees {w : World} {g : Nat} {l : List (Int × Int)} (h : BkK w g l) (i : Nat) : w.frozen? ⟨g, i * 2, none⟩ = false ∧ w.frozen? ⟨g, i * 2 + 1, none⟩ = false := ⟨Bk.free h _, Bk.free h _⟩
theorem make_none (seed n : Int) (hn : n < 1 ∨ 64 < n) (w : World) : Calls Tryd.prog 15 #[.int .u64 seed, .int .i64 n] w fun e w' => e = .returned (.slice none 0 0) ∧ w = w' := by
  rcases hn with hn | hn
  · go_enter Tryd.func15, Tryd.ntmps15
    go_wp2
    go_ret
    exact ⟨rfl, rfl⟩
  · have h1 : ¬ n < 1 := by omega
    go_enter Tryd.func15, Tryd.ntmps15
    go_wp2
    go_ret
    exact ⟨rfl, rfl⟩
set_option maxHeartbeats 1000000 in
theorem make_any (seed : Int) (n : Nat) (h1 : 1 ≤ n) (h2 : n ≤ 64) (w : World) (hR : Rnd w) :
    Calls Tryd.prog 15 #[.int .u64 seed, .int .i64 (n : Int)] w fun e w' => e = .returned (.slice (some ⟨w.heap.size, 0, none⟩) (n + 1) (n + 1)) ∧ BkK w' w.heap.size (Pl.keysL (Pl.lastK seed n) n) ∧ Below w.heap.size w w' := by
  rw [← Pl.partK_zero]
  have B0 := (Below.refl w.heap.size w).alloc (Nat.le_refl _) (.cells (kcells (List.replicate (n + 1) (0, 0))).toArray 37)
  have K0 : BkK (w.alloc (.cells (kcells (List.replicate (n + 1) (0, 0))).toArray 37)) w.heap.size (List.replicate (n + 1) (0, 0)) := Bk.new w 37 _
  have hm : (Instr.makeSlice 28 (.int .i64 ((n : Int) + 1)) (.int .i64 ((n : Int) + 1))).run Tryd.prog w = .ok (.slice (some ⟨w.heap.size, 0, none⟩) (n + 1) (n + 1)) (w.alloc (.cells (kcells (List.replicate (n + 1) (0, 0))).toArray 37)) := run_make_keys (n + 1) (by omega) w
  have hw1 : IntKind.u64.wrap (n : Int) = n := by rw [IntKind.wrap_u64]; omega
  have hw2 : IntKind.u64.wrap ((n : Int) + 4294967296) = n + 4294967296 := by rw [IntKind.wrap_u64]; omega
  go_enter Tryd.func15, Tryd.ntmps15
  go_wp2_with fail
  generalize w.alloc (.cells (kcells (List.replicate (n + 1) (0, 0))).toArray 37) = w0 at *
  clear hm
  have hR0 := hR.next B0
  refine (mix_any _ _ _ hR0).mono ?_
  rintro e w1 ⟨rfl, hb1⟩
  have B1 := bstep B0 hb1
  have K1 : BkK w1 w.heap.size (List.replicate (n + 1) (0, 0)) := Bk.next K0 hb1
  have hR1 := hR0.next hb1
  clear B0 K0 hR0 hb1
  go_wp2_with fail
  refine (mix_any _ _ _ hR1).mono ?_
  rintro e w2 ⟨rfl, hb2⟩
  have B2 := bstep B1 hb2
  have K2 : BkK w2 w.heap.size (List.replicate (n + 1) (0, 0)) := Bk.next K1 hb2
  have hR2 := hR1.next hb2
  clear B1 K1 hR1 hb2 hw1 hw2
  obtain ⟨c0, c1⟩ := K2.cells (i := n) (p := (0, 0)) (by simp)
  obtain ⟨f0, f1⟩ := K2.frees n
  go_wp2
  have K3 : BkK ((w2.setCell ⟨w.heap.size, n * 2, none⟩ (.int .u64 (Pl.mix seed n))).setCell ⟨w.heap.size, n * 2 + 1, none⟩ (.int .u64 (Pl.mix seed (n + 4294967296)))) w.heap.size (Pl.partK (Pl.lastK seed n) n n) := by
    have := K2.set n (Pl.lastK seed n)
    rw [Pl.partK_start] at this
    exact this
  have B3 := (B2.setCell (p := ⟨w.heap.size, n * 2, none⟩) (Nat.le_refl _) (.int .u64 (Pl.mix seed n))).setCell (p := ⟨w.heap.size, n * 2 + 1, none⟩) (Nat.le_refl _) (.int .u64 (Pl.mix seed (n + 4294967296)))
  generalize (w2.setCell ⟨w.heap.size, n * 2, none⟩ (.int .u64 (Pl.mix seed n))).setCell ⟨w.heap.size, n * 2 + 1, none⟩ (.int .u64 (Pl.mix seed (n + 4294967296))) = w3 at *
  clear c0 c1 f0 f1 K2 B2
  have HK := hid K3
  clear K3
  go_loopw [6] (fun i wr => ∃ k : Nat, k ≤ n ∧ i = .int .i64 ((k : Int) - 1) ∧ BkK wr w.heap.size (Pl.partK (Pl.lastK seed n) n k) ∧ Below w.heap.size w wr) (fun i _ => (intOf i + 1).toNat)
  case atStart => exact ⟨n, Nat.le_refl _, rfl, HK.out, B3⟩
  case round =>
    obtain ⟨k, hk, rfl, Kr, Br⟩ := hrel
    clear HK B3
    by_cases h0 : k = 0
    · subst h0
      go_wp2
      go_ret
      exact ⟨rfl, Kr, Br⟩
    · obtain ⟨m, rfl⟩ : ∃ m, k = m + 1 := ⟨k - 1, by omega⟩
      have hRr : Rnd wr := hR.next Br
      have hge : 0 ≤ (m : Int) := by omega
      rw [show ((m + 1 : Nat) : Int) - 1 = m from by omega]
      obtain ⟨c0, c1⟩ := Kr.cells (Pl.partK_get (Pl.lastK seed n) n m (by omega))
      have hset := hid (Pl.partK_set (Pl.lastK seed n) n m (by omega))
      generalize hdn : Pl.dnN (Pl.lastK seed n) (n - (m + 1)) = dk at *
      clear hdn
      go_wp2_with fail
      refine (below_any _ _ _ hRr).mono ?_
      rintro e w4 ⟨rfl, hb4⟩
      have B4 := bstep Br hb4
      have K4 : BkK w4 w.heap.size (Pl.partK (Pl.lastK seed n) n (m + 1)) := Bk.next Kr hb4
      have hsz := B4.size
      have Kn := K4.set m (Pl.dn dk)
      rw [hset.out] at Kn
      have HN := hid Kn
      obtain ⟨c0', c1'⟩ := K4.cells (Pl.partK_before (Pl.lastK seed n) n m)
      obtain ⟨f0, f1⟩ := K4.frees m
      clear c0 c1 Kn Kr Br hb4 hset
      go_wp2
      go_roundw
      case rel =>
        exact ⟨m, by omega, by simp, HN.out, (B4.setCell (Nat.le_refl _) _).setCell (Nat.le_refl _) _⟩
      case measure => simp [intOf]
end Go.Proofs.YtmegiodajkeahaaDoor
