/- The contract of Make of the reference. -/
import Derived.Test.YtmegiodajkeahaaDoorChF
import Derived.Maps.AppendAt
namespace Go.Proofs.YtmegiodajkeahaaDoor
open Go Go.RowKit
/-- v is a slice of just these keys, in a block from B on. -/
def OwnK (w : World) (B : Nat) (v : Value) (l : List (Int × Int)) : Prop := w.ownsRow B 37 2 v l.length (kcells l)
theorem OwnK.row {w : World} {B : Nat} {v : Value} {l : List (Int × Int)} (h : OwnK w B v l) (h0 : 0 < l.length) :
    ∃ g cap, v = .slice (some ⟨g, 0, none⟩) l.length cap ∧ B ≤ g ∧ g < w.heap.size ∧ IsKs w (some ⟨g, 0, none⟩) l := by
  obtain ⟨h1, h2⟩ := h
  rcases h2 with ⟨_, h2⟩ | ⟨g, cap, cur, rfl, hB, hh, hn, hc, hs, ht⟩
  · omega
  · have hlt := Bk.lt (t := 37) hh
    refine ⟨g, cap, rfl, hB, hlt, .inr ⟨g, 0, rfl, hlt, fun i p hp => ?_⟩⟩
    obtain ⟨e1, e2⟩ := kcells_get l i p hp
    have hi : i < l.length := (List.getElem?_eq_some_iff.1 hp).1
    rw [Bk.cell (t := 37) hh, Bk.cell (t := 37) hh]
    rw [← ht, List.getElem?_take_of_lt (by omega)] at e1 e2
    simp only [Array.getElem?_toList] at e1 e2
    simp only [Nat.zero_add]
    exact ⟨e1, e2⟩
theorem OwnK.next {w w' : World} {B : Nat} {v : Value} {l : List (Int × Int)} (h : OwnK w B v l) (hb : Below w.heap.size w w') : OwnK w' B v l := by
  obtain ⟨h1, h2⟩ := h
  refine ⟨h1, ?_⟩
  rcases h2 with h2 | ⟨g, cap, cur, hv, hB, hh, r⟩
  · exact .inl h2
  · exact .inr ⟨g, cap, cur, hv, hB, Bk.next (t := 37) hh hb, r⟩
theorem OwnK.lit {w : World} {B : Nat} (l : List (Int × Int)) (hB : B ≤ w.heap.size) (hl : l.length ≤ 1000) : OwnK (w.alloc (.cells (kcells l).toArray 37)) B (.slice (some ⟨w.heap.size, 0, none⟩) l.length l.length) l := by
  have := World.ownsRow_lit (e := 37) (size := 2) w (kcells l).toArray l.length hB (by unfold maxLen; omega) (by simp [kcells_len])
  unfold OwnK
  simpa using this
theorem kcells_one {l : List (Int × Int)} : ∀ u ∈ kcells l, u.oneCell' = true := by
  intro u hu
  unfold kcells at hu
  simp only [List.mem_flatMap] at hu
  obtain ⟨p, _, hp⟩ := hu
  simp at hp
  rcases hp with rfl | rfl <;> rfl
theorem OwnK.src {w : World} {B : Nat} {g n cap : Nat} {l : List (Int × Int)} (h : OwnK w B (.slice (some ⟨g, 0, none⟩) n cap) l) (hl : l.length = n) (j : Nat) (u : Value) (hu : (kcells l)[j]? = some u) : w.cell? ((⟨g, 0, none⟩ : Addr).add j) = some u := by
  subst hl
  have := World.ownsRow.cells h (g := g) rfl j u hu
  exact this
set_option maxHeartbeats 1000000 in
theorem refChain_any (k0 k1 : Int) (n : Nat) (hn : n ≤ 64) (w : World) :
    Calls Tryd.prog 40 #[.agg #[.int .u64 k0, .int .u64 k1], .int .i64 (n : Int)] w fun e w' => (∃ v, e = .returned v ∧ OwnK w' w.heap.size v (Pl.keysL (k0, k1) n)) ∧ Below w.heap.size w w' := by
  obtain ⟨i0, hi, hz⟩ := Option.map_eq_some_iff.1 info_key
  simp only [Prod.mk.injEq] at hz
  obtain ⟨hz0, hz1, hz2⟩ := hz
  have HI := hid hi
  have HZ := hid (And.intro hz0 (And.intro hz1 hz2))
  clear hi hz0 hz1 hz2
  have BX := (Below.refl w.heap.size w).alloc (Nat.le_refl _) (.cells #[.int .u64 k0, .int .u64 k1] 37)
  have KX := Bk.new w 37 #[.int .u64 k0, .int .u64 k1]
  obtain ⟨c0, c1⟩ := KX.two
  have O0 := OwnK.lit (w := w.alloc (.cells #[.int .u64 k0, .int .u64 k1] 37)) (B := w.heap.size) [(k0, k1)] BX.size (by simp)
  have B0 := BX.alloc BX.size (.cells #[.int .u64 k0, .int .u64 k1] 37)
  have HO : Hid (OwnK ((w.alloc (.cells #[.int .u64 k0, .int .u64 k1] 37)).alloc (.cells #[.int .u64 k0, .int .u64 k1] 37)) w.heap.size (.slice (some ⟨(w.alloc (.cells #[.int .u64 k0, .int .u64 k1] 37)).heap.size, 0, none⟩) 1 1) (Pl.keysL (k0, k1) 0)) := hid O0
  clear O0
  have hsz : (w.alloc (.cells #[.int .u64 k0, .int .u64 k1] 37)).heap.size = w.heap.size + 1 := by simp
  rw [hsz] at HO
  clear hsz KX
  go_enter Tryd.func40, Tryd.ntmps40
  go_wp2_with fail
  generalize (w.alloc (.cells #[.int .u64 k0, .int .u64 k1] 37)).alloc (.cells #[.int .u64 k0, .int .u64 k1] 37) = w0 at *
  clear c0 c1 BX
  go_loopw [5, 6] (fun v i wr => ∃ j : Nat, j ≤ n ∧ i = .int .i64 (j : Int) ∧ OwnK wr w.heap.size v (Pl.keysL (k0, k1) j) ∧ Below w.heap.size w wr) (fun _ i _ => n - (intOf i).toNat)
  case atStart => exact ⟨0, Nat.zero_le _, rfl, HO.out, B0⟩
  case round =>
    clear HO B0
    obtain ⟨j, hj, rfl, Or, Br⟩ := hrel
    by_cases hlt : j < n
    · have hlen := Pl.keysL_len (k0, k1) j
      obtain ⟨g, cap, hv, hg0, hg1, hIs⟩ := Or.row (by omega)
      rw [hlen] at hv
      subst hv
      rcases hIs with h | ⟨b, off, hA, hb, hc⟩
      · rw [h] at hlen; simp at hlen
      · obtain ⟨rfl, rfl⟩ : b = g ∧ off = 0 := by simpa using hA.symm
        have hcc := hc 0 _ (Pl.keysL_get (k0, k1) j 0 (Nat.zero_le _))
        rw [Nat.sub_zero] at hcc
        simp only [Nat.zero_mul, Nat.add_zero] at hcc
        obtain ⟨c0, c1⟩ := hcc
        have hcons := hid (Pl.keysL_cons (k0, k1) j)
        have HOr := hid Or
        have HLen := hid hlen
        clear hc hA Or hlen
        go_wp2_with fail
        refine (refBelow_any _ _ _).mono ?_
        rintro e w1 ⟨rfl, hb1⟩
        have B1 := bstep Br hb1
        have O1 := HOr.out.next hb1
        have hs1 := B1.size
        have O2 := OwnK.lit (w := w1) (B := w.heap.size) [Pl.dn (Pl.dnN (k0, k1) j)] hs1 (by simp)
        have B2 := B1.alloc hs1 (.cells #[.int .u64 (Pl.dn (Pl.dnN (k0, k1) j)).1, .int .u64 (Pl.dn (Pl.dnN (k0, k1) j)).2] 37)
        have O1' := hid (O1.next ((Below.refl _ _).alloc (Nat.le_refl _) (.cells #[.int .u64 (Pl.dn (Pl.dnN (k0, k1) j)).1, .int .u64 (Pl.dn (Pl.dnN (k0, k1) j)).2] 37)))
        have O2' := hid O2
        clear O1 O2 c0 c1 HOr Br B1
        go_wp2_with (at_builtin; refine wpList_append_own_at _ rfl (.tmp 18) (.tmp 19) 28 rfl w.heap.size 37 i0 (.agg #[.int .u64 0, .int .u64 0]) 2 16 Tryd.underlying28 HI.out HZ.out.1 HZ.out.2.1 HZ.out.2.2 rfl (by decide) (.slice (some ⟨w1.heap.size, 0, none⟩) 1 1) 1 _ rfl O2'.out ⟨b, 0, none⟩ (j + 1) cap (kcells (Pl.keysL (k0, k1) j)) rfl (by rw [kcells_len, HLen.out]) (O1'.out.src HLen.out) kcells_one (by simp only [maxLen]; omega) (by omega) (by simp; omega) ?_; intro v' w2 O3 hg3 hn3 hat3)
        have B3 := B2.grown hg3 (by simp; omega) (fun k hk => by simp [Value.ownBlock] at hk; omega)
        have O4 : OwnK w2 w.heap.size v' (Pl.keysL (k0, k1) (j + 1)) := by
          rw [hcons.out]
          unfold OwnK
          rw [List.length_cons, HLen.out, Nat.add_comm (j + 1) 1]
          exact O3
        have H4 := hid (And.intro O4 B3)
        clear O4 B3 B2 O1' O2' O3 hg3 hn3 hat3 hcons
        go_wp2
        go_roundw
        case rel => exact ⟨j + 1, by omega, by simp, H4.out.1, H4.out.2⟩
        case measure => simp [intOf]; omega
    · obtain rfl : j = n := by omega
      go_wp2
      go_ret
      exact ⟨⟨_, rfl, Or⟩, Br⟩
theorem refMake_none (seed n : Int) (hn : n < 1 ∨ 64 < n) (w : World) : Calls Tryd.prog 16 #[.int .u64 seed, .int .i64 n] w fun e w' => e = .returned (.slice none 0 0) ∧ w = w' := by
  rcases hn with hn | hn
  · go_enter Tryd.func16, Tryd.ntmps16
    go_wp2
    go_ret
    exact ⟨rfl, rfl⟩
  · have h1 : ¬ n < 1 := by omega
    go_enter Tryd.func16, Tryd.ntmps16
    go_wp2
    go_ret
    exact ⟨rfl, rfl⟩
set_option maxHeartbeats 1000000 in
theorem refMake_any (seed : Int) (n : Nat) (h1 : 1 ≤ n) (h2 : n ≤ 64) (w : World) :
    Calls Tryd.prog 16 #[.int .u64 seed, .int .i64 (n : Int)] w fun e w' => (∃ v, e = .returned v ∧ OwnK w' w.heap.size v (Pl.keysL (Pl.lastK seed n) n)) ∧ Below w.heap.size w w' := by
  have hw1 : IntKind.u64.wrap (n : Int) = n := by rw [IntKind.wrap_u64]; omega
  have hw2 : IntKind.u64.wrap ((n : Int) + 4294967296) = n + 4294967296 := by rw [IntKind.wrap_u64]; omega
  have hl : Pl.lastK seed n = (Pl.mix seed (n : Int), Pl.mix seed ((n : Int) + 4294967296)) := rfl
  rw [hl]
  clear hl
  go_enter Tryd.func16, Tryd.ntmps16
  go_wp2_with fail
  refine (refMix_any _ _ _).mono ?_
  rintro e w1 ⟨rfl, rfl⟩
  go_wp2_with fail
  refine (refMix_any _ _ _).mono ?_
  rintro e w1 ⟨rfl, rfl⟩
  go_wp2_with fail
  refine (refChain_any _ _ n h2 _).mono ?_
  rintro e w1 ⟨⟨v, rfl, hO⟩, hb⟩
  go_wp2
  go_ret
  exact ⟨⟨v, rfl, hO⟩, hb⟩
end Go.Proofs.YtmegiodajkeahaaDoor
