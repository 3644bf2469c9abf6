/- The walk of the law PrngPerms. -/
import Derived.Test.YtdfabmjkahhlmaaDoorLaw3
namespace Go.Proofs.YtdfabmjkahhlmaaDoor
open Go Go.RowKit
def bools (l : List Bool) : Array Value := (l.map Value.bool).toArray
theorem bools_get {l : List Bool} {i : Nat} {x : Bool} (h : l[i]? = some x) : (bools l)[i]? = some (.bool x) := by
  unfold bools; simp [h]
theorem bools_set (l : List Bool) (i : Nat) (x : Bool) : (bools l).setIfInBounds i (.bool x) = bools (l.set i x) := by
  unfold bools
  rw [List.setIfInBounds_toArray, List.map_set]
theorem Bk.boo {w : World} {g : Nat} {t : TypeId} {l : List Bool} (h : Bk w g t (bools l)) {i : Nat} {x : Bool} (hx : l[i]? = some x) : w.cell? ⟨g, i, none⟩ = some (.bool x) := by
  rw [h.cell, bools_get hx]
theorem Bk.set_boo {w : World} {g : Nat} {t : TypeId} {l : List Bool} (h : Bk w g t (bools l)) (i : Nat) (x : Bool) : Bk (w.setCell ⟨g, i, none⟩ (.bool x)) g t (bools (l.set i x)) := by
  rw [← bools_set]; exact h.put i _
theorem run_make_bools {P : Program} (t e : TypeId) (bytes : Nat) (ht : P.underlying t = some (.slice e)) (hi : (P.info? e).map (fun i => (i.zero, i.size, i.bytes)) = some (some (.bool false), 1, bytes))
    (kl kc : IntKind) (n : Nat) (hb : bytes * n ≤ 281474976710656) (h63 : n ≤ 9223372036854775807) (w : World) :
    (Instr.makeSlice t (.int kl (n : Int)) (.int kc (n : Int))).run P w = .ok (.slice (some ⟨w.heap.size, 0, none⟩) n n) (w.alloc (.cells (bools (List.replicate n false)) e)) := by
  obtain ⟨i, hi', hz⟩ := Option.map_eq_some_iff.1 hi
  simp only [Prod.mk.injEq] at hz
  obtain ⟨hz0, hz1, hz2⟩ := hz
  have hbb : (i.bytes : Int) * (n : Int) ≤ 281474976710656 := by
    rw [hz2, ← Int.natCast_mul]; omega
  have hr := run_make (P := P) w t e i (.bool false) ht hi' hz0 kl kc (n : Int) (n : Int) (by omega) (by omega) hbb (by omega)
  simp only [Int.toNat_natCast, hz1, Nat.mul_one] at hr
  rw [hr]
  congr 3
  unfold bools madeCells
  apply Array.ext
  · simp
  · intro j h1 h2
    simp [Value.cells, Nat.mod_one]
theorem info_bool : (Tryd.prog.info? 4).map (fun i => (i.zero, i.size, i.bytes)) = some (some (.bool false), 1, 1) := by kernel_rfl
section
variable {W w w' : World} {s t : Nat} {seed : Int} {i j k : Nat}
theorem Pair.fresh (h : Pair W s t seed i j w) {p : Addr} (hp : W.heap.size ≤ p.block) (hs : s ≠ p.block) (ht : t ≠ p.block) (u : Value) : Pair W s t seed i j (w.setCell p u) := ⟨Bk.far h.1 hs u, Bk.far h.2.1 ht u, h.2.2.setCell hp u⟩
theorem Pair.alloc (h : Pair W s t seed i j w) (o : Obj) : Pair W s t seed i j (w.alloc o) := ⟨Bk.alloc h.1 o, Bk.alloc h.2.1 o, h.2.2.alloc h.2.2.size o⟩
theorem Pair.drew (h : Pair W s t seed i j w) : Pair W s t seed i j w.drew := ⟨Bk.drew h.1, Bk.drew h.2.1, h.2.2.drew⟩
end
set_option maxHeartbeats 2000000 in
theorem prngPerms_no (seed n : Int) (W : World) (hR : Rnd W) (hn : n < 1 ∨ 4096 < n) :
    Calls Tryd.prog 7 #[.int .u64 seed, .int .i64 n] W fun e w' => e = .returned (.bool true) ∧ Below W.heap.size W w' := by
  have hs0 := hR.lt
  have P0 := Pair.mk2 W seed
  have hst : W.heap.size < (W.alloc (.cells #[.int .u64 seed, .int .u64 0] 53)).heap.size := by show _ < (W.heap.push _).size; rw [Array.size_push]; exact Nat.lt_succ_self _
  go_enter Tryd.func7, Tryd.ntmps7
  go_wp2_with fail
  refine (new_any seed W).mono ?_
  rintro e w1 ⟨rfl, rfl⟩
  go_wp2_with fail
  refine (new_any seed _).mono ?_
  rintro e w2 ⟨rfl, rfl⟩
  generalize (W.alloc (.cells #[.int .u64 seed, .int .u64 0] 53)).alloc (.cells #[.int .u64 seed, .int .u64 0] 53) = w0 at *
  generalize (W.alloc (.cells #[.int .u64 seed, .int .u64 0] 53)).heap.size = t at *
  obtain ⟨s, hs⟩ : ∃ s, s = W.heap.size := ⟨_, rfl⟩
  have hs1 : W.heap.size ≤ s := Nat.le_of_eq hs.symm
  have hst1 : s < t := hs ▸ hst
  rw [← hs] at P0 ⊢
  have hs2 : 0 < s := hs ▸ hs0
  clear hs hst hs0
  go_wp2_with fail
  refine (perm_no s n hn w0).mono ?_
  rintro e w2 ⟨rfl, rfl⟩
  have hd : (decide (n < 1) || decide (4096 < n)) = true := by simp; exact hn
  rcases hn with hn | hn
  · go_wp2_with fail
    refine (next_any s seed 0 (by omega) w0 (P0.rnd hR) P0.1).mono ?_
    rintro e w5 ⟨rfl, S5, ho5⟩
    have P5 := P0.left hs1 hst1 S5 ho5
    clear P0 S5 ho5
    go_wp2_with fail
    refine (next_any t seed 0 (by omega) w5 (P5.rnd hR) P5.2.1).mono ?_
    rintro e w6 ⟨rfl, S6, ho6⟩
    have P6 := P5.right hs1 hst1 S6 ho6
    clear P5 S6 ho6
    go_wp2_with fail
    refine (awake_any w6 (P6.rnd hR)).mono ?_
    rintro e w7 ⟨rfl, hb7⟩
    have P7 := P6.next hb7
    clear P6 hb7
    go_wp2
    go_ret
    exact ⟨rfl, P7.2.2⟩
  · have hn' : decide (n < 1) = false := by simp; omega
    go_wp2_with fail
    refine (next_any s seed 0 (by omega) w0 (P0.rnd hR) P0.1).mono ?_
    rintro e w5 ⟨rfl, S5, ho5⟩
    have P5 := P0.left hs1 hst1 S5 ho5
    clear P0 S5 ho5
    go_wp2_with fail
    refine (next_any t seed 0 (by omega) w5 (P5.rnd hR) P5.2.1).mono ?_
    rintro e w6 ⟨rfl, S6, ho6⟩
    have P6 := P5.right hs1 hst1 S6 ho6
    clear P5 S6 ho6
    go_wp2_with fail
    refine (awake_any w6 (P6.rnd hR)).mono ?_
    rintro e w7 ⟨rfl, hb7⟩
    have P7 := P6.next hb7
    clear P6 hb7
    go_wp2
    go_ret
    exact ⟨rfl, P7.2.2⟩
set_option maxHeartbeats 4000000 in
theorem prngPerms_yes (seed : Int) (m : Nat) (W : World) (hR : Rnd W) (hm1 : 1 ≤ m) (hm2 : m ≤ 4096) :
    Calls Tryd.prog 7 #[.int .u64 seed, .int .i64 (m : Int)] W fun e w' => e = .returned (.bool true) ∧ Below W.heap.size W w' := by
  have hs0 := hR.lt
  have P0 := Pair.mk2 W seed
  have hst : W.heap.size < (W.alloc (.cells #[.int .u64 seed, .int .u64 0] 53)).heap.size := by show _ < (W.heap.push _).size; rw [Array.size_push]; exact Nat.lt_succ_self _
  have hmb := run_make_bools (P := Tryd.prog) 37 4 1 Tryd.underlying37 info_bool .i64 .i64 m (by omega) (by omega)
  have hmk := run_make_ints (P := Tryd.prog) 35 3 .i64 8 Tryd.underlying35 info_int .i64 .i64 m (by omega) (by omega)
  go_enter Tryd.func7, Tryd.ntmps7
  go_wp2_with fail
  refine (new_any seed W).mono ?_
  rintro e w1 ⟨rfl, rfl⟩
  go_wp2_with fail
  refine (new_any seed _).mono ?_
  rintro e w2 ⟨rfl, rfl⟩
  generalize (W.alloc (.cells #[.int .u64 seed, .int .u64 0] 53)).alloc (.cells #[.int .u64 seed, .int .u64 0] 53) = w0 at *
  generalize (W.alloc (.cells #[.int .u64 seed, .int .u64 0] 53)).heap.size = t at *
  obtain ⟨s, hs⟩ : ∃ s, s = W.heap.size := ⟨_, rfl⟩
  have hs1 : W.heap.size ≤ s := Nat.le_of_eq hs.symm
  have hst1 : s < t := hs ▸ hst
  rw [← hs] at P0 ⊢
  have hs2 : 0 < s := hs ▸ hs0
  clear hs hst hs0
  go_wp2_with fail
  refine (perm_any s seed 0 m (by omega) hm1 hm2 w0 (P0.rnd hR) hs2 P0.1).mono ?_
  rintro e w1 ⟨rfl, L1, S1, ho1⟩
  have hlt : t < w0.heap.size := P0.2.1.lt
  have P1 := P0.left hs1 hst1 S1 ho1
  clear P0 S1 ho1
  generalize w0.heap.size = gl at *
  have L2 := L1.alloc (.cells (bools (List.replicate m false)) 4)
  have P2 := P1.alloc (.cells (bools (List.replicate m false)) 4)
  have N2 := Bk.new w1 4 (bools (List.replicate m false))
  have hgs : gl < w1.heap.size := L1.lt
  have HH := hid (And.intro L2 (And.intro P2 N2))
  clear L1 P1 L2 P2 N2
  go_wp2
  generalize w1.alloc (.cells (bools (List.replicate m false)) 4) = w2 at *
  generalize w1.heap.size = gs at *
  go_loopw [55] (fun i wr => ∃ k : Nat, k ≤ m ∧ i = .int .i64 k ∧ Bk wr gl 3 (ints .i64 (Pl.permOf seed 0 m)) ∧ Pair W s t seed (0 + (m - 1)) 0 wr ∧ ∃ bl : List Bool, bl.length = m ∧ Bk wr gs 4 (bools bl) ∧ ∀ x : Nat, bl[x]? = some true → (x : Int) ∈ (Pl.permOf seed 0 m).take k) (fun i _ => m - (intOf i).toNat)
  case atStart =>
    obtain ⟨L2, P2, N2⟩ := HH.out
    exact ⟨0, Nat.zero_le _, rfl, L2, P2, _, List.length_replicate, N2, fun x hx => by simp [List.getElem?_replicate] at hx⟩
  case round =>
    clear HH
    obtain ⟨k, hk, rfl, L, P, bl, hbl, N, hin⟩ := hrel
    by_cases hlt : k < m
    · obtain ⟨x, hx⟩ : ∃ x, (Pl.permOf seed 0 m)[k]? = some x := ⟨_, List.getElem?_eq_getElem (by rw [Pl.permOf_length]; exact hlt)⟩
      have hxm := Pl.permOf_mem hm1 (List.mem_of_getElem? hx)
      obtain ⟨y, rfl⟩ := Int.eq_ofNat_of_zero_le hxm.1
      have hy : y < m := by omega
      have c0 := L.int hx
      obtain ⟨bb, hbb⟩ : ∃ bb, bl[y]? = some bb := ⟨_, List.getElem?_eq_getElem (by omega)⟩
      have hbf : bb = false := by
        cases bb with
        | false => rfl
        | true =>
          exfalso
          have h1 := hin y hbb
          have h2 := Pl.permOf_nodup seed 0 m hm1
          obtain ⟨q, hq, hq2⟩ := List.getElem_of_mem h1
          simp at hq hq2
          have h3 := (List.getElem?_eq_some_iff.1 hx)
          obtain ⟨h4, h5⟩ := h3
          have h6 := (List.getElem_inj h2).1 (hq2.trans h5.symm)
          omega
      subst hbf
      have c1 := N.boo hbb
      have f1 := N.free y
      have hxl : (y : Int) < (m : Int) := hxm.2
      have HX := hid (And.intro hx (And.intro hbb (And.intro hbl hin)))
      clear hx hbb hxm hbl hin
      go_wp2
      go_roundw
      case rel =>
        refine ⟨k + 1, by omega, by go_num, L.far (by dsimp only; omega) _, P.fresh (by dsimp only; omega) (by dsimp only; omega) (by dsimp only; omega) _, _, by rw [List.length_set]; exact HX.out.2.2.1, N.set_boo y true, ?_⟩
        intro z hz
        rw [List.take_add_one, HX.out.1]
        by_cases hzy : z = y
        · subst hzy; simp
        · rw [List.getElem?_set_ne (fun e => hzy e.symm)] at hz
          exact List.mem_append_left _ (HX.out.2.2.2 z hz)
      case measure => simp [intOf]; omega
    · obtain rfl : k = m := by omega
      clear hbl N hin hlt hmb
      have L2 := L.alloc (.cells (ints .i64 (List.replicate k 0)) 3)
      have P2 := P.alloc (.cells (ints .i64 (List.replicate k 0)) 3)
      have N2 : Bk (wr.alloc (.cells (ints .i64 (List.replicate k 0)) 3)) wr.heap.size 3 (ints .i64 (Pl.initTo k 0)) := by rw [Pl.initTo_zero]; exact Bk.new _ _ _
      have hgm : gl < wr.heap.size := L.lt
      have HH := hid (And.intro L2 (And.intro P2 N2))
      clear L P L2 P2 N2
      go_wp2
      generalize wr.alloc (.cells (ints .i64 (List.replicate k 0)) 3) = w3 at *
      generalize wr.heap.size = gm at *
      clear hmk hgs
      obtain ⟨m, hmk⟩ : ∃ m, m = k := ⟨_, rfl⟩
      rw [← hmk] at HH hk hm1 hm2 ⊢
      clear hmk
      go_loopw [80] (fun i wr => ∃ k : Nat, k ≤ m ∧ i = .int .i64 k ∧ Bk wr gl 3 (ints .i64 (Pl.permOf seed 0 m)) ∧ Pair W s t seed (0 + (m - 1)) 0 wr ∧ Bk wr gm 3 (ints .i64 (Pl.initTo m k))) (fun i _ => m - (intOf i).toNat)
      case atStart =>
        obtain ⟨L2, P2, N2⟩ := HH.out
        exact ⟨0, Nat.zero_le _, rfl, L2, P2, N2⟩
      case round =>
        clear HH
        obtain ⟨k, hk, rfl, L, P, K⟩ := hrel
        by_cases hlt : k < m
        · obtain ⟨x, hx⟩ : ∃ x, (Pl.initTo m k)[k]? = some x := ⟨_, List.getElem?_eq_getElem (by rw [Pl.initTo_length]; exact hlt)⟩
          have c0 := K.int hx
          have f0 := K.free k
          have HX := hid hx
          clear hx
          go_wp2
          go_roundw
          case rel => exact ⟨k + 1, by omega, by go_num, L.far (by dsimp only; omega) _, P.fresh (by dsimp only; omega) (by dsimp only; omega) (by dsimp only; omega) _, by rw [← Pl.initTo_next]; exact K.set_int k _⟩
          case measure => simp [intOf]; omega
        · obtain rfl : m = k := by omega
          clear hlt
          go_wp2
          clear hk
          obtain ⟨wo, rfl⟩ : ∃ wo : World, wo = wr := ⟨_, rfl⟩
          go_loopw [13] (fun i wr => ∃ k : Nat, k ≤ m - 1 ∧ i = .int .i64 ((m - 1 - k : Nat) : Int) ∧ Bk wr gl 3 (ints .i64 (Pl.permOf seed 0 m)) ∧ Pair W s t seed (0 + (m - 1)) (0 + k) wr ∧ Bk wr gm 3 (ints .i64 (Pl.permTo seed 0 m k))) (fun i _ => (intOf i).toNat)
          case atStart => exact ⟨0, Nat.zero_le _, by rw [show ((m - 1 - 0 : Nat) : Int) = (m : Int) - 1 from by omega], L, P, K⟩
          case round =>
            clear K P L
            obtain ⟨k, hk, rfl, L, P, K⟩ := hrel
            by_cases hlt : k < m - 1
            · have hi1 : (1 : Int) ≤ ((m - 1 - k : Nat) : Int) := by omega
              have C := below_any t seed (0 + k) (by omega) (((m - 1 - k : Nat) : Int) + 1) (by omega) wr (P.rnd hR) P.2.1
              have hb := Pl.belowOf_range seed (0 + k) (m := ((m - 1 - k : Nat) : Int) + 1) (by omega)
              obtain ⟨j, hj⟩ : ∃ j : Nat, Pl.belowOf seed (0 + k) (((m - 1 - k : Nat) : Int) + 1) = (j : Int) := ⟨_, (Int.toNat_of_nonneg hb.1).symm⟩
              rw [hj] at C hb
              have HJ := hid hj
              clear hj
              have hlen := Pl.permTo_length seed 0 m k
              obtain ⟨i, hi⟩ : ∃ i : Nat, i = m - 1 - k := ⟨_, rfl⟩
              rw [← hi] at C hb hi1 ⊢
              have hi2 : (i : Int) ≤ 4096 := by omega
              have him : (i : Int) < (m : Int) := by omega
              have hji : (j : Int) ≤ (i : Int) := by omega
              have HI := hid hi
              clear hi
              have C := hid C
              have HL := hid hlen
              clear hlen
              go_wp2_with fail
              refine C.out.mono ?_
              clear C
              rintro e w2 ⟨rfl, HS2, HO2⟩
              have K2 := HO2.bk K (by omega)
              have L2 := HO2.bk L (by omega)
              have P2 := P.right hs1 hst1 HS2 HO2
              clear K L P HS2 HO2
              obtain ⟨x, hx⟩ : ∃ x, (Pl.permTo seed 0 m k)[i]? = some x := ⟨_, List.getElem?_eq_getElem (by rw [HL.out]; omega)⟩
              obtain ⟨y, hy⟩ : ∃ y, (Pl.permTo seed 0 m k)[j]? = some y := ⟨_, List.getElem?_eq_getElem (by rw [HL.out]; omega)⟩
              have ci := K2.int hx
              have cj := K2.int hy
              have fi := K2.free i
              have fj := K2.free j
              have hj0 : (0 : Int) ≤ (j : Int) := by omega
              have hjm : (j : Int) < (m : Int) := by omega
              obtain ⟨v', hv'⟩ := cell?_setCell_some (w := w2) (p := ⟨gm, i, none⟩) (x := .int .i64 y) (q := ⟨gm, j, none⟩) (v := .int .i64 y) (by go_simp)
              have HXY := hid (And.intro hx hy)
              clear hx hy
              go_wp2
              go_region
              all_goals go_wp2
              have hi := HI.out
              have hj := HJ.out
              rw [← hi] at hj
              have hnx : Pl.permTo seed 0 m (k + 1) = ((Pl.permTo seed 0 m k).set i y).set j x := by
                rw [Pl.permTo, ← hi, hj, Int.toNat_natCast]
                unfold Pl.swp
                rw [show (Pl.permTo seed 0 m k).getD j 0 = y from by simp [List.getD, HXY.out.2], show (Pl.permTo seed 0 m k).getD i 0 = x from by simp [List.getD, HXY.out.1]]
              refine ⟨⟨k + 1, by omega, by rw [show ((m - 1 - (k + 1) : Nat) : Int) = (i : Int) - 1 from by omega], ?_, ?_, ?_⟩, by simp [intOf]; omega⟩
              · exact ((L2.far (by dsimp only; omega) _).far (by dsimp only; omega) _).drew
              · exact ((P2.fresh (by dsimp only; omega) (by dsimp only; omega) (by dsimp only; omega) _).fresh (by dsimp only; omega) (by dsimp only; omega) (by dsimp only; omega) _).drew
              · rw [hnx]; exact ((K2.set_int i y).set_int j x).drew
            · obtain rfl : k = m - 1 := by omega
              have h0 : ((m - 1 - (m - 1) : Nat) : Int) = 0 := by omega
              rw [h0]
              clear h0
              have hlen := Pl.permOf_length seed 0 m
              have C := equal_same (some ⟨gl, 0, none⟩) (some ⟨gm, 0, none⟩) m m _ wr L.sl (show IsSl wr _ .i64 (Pl.permOf seed 0 m) from K.sl) (by rw [hlen]; omega)
              rw [hlen] at C
              have C := hid C
              clear hlen
              go_wp2_with fail
              refine C.out.mono ?_
              rintro e w4 ⟨rfl, hb4⟩
              have P4 := P.next hb4
              clear P hb4 C
              go_wp2_with fail
              refine (next_any s seed (0 + (m - 1)) (by omega) w4 (P4.rnd hR) P4.1).mono ?_
              rintro e w5 ⟨rfl, S5, ho5⟩
              have P5 := P4.left hs1 hst1 S5 ho5
              clear P4 S5 ho5
              go_wp2_with fail
              refine (next_any t seed (0 + (m - 1)) (by omega) w5 (P5.rnd hR) P5.2.1).mono ?_
              rintro e w6 ⟨rfl, S6, ho6⟩
              have P6 := P5.right hs1 hst1 S6 ho6
              clear P5 S6 ho6
              go_wp2_with fail
              refine (awake_any w6 (P6.rnd hR)).mono ?_
              rintro e w7 ⟨rfl, hb7⟩
              have P7 := P6.next hb7
              clear P6 hb7
              go_wp2
              go_ret
              exact ⟨rfl, P7.2.2⟩
theorem prngPerms_walk (seed n : Int) (W : World) (hR : Rnd W) :
    Calls Tryd.prog 7 #[.int .u64 seed, .int .i64 n] W fun e w' => e = .returned (.bool true) ∧ Below W.heap.size W w' := by
  by_cases h : n < 1 ∨ 4096 < n
  · exact prngPerms_no seed n W hR h
  · obtain ⟨m, rfl⟩ := Int.eq_ofNat_of_zero_le (show 0 ≤ n by omega)
    exact prngPerms_yes seed m W hR (by omega) (by omega)
end Go.Proofs.YtdfabmjkahhlmaaDoor
