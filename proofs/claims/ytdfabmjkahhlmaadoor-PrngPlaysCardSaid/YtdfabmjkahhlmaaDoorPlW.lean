/- The walk of the law PrngPlays. -/
import Derived.Test.YtdfabmjkahhlmaaDoorPlF
import Derived.Deep.RegionHeld3
import Derived.Deep.RegionWith
import Derived.Deep.DrawnRows
namespace Go.Proofs.YtdfabmjkahhlmaaDoor
open Go Go.RowKit
theorem plays_start (W : World) (seed : Int) : PlI W (.slice (some ⟨W.heap.size + 1, 0, none⟩) 1 1) (.slice (some ⟨W.heap.size + 3, 0, none⟩) 1 1)
    ((((W.alloc (.cells #[.int .u64 seed, .int .u64 0] 53)).alloc (.cells #[pt W.heap.size] 27)).alloc (.cells #[.int .u64 seed, .int .u64 0] 62)).alloc (.cells #[pt (W.heap.size + 2)] 42)) [W.heap.size] [W.heap.size + 2] [(seed, 0)] 0 := by
  generalize h1 : W.alloc (.cells #[.int .u64 seed, .int .u64 0] 53) = w1
  have s1 : Bk w1 W.heap.size 53 #[.int .u64 seed, .int .u64 ((0 : Nat) : Int)] := h1 ▸ Bk.new W 53 _
  have z1 : w1.heap.size = W.heap.size + 1 := by rw [← h1]; simp
  have b1 : Below W.heap.size W w1 := h1 ▸ (Below.refl _ _).alloc (Nat.le_refl _) _
  clear h1
  generalize h2 : w1.alloc (.cells #[pt W.heap.size] 27) = w2
  have s2 : Bk w2 (W.heap.size + 1) 27 #[pt W.heap.size] := by rw [← z1, ← h2]; exact Bk.new w1 27 _
  have z2 : w2.heap.size = W.heap.size + 2 := by rw [← h2]; simp [z1]
  have b2 : Below w1.heap.size w1 w2 := h2 ▸ (Below.refl _ _).alloc (Nat.le_refl _) _
  clear h2
  generalize h3 : w2.alloc (.cells #[.int .u64 seed, .int .u64 0] 62) = w3
  have s3 : Bk w3 (W.heap.size + 2) 62 #[.int .u64 seed, .int .u64 ((0 : Nat) : Int)] := by rw [← z2, ← h3]; exact Bk.new w2 62 _
  have z3 : w3.heap.size = W.heap.size + 3 := by rw [← h3]; simp [z2]
  have b3 : Below w2.heap.size w2 w3 := h3 ▸ (Below.refl _ _).alloc (Nat.le_refl _) _
  clear h3
  generalize h4 : w3.alloc (.cells #[pt (W.heap.size + 2)] 42) = w4
  have s4 : Bk w4 (W.heap.size + 3) 42 #[pt (W.heap.size + 2)] := by rw [← z3, ← h4]; exact Bk.new w3 42 _
  have b4 : Below w3.heap.size w3 w4 := h4 ▸ (Below.refl _ _).alloc (Nat.le_refl _) _
  clear h4
  have k1 : Bk w4 W.heap.size 53 #[.int .u64 seed, .int .u64 ((0 : Nat) : Int)] := ((s1.next b2).next b3).next b4
  have k2 := (s2.next b3).next b4
  have k3 := s3.next b4
  refine ⟨⟨rfl, by simp, fun i g p hi hp => ?_, fun g hg => by simp at hg; omega⟩, ⟨rfl, by simp, fun i g p hi hp => ?_, fun g hg => by simp at hg; omega⟩, Ptrs.one k2 (by omega), Ptrs.one s4 (by omega), bstep (bstep (bstep b1 b2) b3) b4, fun i p hp => ?_, by simp, by simp⟩
  · cases i with
    | zero => simp at hi hp; subst hi hp; exact k1
    | succ i => simp at hi
  · cases i with
    | zero => simp at hi hp; subst hi hp; exact k3
    | succ i => simp at hi
  · cases i with
    | zero => simp at hp; subst hp; simp
    | succ i => simp at hp
set_option maxHeartbeats 4000000 in
set_option maxRecDepth 100000 in
theorem prngPlays_yes (seed : Int) (ad : Addr) (nl c : Nat) (l : List Dd) (W : World) (hR : Rnd W) (hD : IsDd W (some ad) l) (hl : l.length = nl) (hlc : nl ≤ c) (hmx : nl ≤ 9223372036854775807) :
    Calls Tryd.prog 8 #[.int .u64 seed, .slice (some ad) nl c] W fun e w' => e = .returned (.bool true) ∧ Below W.heap.size W w' := by
  have HD := hid hD
  have HL := hid hl
  have PS := hid (plays_start W seed)
  have HR := hid hR
  have hR0 := hR.lt
  clear hD hl hR
  go_enter Tryd.func8, Tryd.ntmps8
  go_wp2_with fail
  refine (new_any _ _).mono ?_
  rintro e w1 ⟨rfl, rfl⟩
  go_wp2_with fail
  refine (refNew_any _ _).mono ?_
  rintro e w2 ⟨rfl, rfl⟩
  obtain ⟨N, hN⟩ : ∃ N, N = min nl 200 := ⟨_, rfl⟩
  have hN1 : N ≤ nl := by omega
  have hN2 : N ≤ 200 := by omega
  have hN3 : ∀ (ts : Array TypeId) (t : TypeId) (w : World), (Builtin.min_ ts t #[.int .i64 (nl : Int), .int .i64 200]).run Tryd.prog w = .ok (.int .i64 (N : Int)) w := fun ts t w => by
    rw [run_min_int2]
    congr 2
    split <;> omega
  have HN := hid hN
  clear hN
  go_wp2_with fail
  generalize (((W.alloc (.cells #[.int .u64 seed, .int .u64 0] 53)).alloc (.cells #[pt W.heap.size] 27)).alloc (.cells #[.int .u64 seed, .int .u64 0] 62)).alloc (.cells #[pt (W.heap.size + 2)] 42) = w0 at *
  go_loopw [5, 6, 24] (fun sv tv iv wr => ∃ k : Nat, k ≤ N ∧ iv = .int .i64 (k : Int) ∧ ∃ ss ts d, PlI W sv tv wr ss ts d k) (fun _ _ iv _ => N - (intOf iv).toNat)
  case atStart => exact ⟨0, Nat.zero_le _, rfl, _, _, _, PS.out⟩
  case round =>
    clear PS hN3
    obtain ⟨k, hk, rfl, ss, ts, d, I⟩ := hrel
    obtain ⟨bS, cS, bT, cT, rfl, rfl, hbS, hbT, IC⟩ := I.cells
    have HI := hid I
    have HIC := hid IC
    have hm0 := I.pos
    have hm1 := I.ln
    generalize hm : d.length = m at *
    have HM := hid hm
    clear I IC hm
    by_cases hlt : k < N
    · obtain ⟨p, hp⟩ : ∃ x, l[k]? = some x := ⟨l[k]'(by have := HL.out; omega), List.getElem?_eq_getElem _⟩
      rcases HD.out with h0 | ⟨lb, lo, hab, hlb, hc⟩
      · rw [h0] at hp; simp at hp
      obtain rfl : ad = ⟨lb, lo, none⟩ := by cases hab; rfl
      obtain ⟨hpc, hpo⟩ := hc k p hp
      have hbel := HI.out.bel
      have q0 : wr.cell? ⟨lb, lo + k * 4, none⟩ = some (.int .i64 p.on) := (hbel.cell (p := ⟨lb, lo + k * 4 + 0, none⟩) hlb).trans (hpc 0 _ rfl)
      have q1 : wr.cell? ⟨lb, lo + k * 4 + 1, none⟩ = some (.int .i64 p.kind) := (hbel.cell (p := ⟨lb, lo + k * 4 + 1, none⟩) hlb).trans (hpc 1 _ rfl)
      have q2 : wr.cell? ⟨lb, lo + k * 4 + 2, none⟩ = some (.int .i64 p.a) := (hbel.cell (p := ⟨lb, lo + k * 4 + 2, none⟩) hlb).trans (hpc 2 _ rfl)
      have q3 : wr.cell? ⟨lb, lo + k * 4 + 3, none⟩ = some (.int .i64 p.b) := (hbel.cell (p := ⟨lb, lo + k * 4 + 3, none⟩) hlb).trans (hpc 3 _ rfl)
      obtain ⟨on, kd, a, b⟩ := p
      simp only at q0 q1 q2 q3
      obtain ⟨_, _, hpa, hpb⟩ := hpo
      simp only at hpa hpb
      obtain ⟨hpa0, hpa1⟩ := hpa
      obtain ⟨hpb0, hpb1⟩ := hpb
      have hx := wrap_u64_nonneg on
      have hx0 := Int.emod_nonneg (IntKind.u64.wrap on) (show (m : Int) ≠ 0 by omega)
      have hx1 := Int.emod_lt_of_pos (IntKind.u64.wrap on) (show 0 < (m : Int) by omega)
      obtain ⟨j, hj⟩ : ∃ j : Nat, IntKind.u64.wrap on % (m : Int) = (j : Int) := ⟨_, (Int.toNat_of_nonneg hx0).symm⟩
      rw [hj] at hx0 hx1
      have hjm : j < m := by omega
      obtain ⟨g, h, sd, n, hg, hh, hd, cg, ch, sg, sh, hgW, hhW, hn, n1, n2, n3, n4, n5⟩ := HIC.out j hjm
      have HG := hid (And.intro hg (And.intro hh hd))
      have HN' := hid (And.intro n1 (And.intro n2 (And.intro n3 (And.intro n4 n5))))
      have HBx := hid (And.intro (Bk.new wr 46 #[.int .i64 on, .int .i64 kd, .int .i64 a, .int .i64 b]) ((Below.refl wr.heap.size wr).alloc (Nat.le_refl _) (.cells #[.int .i64 on, .int .i64 kd, .int .i64 a, .int .i64 b] 46)))
      have HSS := hid (And.intro sg sh)
      clear hp hpc hbel hg hh hd n1 n2 n3 n4 n5 sg sh hc hab
      by_cases k0 : kd = 0
      · subst k0
        obtain ⟨HB1, HB2⟩ := HBx.out
        have b2 := HB1.cell 2
        have b3 := HB1.cell 3
        simp only [List.getElem?_toArray, List.getElem?_cons_zero, List.getElem?_cons_succ] at b2 b3
        go_wp2_with fail
        generalize wr.alloc (.cells #[.int .i64 on, .int .i64 0, .int .i64 a, .int .i64 b] 46) = wb at *
        have HS0 : Hid (PS4 bS bT wr.heap.size j g h a b wb.drew) := hid ⟨(HB2.cell (p := ⟨bS, j, none⟩) hbS).trans cg, (HB2.cell (p := ⟨bT, j, none⟩) hbT).trans ch, b2, b3⟩
        have HIb := hid (HI.out.next HB2)
        have HRb := hid (HR.out.next HIb.out.bel)
        have hz1 := HB2.size
        have hxl := HB1.lt
        have HSg := hid (Bk.next HSS.out.1 HB2)
        have HSh := hid (Bk.next HSS.out.2 HB2)
        have hgl : g < wr.heap.size := Bk.lt HSS.out.1
        have hhl : h < wr.heap.size := Bk.lt HSS.out.2
        obtain ⟨n1, n2, n3, n4, n5⟩ := HN'.out
        have HSX : Hid (∀ w2, Only g wb.drew w2 → PS4 bS bT wr.heap.size j g h a b w2) := hid (fun w2 o => HS0.out.only o (Nat.lt_of_lt_of_le hbS hz1) (Nat.lt_of_lt_of_le hbT hz1) hxl n1 n2 (Nat.ne_of_lt hgl))
        have HSY : Hid (∀ w2 w3, Only g wb.drew w2 → Only h w2 w3 → PS4 bS bT wr.heap.size j g h a b w3) := hid (fun w2 w3 o o' => (HSX.out w2 o).only o' (Nat.lt_of_lt_of_le hbS (Nat.le_trans hz1 o.size)) (Nat.lt_of_lt_of_le hbT (Nat.le_trans hz1 o.size)) (Nat.lt_of_lt_of_le hxl o.size) n3 n4 (Nat.ne_of_lt hhl))
        have NX := hid (next_any g sd n (by omega) wb.drew HRb.out HSg.out)
        have NY := hid (fun w2 (o : Only g wb.drew w2) => refNext_any h sd n (by omega) w2 (o.bk HSh.out (fun e => n5 e.symm)))
        clear b2 b3 HB1 HB2 cg ch n1 n2 n3 n4 n5 q0 q1 q2 q3
        refine wp_region_held_drew (S := (fun w' => (w'.cell? ⟨bS, j, none⟩ = some (pt g)) ∧ (w'.cell? ⟨bT, j, none⟩ = some (pt h)) ∧ (w'.cell? ⟨wr.heap.size, 2, none⟩ = some (.int .i64 a)) ∧ (w'.cell? ⟨wr.heap.size, 3, none⟩ = some (.int .i64 b)))) (by kernel_rfl) HS0.out (fun hHeld => ?_)
        refine wpAnyH_take (i := 0) (oi := ⟨some 45, _, _, _, _, _⟩) (v := ?_) rfl (by kernel_rfl) (by kernel_rfl) (by kernel_rfl) (fun _ _ _ h => h) (Or.inl ⟨by rfl, ?_⟩) (by assumption) ?_
        rotate_left
        focus
          intro w hSw
          try dsimp only at hSw
          go_simp
          first
          | done
          | with_reducible rfl
        try simp only [Act.put, List.setIfInBounds_toArray, List.set_cons_zero, List.set_cons_succ]
        refine wpAnyH_take (i := 1) (oi := ⟨some 46, _, _, _, _, _⟩) (v := ?_) rfl (by kernel_rfl) (by kernel_rfl) (by kernel_rfl) (fun _ _ _ h => h) (Or.inl ⟨by rfl, ?_⟩) (by assumption) ?_
        rotate_left
        focus
          intro w hSw
          try dsimp only at hSw
          go_simp
          first
          | done
          | with_reducible rfl
        try simp only [Act.put, List.setIfInBounds_toArray, List.set_cons_zero, List.set_cons_succ]
        refine wpAnyH_take (i := 2) (oi := ⟨some 47, _, _, _, _, _⟩) (v := ?_) rfl (by kernel_rfl) (by kernel_rfl) (by kernel_rfl) (fun _ _ _ h => h) (Or.inl ⟨by rfl, ?_⟩) (by assumption) ?_
        rotate_left
        focus
          intro w hSw
          try dsimp only at hSw
          go_simp
          first
          | done
          | with_reducible rfl
        try simp only [Act.put, List.setIfInBounds_toArray, List.set_cons_zero, List.set_cons_succ]
        refine wpAnyH_take (i := 3) (oi := ⟨some 48, _, _, _, _, _⟩) (v := ?_) rfl (by kernel_rfl) (by kernel_rfl) (by kernel_rfl) (fun _ _ _ h => h) (Or.inl ⟨by rfl, ?_⟩) (by assumption) ?_
        rotate_left
        focus
          intro w hSw
          try dsimp only at hSw
          go_simp
          first
          | done
          | with_reducible rfl
        try simp only [Act.put, List.setIfInBounds_toArray, List.set_cons_zero, List.set_cons_succ]
        refine wpAnyH_take (i := 5) (oi := ⟨some 50, _, _, _, _, _⟩) (v := ?_) rfl (by kernel_rfl) (by kernel_rfl) (by kernel_rfl) (fun _ _ _ h => h) (Or.inl ⟨by rfl, ?_⟩) (by assumption) ?_
        rotate_left
        focus
          intro w hSw
          try dsimp only at hSw
          go_simp
          first
          | done
          | with_reducible rfl
        try simp only [Act.put, List.setIfInBounds_toArray, List.set_cons_zero, List.set_cons_succ]
        refine wpAnyH_take (i := 6) (oi := ⟨some 51, _, _, _, _, _⟩) (v := ?_) rfl (by kernel_rfl) (by kernel_rfl) (by kernel_rfl) (fun _ _ _ h => h) (Or.inl ⟨by rfl, ?_⟩) (by assumption) ?_
        rotate_left
        focus
          intro w hSw
          try dsimp only at hSw
          go_simp
          first
          | done
          | with_reducible rfl
        try simp only [Act.put, List.setIfInBounds_toArray, List.set_cons_zero, List.set_cons_succ]
        refine wpAnyH_take (i := 7) (oi := ⟨some 52, _, _, _, _, _⟩) (v := ?_) rfl (by kernel_rfl) (by kernel_rfl) (by kernel_rfl) (fun _ _ _ h => h) (Or.inl ⟨by rfl, ?_⟩) (by assumption) ?_
        rotate_left
        focus
          intro w hSw
          try dsimp only at hSw
          go_simp
          first
          | done
          | with_reducible rfl
        try simp only [Act.put, List.setIfInBounds_toArray, List.set_cons_zero, List.set_cons_succ]
        refine wpAnyH_take (i := 8) (oi := ⟨some 53, _, _, _, _, _⟩) (v := ?_) rfl (by kernel_rfl) (by kernel_rfl) (by kernel_rfl) (fun _ _ _ h => h) (Or.inl ⟨by rfl, ?_⟩) (by assumption) ?_
        rotate_left
        focus
          intro w hSw
          try dsimp only at hSw
          go_simp
          first
          | done
          | with_reducible rfl
        try simp only [Act.put, List.setIfInBounds_toArray, List.set_cons_zero, List.set_cons_succ]
        refine wpAnyH_ready (rs := [4]) (by kernel_rfl) (by simp) ?_
        refine AllReadyH.cons (o := ⟨some 49, _, _, _, _, _⟩) rfl (fun K hK => ?_) AllReadyH.nil
        go_simp
        refine NX.out.mono ?_
        rintro e w2 ⟨rfl, s1, o1⟩
        refine hK.out _ _ (HSX.out _ o1) (fun hHeld => ?_)
        clear hK K
        try simp only [Act.put, List.setIfInBounds_toArray, List.set_cons_zero, List.set_cons_succ]
        refine wpAnyH_ready (rs := [9]) (by kernel_rfl) (by simp) ?_
        refine AllReadyH.cons (o := ⟨some 54, _, _, _, _, _⟩) rfl (fun K hK => ?_) AllReadyH.nil
        go_simp
        refine (NY.out _ o1).mono ?_
        rintro e w3 ⟨rfl, s2, o2⟩
        refine hK.out _ _ (HSY.out _ _ o1 o2) (fun hHeld => ?_)
        clear hK K
        try simp only [Act.put, List.setIfInBounds_toArray, List.set_cons_zero, List.set_cons_succ]
        refine wpAnyH_take (i := 10) (oi := ⟨some 55, _, _, _, _, _⟩) (v := ?_) rfl (by kernel_rfl) (by kernel_rfl) (by kernel_rfl) (fun _ _ _ h => h) (Or.inl ⟨by rfl, ?_⟩) (by assumption) ?_
        rotate_left
        focus
          intro w hSw
          try dsimp only at hSw
          go_simp
          first
          | done
          | with_reducible rfl
        try simp only [Act.put, List.setIfInBounds_toArray, List.set_cons_zero, List.set_cons_succ]
        refine wpAnyH_take (i := 11) (oi := ⟨some 10, _, _, _, _, _⟩) (v := ?_) rfl (by kernel_rfl) (by kernel_rfl) (by kernel_rfl) (fun _ _ _ h => h) (Or.inl ⟨by rfl, ?_⟩) (by assumption) ?_
        rotate_left
        focus
          intro w hSw
          try dsimp only at hSw
          go_simp
          first
          | done
          | with_reducible rfl
        try simp only [Act.put, List.setIfInBounds_toArray, List.set_cons_zero, List.set_cons_succ]
        refine wpAnyH_done (by kernel_rfl) ?_ _
        have I2 := hid (HIb.out.step HG.out.1 HG.out.2.1 HG.out.2.2 (w1 := w2) (w2 := w3) ⟨o1.os, o1.tape, o1.output, o1.size, o1.block⟩ s1 o2 s2 (by omega))
        clear s1 s2 o1 o2 hHeld HS0 HSX HSY NX NY
        go_wp2_with fail
        go_roundw
        case rel => exact ⟨k + 1, by omega, by simp, ss, ts, _, I2.out⟩
        case measure => simp [intOf]; omega
      by_cases k1 : kd = 1
      · subst k1
        obtain ⟨HB1, HB2⟩ := HBx.out
        have b2 := HB1.cell 2
        have b3 := HB1.cell 3
        simp only [List.getElem?_toArray, List.getElem?_cons_zero, List.getElem?_cons_succ] at b2 b3
        go_wp2_with fail
        generalize wr.alloc (.cells #[.int .i64 on, .int .i64 1, .int .i64 a, .int .i64 b] 46) = wb at *
        have HS0 : Hid (PS4 bS bT wr.heap.size j g h a b wb.drew) := hid ⟨(HB2.cell (p := ⟨bS, j, none⟩) hbS).trans cg, (HB2.cell (p := ⟨bT, j, none⟩) hbT).trans ch, b2, b3⟩
        have HIb := hid (HI.out.next HB2)
        have HRb := hid (HR.out.next HIb.out.bel)
        have hz1 := HB2.size
        have hxl := HB1.lt
        have HSg := hid (Bk.next HSS.out.1 HB2)
        have HSh := hid (Bk.next HSS.out.2 HB2)
        have hgl : g < wr.heap.size := Bk.lt HSS.out.1
        have hhl : h < wr.heap.size := Bk.lt HSS.out.2
        obtain ⟨n1, n2, n3, n4, n5⟩ := HN'.out
        have HSX : Hid (∀ w2, Only g wb.drew w2 → PS4 bS bT wr.heap.size j g h a b w2) := hid (fun w2 o => HS0.out.only o (Nat.lt_of_lt_of_le hbS hz1) (Nat.lt_of_lt_of_le hbT hz1) hxl n1 n2 (Nat.ne_of_lt hgl))
        have HSY : Hid (∀ w2 w3, Only g wb.drew w2 → Only h w2 w3 → PS4 bS bT wr.heap.size j g h a b w3) := hid (fun w2 w3 o o' => (HSX.out w2 o).only o' (Nat.lt_of_lt_of_le hbS (Nat.le_trans hz1 o.size)) (Nat.lt_of_lt_of_le hbT (Nat.le_trans hz1 o.size)) (Nat.lt_of_lt_of_le hxl o.size) n3 n4 (Nat.ne_of_lt hhl))
        have NX := hid (below_all g sd n (by omega) a hpa1 wb.drew HRb.out HSg.out)
        have NY := hid (fun w2 (o : Only g wb.drew w2) => refBelow_all h sd n (by omega) a hpa1 w2 (o.bk HSh.out (fun e => n5 e.symm)))
        clear b2 b3 HB1 HB2 cg ch n1 n2 n3 n4 n5 q0 q1 q2 q3
        refine wp_region_held_drew (S := (fun w' => (w'.cell? ⟨bS, j, none⟩ = some (pt g)) ∧ (w'.cell? ⟨bT, j, none⟩ = some (pt h)) ∧ (w'.cell? ⟨wr.heap.size, 2, none⟩ = some (.int .i64 a)) ∧ (w'.cell? ⟨wr.heap.size, 3, none⟩ = some (.int .i64 b)))) (by kernel_rfl) HS0.out (fun hHeld => ?_)
        refine wpAnyH_take (i := 0) (oi := ⟨some 58, _, _, _, _, _⟩) (v := ?_) rfl (by kernel_rfl) (by kernel_rfl) (by kernel_rfl) (fun _ _ _ h => h) (Or.inl ⟨by rfl, ?_⟩) (by assumption) ?_
        rotate_left
        focus
          intro w hSw
          try dsimp only at hSw
          go_simp
          first
          | done
          | with_reducible rfl
        try simp only [Act.put, List.setIfInBounds_toArray, List.set_cons_zero, List.set_cons_succ]
        refine wpAnyH_take (i := 1) (oi := ⟨some 59, _, _, _, _, _⟩) (v := ?_) rfl (by kernel_rfl) (by kernel_rfl) (by kernel_rfl) (fun _ _ _ h => h) (Or.inl ⟨by rfl, ?_⟩) (by assumption) ?_
        rotate_left
        focus
          intro w hSw
          try dsimp only at hSw
          go_simp
          first
          | done
          | with_reducible rfl
        try simp only [Act.put, List.setIfInBounds_toArray, List.set_cons_zero, List.set_cons_succ]
        refine wpAnyH_take (i := 2) (oi := ⟨some 60, _, _, _, _, _⟩) (v := ?_) rfl (by kernel_rfl) (by kernel_rfl) (by kernel_rfl) (fun _ _ _ h => h) (Or.inl ⟨by rfl, ?_⟩) (by assumption) ?_
        rotate_left
        focus
          intro w hSw
          try dsimp only at hSw
          go_simp
          first
          | done
          | with_reducible rfl
        try simp only [Act.put, List.setIfInBounds_toArray, List.set_cons_zero, List.set_cons_succ]
        refine wpAnyH_take (i := 3) (oi := ⟨some 61, _, _, _, _, _⟩) (v := ?_) rfl (by kernel_rfl) (by kernel_rfl) (by kernel_rfl) (fun _ _ _ h => h) (Or.inl ⟨by rfl, ?_⟩) (by assumption) ?_
        rotate_left
        focus
          intro w hSw
          try dsimp only at hSw
          go_simp
          first
          | done
          | with_reducible rfl
        try simp only [Act.put, List.setIfInBounds_toArray, List.set_cons_zero, List.set_cons_succ]
        refine wpAnyH_take (i := 4) (oi := ⟨some 62, _, _, _, _, _⟩) (v := ?_) rfl (by kernel_rfl) (by kernel_rfl) (by kernel_rfl) (fun _ _ _ h => h) (Or.inl ⟨by rfl, ?_⟩) (by assumption) ?_
        rotate_left
        focus
          intro w hSw
          try dsimp only at hSw
          go_simp
          first
          | done
          | with_reducible rfl
        try simp only [Act.put, List.setIfInBounds_toArray, List.set_cons_zero, List.set_cons_succ]
        refine wpAnyH_take (i := 5) (oi := ⟨some 63, _, _, _, _, _⟩) (v := ?_) rfl (by kernel_rfl) (by kernel_rfl) (by kernel_rfl) (fun _ _ _ h => h) (Or.inl ⟨by rfl, ?_⟩) (by assumption) ?_
        rotate_left
        focus
          intro w hSw
          try dsimp only at hSw
          go_simp
          first
          | done
          | with_reducible rfl
        try simp only [Act.put, List.setIfInBounds_toArray, List.set_cons_zero, List.set_cons_succ]
        refine wpAnyH_take (i := 7) (oi := ⟨some 65, _, _, _, _, _⟩) (v := ?_) rfl (by kernel_rfl) (by kernel_rfl) (by kernel_rfl) (fun _ _ _ h => h) (Or.inl ⟨by rfl, ?_⟩) (by assumption) ?_
        rotate_left
        focus
          intro w hSw
          try dsimp only at hSw
          go_simp
          first
          | done
          | with_reducible rfl
        try simp only [Act.put, List.setIfInBounds_toArray, List.set_cons_zero, List.set_cons_succ]
        refine wpAnyH_take (i := 8) (oi := ⟨some 66, _, _, _, _, _⟩) (v := ?_) rfl (by kernel_rfl) (by kernel_rfl) (by kernel_rfl) (fun _ _ _ h => h) (Or.inl ⟨by rfl, ?_⟩) (by assumption) ?_
        rotate_left
        focus
          intro w hSw
          try dsimp only at hSw
          go_simp
          first
          | done
          | with_reducible rfl
        try simp only [Act.put, List.setIfInBounds_toArray, List.set_cons_zero, List.set_cons_succ]
        refine wpAnyH_take (i := 9) (oi := ⟨some 67, _, _, _, _, _⟩) (v := ?_) rfl (by kernel_rfl) (by kernel_rfl) (by kernel_rfl) (fun _ _ _ h => h) (Or.inl ⟨by rfl, ?_⟩) (by assumption) ?_
        rotate_left
        focus
          intro w hSw
          try dsimp only at hSw
          go_simp
          first
          | done
          | with_reducible rfl
        try simp only [Act.put, List.setIfInBounds_toArray, List.set_cons_zero, List.set_cons_succ]
        refine wpAnyH_take (i := 10) (oi := ⟨some 68, _, _, _, _, _⟩) (v := ?_) rfl (by kernel_rfl) (by kernel_rfl) (by kernel_rfl) (fun _ _ _ h => h) (Or.inl ⟨by rfl, ?_⟩) (by assumption) ?_
        rotate_left
        focus
          intro w hSw
          try dsimp only at hSw
          go_simp
          first
          | done
          | with_reducible rfl
        try simp only [Act.put, List.setIfInBounds_toArray, List.set_cons_zero, List.set_cons_succ]
        refine wpAnyH_take (i := 11) (oi := ⟨some 69, _, _, _, _, _⟩) (v := ?_) rfl (by kernel_rfl) (by kernel_rfl) (by kernel_rfl) (fun _ _ _ h => h) (Or.inl ⟨by rfl, ?_⟩) (by assumption) ?_
        rotate_left
        focus
          intro w hSw
          try dsimp only at hSw
          go_simp
          first
          | done
          | with_reducible rfl
        try simp only [Act.put, List.setIfInBounds_toArray, List.set_cons_zero, List.set_cons_succ]
        refine wpAnyH_take (i := 12) (oi := ⟨some 70, _, _, _, _, _⟩) (v := ?_) rfl (by kernel_rfl) (by kernel_rfl) (by kernel_rfl) (fun _ _ _ h => h) (Or.inl ⟨by rfl, ?_⟩) (by assumption) ?_
        rotate_left
        focus
          intro w hSw
          try dsimp only at hSw
          go_simp
          first
          | done
          | with_reducible rfl
        try simp only [Act.put, List.setIfInBounds_toArray, List.set_cons_zero, List.set_cons_succ]
        refine wpAnyH_ready (rs := [6]) (by kernel_rfl) (by simp) ?_
        refine AllReadyH.cons (o := ⟨some 64, _, _, _, _, _⟩) rfl (fun K hK => ?_) AllReadyH.nil
        go_simp
        refine NX.out.mono ?_
        rintro e w2 ⟨rfl, s1, o1⟩
        refine hK.out _ _ (HSX.out _ o1) (fun hHeld => ?_)
        clear hK K
        try simp only [Act.put, List.setIfInBounds_toArray, List.set_cons_zero, List.set_cons_succ]
        refine wpAnyH_ready (rs := [13]) (by kernel_rfl) (by simp) ?_
        refine AllReadyH.cons (o := ⟨some 71, _, _, _, _, _⟩) rfl (fun K hK => ?_) AllReadyH.nil
        go_simp
        refine (NY.out _ o1).mono ?_
        rintro e w3 ⟨rfl, s2, o2⟩
        refine hK.out _ _ (HSY.out _ _ o1 o2) (fun hHeld => ?_)
        clear hK K
        try simp only [Act.put, List.setIfInBounds_toArray, List.set_cons_zero, List.set_cons_succ]
        refine wpAnyH_take (i := 14) (oi := ⟨some 72, _, _, _, _, _⟩) (v := ?_) rfl (by kernel_rfl) (by kernel_rfl) (by kernel_rfl) (fun _ _ _ h => h) (Or.inl ⟨by rfl, ?_⟩) (by assumption) ?_
        rotate_left
        focus
          intro w hSw
          try dsimp only at hSw
          go_simp
          first
          | done
          | with_reducible rfl
        try simp only [Act.put, List.setIfInBounds_toArray, List.set_cons_zero, List.set_cons_succ]
        refine wpAnyH_take (i := 15) (oi := ⟨some 10, _, _, _, _, _⟩) (v := ?_) rfl (by kernel_rfl) (by kernel_rfl) (by kernel_rfl) (fun _ _ _ h => h) (Or.inl ⟨by rfl, ?_⟩) (by assumption) ?_
        rotate_left
        focus
          intro w hSw
          try dsimp only at hSw
          go_simp
          first
          | done
          | with_reducible rfl
        try simp only [Act.put, List.setIfInBounds_toArray, List.set_cons_zero, List.set_cons_succ]
        refine wpAnyH_done (by kernel_rfl) ?_ _
        have I2 := hid (HIb.out.step HG.out.1 HG.out.2.1 HG.out.2.2 (w1 := w2) (w2 := w3) ⟨o1.os, o1.tape, o1.output, o1.size, o1.block⟩ s1 o2 s2 (by have := bStep_le a; omega))
        clear s1 s2 o1 o2 hHeld HS0 HSX HSY NX NY
        go_wp2_with fail
        go_roundw
        case rel => exact ⟨k + 1, by omega, by simp, ss, ts, _, I2.out⟩
        case measure => simp [intOf]; omega
      by_cases k2 : kd = 2
      · subst k2
        obtain ⟨HB1, HB2⟩ := HBx.out
        have b2 := HB1.cell 2
        have b3 := HB1.cell 3
        simp only [List.getElem?_toArray, List.getElem?_cons_zero, List.getElem?_cons_succ] at b2 b3
        go_wp2_with fail
        generalize wr.alloc (.cells #[.int .i64 on, .int .i64 2, .int .i64 a, .int .i64 b] 46) = wb at *
        have HS0 : Hid (PS4 bS bT wr.heap.size j g h a b wb.drew) := hid ⟨(HB2.cell (p := ⟨bS, j, none⟩) hbS).trans cg, (HB2.cell (p := ⟨bT, j, none⟩) hbT).trans ch, b2, b3⟩
        have HIb := hid (HI.out.next HB2)
        have HRb := hid (HR.out.next HIb.out.bel)
        have hz1 := HB2.size
        have hxl := HB1.lt
        have HSg := hid (Bk.next HSS.out.1 HB2)
        have HSh := hid (Bk.next HSS.out.2 HB2)
        have hgl : g < wr.heap.size := Bk.lt HSS.out.1
        have hhl : h < wr.heap.size := Bk.lt HSS.out.2
        obtain ⟨n1, n2, n3, n4, n5⟩ := HN'.out
        have HSX : Hid (∀ w2, Only g wb.drew w2 → PS4 bS bT wr.heap.size j g h a b w2) := hid (fun w2 o => HS0.out.only o (Nat.lt_of_lt_of_le hbS hz1) (Nat.lt_of_lt_of_le hbT hz1) hxl n1 n2 (Nat.ne_of_lt hgl))
        have HSY : Hid (∀ w2 w3, Only g wb.drew w2 → Only h w2 w3 → PS4 bS bT wr.heap.size j g h a b w3) := hid (fun w2 w3 o o' => (HSX.out w2 o).only o' (Nat.lt_of_lt_of_le hbS (Nat.le_trans hz1 o.size)) (Nat.lt_of_lt_of_le hbT (Nat.le_trans hz1 o.size)) (Nat.lt_of_lt_of_le hxl o.size) n3 n4 (Nat.ne_of_lt hhl))
        have NX := hid (range_all g sd n (by omega) a b wb.drew HRb.out HSg.out)
        have NY := hid (fun w2 (o : Only g wb.drew w2) => refRange_all h sd n (by omega) a b w2 (o.bk HSh.out (fun e => n5 e.symm)))
        clear b2 b3 HB1 HB2 cg ch n1 n2 n3 n4 n5 q0 q1 q2 q3
        refine wp_region_held_drew (S := (fun w' => (w'.cell? ⟨bS, j, none⟩ = some (pt g)) ∧ (w'.cell? ⟨bT, j, none⟩ = some (pt h)) ∧ (w'.cell? ⟨wr.heap.size, 2, none⟩ = some (.int .i64 a)) ∧ (w'.cell? ⟨wr.heap.size, 3, none⟩ = some (.int .i64 b)))) (by kernel_rfl) HS0.out (fun hHeld => ?_)
        refine wpAnyH_take (i := 0) (oi := ⟨some 75, _, _, _, _, _⟩) (v := ?_) rfl (by kernel_rfl) (by kernel_rfl) (by kernel_rfl) (fun _ _ _ h => h) (Or.inl ⟨by rfl, ?_⟩) (by assumption) ?_
        rotate_left
        focus
          intro w hSw
          try dsimp only at hSw
          go_simp
          first
          | done
          | with_reducible rfl
        try simp only [Act.put, List.setIfInBounds_toArray, List.set_cons_zero, List.set_cons_succ]
        refine wpAnyH_take (i := 1) (oi := ⟨some 76, _, _, _, _, _⟩) (v := ?_) rfl (by kernel_rfl) (by kernel_rfl) (by kernel_rfl) (fun _ _ _ h => h) (Or.inl ⟨by rfl, ?_⟩) (by assumption) ?_
        rotate_left
        focus
          intro w hSw
          try dsimp only at hSw
          go_simp
          first
          | done
          | with_reducible rfl
        try simp only [Act.put, List.setIfInBounds_toArray, List.set_cons_zero, List.set_cons_succ]
        refine wpAnyH_take (i := 2) (oi := ⟨some 77, _, _, _, _, _⟩) (v := ?_) rfl (by kernel_rfl) (by kernel_rfl) (by kernel_rfl) (fun _ _ _ h => h) (Or.inl ⟨by rfl, ?_⟩) (by assumption) ?_
        rotate_left
        focus
          intro w hSw
          try dsimp only at hSw
          go_simp
          first
          | done
          | with_reducible rfl
        try simp only [Act.put, List.setIfInBounds_toArray, List.set_cons_zero, List.set_cons_succ]
        refine wpAnyH_take (i := 3) (oi := ⟨some 78, _, _, _, _, _⟩) (v := ?_) rfl (by kernel_rfl) (by kernel_rfl) (by kernel_rfl) (fun _ _ _ h => h) (Or.inl ⟨by rfl, ?_⟩) (by assumption) ?_
        rotate_left
        focus
          intro w hSw
          try dsimp only at hSw
          go_simp
          first
          | done
          | with_reducible rfl
        try simp only [Act.put, List.setIfInBounds_toArray, List.set_cons_zero, List.set_cons_succ]
        refine wpAnyH_take (i := 4) (oi := ⟨some 79, _, _, _, _, _⟩) (v := ?_) rfl (by kernel_rfl) (by kernel_rfl) (by kernel_rfl) (fun _ _ _ h => h) (Or.inl ⟨by rfl, ?_⟩) (by assumption) ?_
        rotate_left
        focus
          intro w hSw
          try dsimp only at hSw
          go_simp
          first
          | done
          | with_reducible rfl
        try simp only [Act.put, List.setIfInBounds_toArray, List.set_cons_zero, List.set_cons_succ]
        refine wpAnyH_take (i := 5) (oi := ⟨some 80, _, _, _, _, _⟩) (v := ?_) rfl (by kernel_rfl) (by kernel_rfl) (by kernel_rfl) (fun _ _ _ h => h) (Or.inl ⟨by rfl, ?_⟩) (by assumption) ?_
        rotate_left
        focus
          intro w hSw
          try dsimp only at hSw
          go_simp
          first
          | done
          | with_reducible rfl
        try simp only [Act.put, List.setIfInBounds_toArray, List.set_cons_zero, List.set_cons_succ]
        refine wpAnyH_take (i := 6) (oi := ⟨some 81, _, _, _, _, _⟩) (v := ?_) rfl (by kernel_rfl) (by kernel_rfl) (by kernel_rfl) (fun _ _ _ h => h) (Or.inl ⟨by rfl, ?_⟩) (by assumption) ?_
        rotate_left
        focus
          intro w hSw
          try dsimp only at hSw
          go_simp
          first
          | done
          | with_reducible rfl
        try simp only [Act.put, List.setIfInBounds_toArray, List.set_cons_zero, List.set_cons_succ]
        refine wpAnyH_take (i := 7) (oi := ⟨some 82, _, _, _, _, _⟩) (v := ?_) rfl (by kernel_rfl) (by kernel_rfl) (by kernel_rfl) (fun _ _ _ h => h) (Or.inl ⟨by rfl, ?_⟩) (by assumption) ?_
        rotate_left
        focus
          intro w hSw
          try dsimp only at hSw
          go_simp
          first
          | done
          | with_reducible rfl
        try simp only [Act.put, List.setIfInBounds_toArray, List.set_cons_zero, List.set_cons_succ]
        refine wpAnyH_take (i := 9) (oi := ⟨some 84, _, _, _, _, _⟩) (v := ?_) rfl (by kernel_rfl) (by kernel_rfl) (by kernel_rfl) (fun _ _ _ h => h) (Or.inl ⟨by rfl, ?_⟩) (by assumption) ?_
        rotate_left
        focus
          intro w hSw
          try dsimp only at hSw
          go_simp
          first
          | done
          | with_reducible rfl
        try simp only [Act.put, List.setIfInBounds_toArray, List.set_cons_zero, List.set_cons_succ]
        refine wpAnyH_take (i := 10) (oi := ⟨some 85, _, _, _, _, _⟩) (v := ?_) rfl (by kernel_rfl) (by kernel_rfl) (by kernel_rfl) (fun _ _ _ h => h) (Or.inl ⟨by rfl, ?_⟩) (by assumption) ?_
        rotate_left
        focus
          intro w hSw
          try dsimp only at hSw
          go_simp
          first
          | done
          | with_reducible rfl
        try simp only [Act.put, List.setIfInBounds_toArray, List.set_cons_zero, List.set_cons_succ]
        refine wpAnyH_take (i := 11) (oi := ⟨some 86, _, _, _, _, _⟩) (v := ?_) rfl (by kernel_rfl) (by kernel_rfl) (by kernel_rfl) (fun _ _ _ h => h) (Or.inl ⟨by rfl, ?_⟩) (by assumption) ?_
        rotate_left
        focus
          intro w hSw
          try dsimp only at hSw
          go_simp
          first
          | done
          | with_reducible rfl
        try simp only [Act.put, List.setIfInBounds_toArray, List.set_cons_zero, List.set_cons_succ]
        refine wpAnyH_take (i := 12) (oi := ⟨some 87, _, _, _, _, _⟩) (v := ?_) rfl (by kernel_rfl) (by kernel_rfl) (by kernel_rfl) (fun _ _ _ h => h) (Or.inl ⟨by rfl, ?_⟩) (by assumption) ?_
        rotate_left
        focus
          intro w hSw
          try dsimp only at hSw
          go_simp
          first
          | done
          | with_reducible rfl
        try simp only [Act.put, List.setIfInBounds_toArray, List.set_cons_zero, List.set_cons_succ]
        refine wpAnyH_take (i := 13) (oi := ⟨some 88, _, _, _, _, _⟩) (v := ?_) rfl (by kernel_rfl) (by kernel_rfl) (by kernel_rfl) (fun _ _ _ h => h) (Or.inl ⟨by rfl, ?_⟩) (by assumption) ?_
        rotate_left
        focus
          intro w hSw
          try dsimp only at hSw
          go_simp
          first
          | done
          | with_reducible rfl
        try simp only [Act.put, List.setIfInBounds_toArray, List.set_cons_zero, List.set_cons_succ]
        refine wpAnyH_take (i := 14) (oi := ⟨some 89, _, _, _, _, _⟩) (v := ?_) rfl (by kernel_rfl) (by kernel_rfl) (by kernel_rfl) (fun _ _ _ h => h) (Or.inl ⟨by rfl, ?_⟩) (by assumption) ?_
        rotate_left
        focus
          intro w hSw
          try dsimp only at hSw
          go_simp
          first
          | done
          | with_reducible rfl
        try simp only [Act.put, List.setIfInBounds_toArray, List.set_cons_zero, List.set_cons_succ]
        refine wpAnyH_take (i := 15) (oi := ⟨some 90, _, _, _, _, _⟩) (v := ?_) rfl (by kernel_rfl) (by kernel_rfl) (by kernel_rfl) (fun _ _ _ h => h) (Or.inl ⟨by rfl, ?_⟩) (by assumption) ?_
        rotate_left
        focus
          intro w hSw
          try dsimp only at hSw
          go_simp
          first
          | done
          | with_reducible rfl
        try simp only [Act.put, List.setIfInBounds_toArray, List.set_cons_zero, List.set_cons_succ]
        refine wpAnyH_take (i := 16) (oi := ⟨some 91, _, _, _, _, _⟩) (v := ?_) rfl (by kernel_rfl) (by kernel_rfl) (by kernel_rfl) (fun _ _ _ h => h) (Or.inl ⟨by rfl, ?_⟩) (by assumption) ?_
        rotate_left
        focus
          intro w hSw
          try dsimp only at hSw
          go_simp
          first
          | done
          | with_reducible rfl
        try simp only [Act.put, List.setIfInBounds_toArray, List.set_cons_zero, List.set_cons_succ]
        refine wpAnyH_ready (rs := [8]) (by kernel_rfl) (by simp) ?_
        refine AllReadyH.cons (o := ⟨some 83, _, _, _, _, _⟩) rfl (fun K hK => ?_) AllReadyH.nil
        go_simp
        refine NX.out.mono ?_
        rintro e w2 ⟨rfl, s1, o1⟩
        refine hK.out _ _ (HSX.out _ o1) (fun hHeld => ?_)
        clear hK K
        try simp only [Act.put, List.setIfInBounds_toArray, List.set_cons_zero, List.set_cons_succ]
        refine wpAnyH_ready (rs := [17]) (by kernel_rfl) (by simp) ?_
        refine AllReadyH.cons (o := ⟨some 92, _, _, _, _, _⟩) rfl (fun K hK => ?_) AllReadyH.nil
        go_simp
        refine (NY.out _ o1).mono ?_
        rintro e w3 ⟨rfl, s2, o2⟩
        refine hK.out _ _ (HSY.out _ _ o1 o2) (fun hHeld => ?_)
        clear hK K
        try simp only [Act.put, List.setIfInBounds_toArray, List.set_cons_zero, List.set_cons_succ]
        refine wpAnyH_take (i := 18) (oi := ⟨some 93, _, _, _, _, _⟩) (v := ?_) rfl (by kernel_rfl) (by kernel_rfl) (by kernel_rfl) (fun _ _ _ h => h) (Or.inl ⟨by rfl, ?_⟩) (by assumption) ?_
        rotate_left
        focus
          intro w hSw
          try dsimp only at hSw
          go_simp
          first
          | done
          | with_reducible rfl
        try simp only [Act.put, List.setIfInBounds_toArray, List.set_cons_zero, List.set_cons_succ]
        refine wpAnyH_take (i := 19) (oi := ⟨some 10, _, _, _, _, _⟩) (v := ?_) rfl (by kernel_rfl) (by kernel_rfl) (by kernel_rfl) (fun _ _ _ h => h) (Or.inl ⟨by rfl, ?_⟩) (by assumption) ?_
        rotate_left
        focus
          intro w hSw
          try dsimp only at hSw
          go_simp
          first
          | done
          | with_reducible rfl
        try simp only [Act.put, List.setIfInBounds_toArray, List.set_cons_zero, List.set_cons_succ]
        refine wpAnyH_done (by kernel_rfl) ?_ _
        have I2 := hid (HIb.out.step HG.out.1 HG.out.2.1 HG.out.2.2 (w1 := w2) (w2 := w3) ⟨o1.os, o1.tape, o1.output, o1.size, o1.block⟩ s1 o2 s2 (by have := rStep_le a b; omega))
        clear s1 s2 o1 o2 hHeld HS0 HSX HSY NX NY
        go_wp2_with fail
        go_roundw
        case rel => exact ⟨k + 1, by omega, by simp, ss, ts, _, I2.out⟩
        case measure => simp [intOf]; omega
      by_cases k3 : kd = 3
      · subst k3
        obtain ⟨HB1, HB2⟩ := HBx.out
        have b2 := HB1.cell 2
        have b3 := HB1.cell 3
        simp only [List.getElem?_toArray, List.getElem?_cons_zero, List.getElem?_cons_succ] at b2 b3
        go_wp2_with fail
        generalize wr.alloc (.cells #[.int .i64 on, .int .i64 3, .int .i64 a, .int .i64 b] 46) = wb at *
        have HS0 : Hid (PS4 bS bT wr.heap.size j g h a b wb.drew) := hid ⟨(HB2.cell (p := ⟨bS, j, none⟩) hbS).trans cg, (HB2.cell (p := ⟨bT, j, none⟩) hbT).trans ch, b2, b3⟩
        have HIb := hid (HI.out.next HB2)
        have HRb := hid (HR.out.next HIb.out.bel)
        have hz1 := HB2.size
        have hxl := HB1.lt
        have HSg := hid (Bk.next HSS.out.1 HB2)
        have HSh := hid (Bk.next HSS.out.2 HB2)
        have hgl : g < wr.heap.size := Bk.lt HSS.out.1
        have hhl : h < wr.heap.size := Bk.lt HSS.out.2
        obtain ⟨n1, n2, n3, n4, n5⟩ := HN'.out
        have HSX : Hid (∀ w2, Only g wb.drew w2 → PS4 bS bT wr.heap.size j g h a b w2) := hid (fun w2 o => HS0.out.only o (Nat.lt_of_lt_of_le hbS hz1) (Nat.lt_of_lt_of_le hbT hz1) hxl n1 n2 (Nat.ne_of_lt hgl))
        have HSY : Hid (∀ w2 w3, Only g wb.drew w2 → Only h w2 w3 → PS4 bS bT wr.heap.size j g h a b w3) := hid (fun w2 w3 o o' => (HSX.out w2 o).only o' (Nat.lt_of_lt_of_le hbS (Nat.le_trans hz1 o.size)) (Nat.lt_of_lt_of_le hbT (Nat.le_trans hz1 o.size)) (Nat.lt_of_lt_of_le hxl o.size) n3 n4 (Nat.ne_of_lt hhl))
        have NX := hid (perm_all g sd n (by omega) a wb.drew HRb.out (by omega) HSg.out)
        have NY := hid (fun w2 (o : Only g wb.drew w2) => refPerm_all h sd n (by omega) a w2 (o.bk HSh.out (fun e => n5 e.symm)))
        have hlen := pVal_len sd n a
        have NZ := hid (fun (A B : Option Addr) (c c' : Nat) (w2 w3 : World) (o1 : Only g wb.drew w2) (o2 : Only h w2 w3) (p : IsSl w2 A .i64 (pVal sd n a)) (q : ∀ b o, A = some ⟨b, o, none⟩ → wb.drew.heap.size ≤ b) (r : IsSl w3 B .i64 (pVal sd n a)) => equal_same A B c c' _ w3 (o2.sl p (fun b' o' e' => by have := q b' o' e'; have h5 : wb.drew.heap.size = wb.heap.size := rfl; omega)) r (by omega))
        have HSZ : Hid (∀ w2 w3 w4, Only g wb.drew w2 → Only h w2 w3 → Below w3.heap.size w3 w4 → PS4 bS bT wr.heap.size j g h a b w4) := hid (fun w2 w3 w4 o o' o2 => (HSY.out w2 w3 o o').only (Only.of_below (g := g) o2) (Nat.lt_of_lt_of_le hbS (Nat.le_trans hz1 (Nat.le_trans o.size o'.size))) (Nat.lt_of_lt_of_le hbT (Nat.le_trans hz1 (Nat.le_trans o.size o'.size))) (Nat.lt_of_lt_of_le hxl (Nat.le_trans o.size o'.size)) n1 n2 (Nat.ne_of_lt hgl))
        generalize hxl2 : (pVal sd n a).length = xl at *
        clear b2 b3 HB1 HB2 cg ch n1 n2 n3 n4 n5 q0 q1 q2 q3
        refine wp_region_held_drew (S := (fun w' => (w'.cell? ⟨bS, j, none⟩ = some (pt g)) ∧ (w'.cell? ⟨bT, j, none⟩ = some (pt h)) ∧ (w'.cell? ⟨wr.heap.size, 2, none⟩ = some (.int .i64 a)) ∧ (w'.cell? ⟨wr.heap.size, 3, none⟩ = some (.int .i64 b)))) (by kernel_rfl) HS0.out (fun hHeld => ?_)
        refine wpAnyH_take (i := 0) (oi := ⟨some 96, _, _, _, _, _⟩) (v := ?_) rfl (by kernel_rfl) (by kernel_rfl) (by kernel_rfl) (fun _ _ _ h => h) (Or.inl ⟨by rfl, ?_⟩) (by assumption) ?_
        rotate_left
        focus
          intro w hSw
          try dsimp only at hSw
          go_simp
          first
          | done
          | with_reducible rfl
        try simp only [Act.put, List.setIfInBounds_toArray, List.set_cons_zero, List.set_cons_succ]
        refine wpAnyH_take (i := 1) (oi := ⟨some 97, _, _, _, _, _⟩) (v := ?_) rfl (by kernel_rfl) (by kernel_rfl) (by kernel_rfl) (fun _ _ _ h => h) (Or.inl ⟨by rfl, ?_⟩) (by assumption) ?_
        rotate_left
        focus
          intro w hSw
          try dsimp only at hSw
          go_simp
          first
          | done
          | with_reducible rfl
        try simp only [Act.put, List.setIfInBounds_toArray, List.set_cons_zero, List.set_cons_succ]
        refine wpAnyH_take (i := 2) (oi := ⟨some 98, _, _, _, _, _⟩) (v := ?_) rfl (by kernel_rfl) (by kernel_rfl) (by kernel_rfl) (fun _ _ _ h => h) (Or.inl ⟨by rfl, ?_⟩) (by assumption) ?_
        rotate_left
        focus
          intro w hSw
          try dsimp only at hSw
          go_simp
          first
          | done
          | with_reducible rfl
        try simp only [Act.put, List.setIfInBounds_toArray, List.set_cons_zero, List.set_cons_succ]
        refine wpAnyH_take (i := 3) (oi := ⟨some 99, _, _, _, _, _⟩) (v := ?_) rfl (by kernel_rfl) (by kernel_rfl) (by kernel_rfl) (fun _ _ _ h => h) (Or.inl ⟨by rfl, ?_⟩) (by assumption) ?_
        rotate_left
        focus
          intro w hSw
          try dsimp only at hSw
          go_simp
          first
          | done
          | with_reducible rfl
        try simp only [Act.put, List.setIfInBounds_toArray, List.set_cons_zero, List.set_cons_succ]
        refine wpAnyH_take (i := 4) (oi := ⟨some 100, _, _, _, _, _⟩) (v := ?_) rfl (by kernel_rfl) (by kernel_rfl) (by kernel_rfl) (fun _ _ _ h => h) (Or.inl ⟨by rfl, ?_⟩) (by assumption) ?_
        rotate_left
        focus
          intro w hSw
          try dsimp only at hSw
          go_simp
          first
          | done
          | with_reducible rfl
        try simp only [Act.put, List.setIfInBounds_toArray, List.set_cons_zero, List.set_cons_succ]
        refine wpAnyH_take (i := 5) (oi := ⟨some 101, _, _, _, _, _⟩) (v := ?_) rfl (by kernel_rfl) (by kernel_rfl) (by kernel_rfl) (fun _ _ _ h => h) (Or.inl ⟨by rfl, ?_⟩) (by assumption) ?_
        rotate_left
        focus
          intro w hSw
          try dsimp only at hSw
          go_simp
          first
          | done
          | with_reducible rfl
        try simp only [Act.put, List.setIfInBounds_toArray, List.set_cons_zero, List.set_cons_succ]
        refine wpAnyH_take (i := 7) (oi := ⟨some 103, _, _, _, _, _⟩) (v := ?_) rfl (by kernel_rfl) (by kernel_rfl) (by kernel_rfl) (fun _ _ _ h => h) (Or.inl ⟨by rfl, ?_⟩) (by assumption) ?_
        rotate_left
        focus
          intro w hSw
          try dsimp only at hSw
          go_simp
          first
          | done
          | with_reducible rfl
        try simp only [Act.put, List.setIfInBounds_toArray, List.set_cons_zero, List.set_cons_succ]
        refine wpAnyH_take (i := 8) (oi := ⟨some 104, _, _, _, _, _⟩) (v := ?_) rfl (by kernel_rfl) (by kernel_rfl) (by kernel_rfl) (fun _ _ _ h => h) (Or.inl ⟨by rfl, ?_⟩) (by assumption) ?_
        rotate_left
        focus
          intro w hSw
          try dsimp only at hSw
          go_simp
          first
          | done
          | with_reducible rfl
        try simp only [Act.put, List.setIfInBounds_toArray, List.set_cons_zero, List.set_cons_succ]
        refine wpAnyH_take (i := 9) (oi := ⟨some 105, _, _, _, _, _⟩) (v := ?_) rfl (by kernel_rfl) (by kernel_rfl) (by kernel_rfl) (fun _ _ _ h => h) (Or.inl ⟨by rfl, ?_⟩) (by assumption) ?_
        rotate_left
        focus
          intro w hSw
          try dsimp only at hSw
          go_simp
          first
          | done
          | with_reducible rfl
        try simp only [Act.put, List.setIfInBounds_toArray, List.set_cons_zero, List.set_cons_succ]
        refine wpAnyH_take (i := 10) (oi := ⟨some 106, _, _, _, _, _⟩) (v := ?_) rfl (by kernel_rfl) (by kernel_rfl) (by kernel_rfl) (fun _ _ _ h => h) (Or.inl ⟨by rfl, ?_⟩) (by assumption) ?_
        rotate_left
        focus
          intro w hSw
          try dsimp only at hSw
          go_simp
          first
          | done
          | with_reducible rfl
        try simp only [Act.put, List.setIfInBounds_toArray, List.set_cons_zero, List.set_cons_succ]
        refine wpAnyH_take (i := 11) (oi := ⟨some 107, _, _, _, _, _⟩) (v := ?_) rfl (by kernel_rfl) (by kernel_rfl) (by kernel_rfl) (fun _ _ _ h => h) (Or.inl ⟨by rfl, ?_⟩) (by assumption) ?_
        rotate_left
        focus
          intro w hSw
          try dsimp only at hSw
          go_simp
          first
          | done
          | with_reducible rfl
        try simp only [Act.put, List.setIfInBounds_toArray, List.set_cons_zero, List.set_cons_succ]
        refine wpAnyH_take (i := 12) (oi := ⟨some 108, _, _, _, _, _⟩) (v := ?_) rfl (by kernel_rfl) (by kernel_rfl) (by kernel_rfl) (fun _ _ _ h => h) (Or.inl ⟨by rfl, ?_⟩) (by assumption) ?_
        rotate_left
        focus
          intro w hSw
          try dsimp only at hSw
          go_simp
          first
          | done
          | with_reducible rfl
        try simp only [Act.put, List.setIfInBounds_toArray, List.set_cons_zero, List.set_cons_succ]
        refine wpAnyH_ready (rs := [6]) (by kernel_rfl) (by simp) ?_
        refine AllReadyH.cons (o := ⟨some 102, _, _, _, _, _⟩) rfl (fun K hK => ?_) AllReadyH.nil
        go_simp
        refine NX.out.mono ?_
        rintro e w2 ⟨⟨pA, pc, rfl, pS, pn⟩, s1, o1⟩
        refine hK.out _ _ (HSX.out _ o1) (fun hHeld => ?_)
        clear hK K
        try simp only [Act.put, List.setIfInBounds_toArray, List.set_cons_zero, List.set_cons_succ]
        refine wpAnyH_ready (rs := [13]) (by kernel_rfl) (by simp) ?_
        refine AllReadyH.cons (o := ⟨some 109, _, _, _, _, _⟩) rfl (fun K hK => ?_) AllReadyH.nil
        go_simp
        refine (NY.out _ o1).mono ?_
        rintro e w3 ⟨⟨qA, qc, rfl, qS⟩, s2, o2⟩
        refine hK.out _ _ (HSY.out _ _ o1 o2) (fun hHeld => ?_)
        clear hK K
        try simp only [Act.put, List.setIfInBounds_toArray, List.set_cons_zero, List.set_cons_succ]
        refine wpAnyH_ready (rs := [14]) (by kernel_rfl) (by simp) ?_
        refine AllReadyH.cons (o := ⟨some 110, _, _, _, _, _⟩) rfl (fun K hK => ?_) AllReadyH.nil
        go_simp
        refine (NZ.out pA qA pc qc _ _ o1 o2 pS pn qS).mono ?_
        rintro e w4 ⟨rfl, hb4⟩
        refine hK.out _ _ (HSZ.out _ _ _ o1 o2 hb4) (fun hHeld => ?_)
        clear hK K
        try simp only [Act.put, List.setIfInBounds_toArray, List.set_cons_zero, List.set_cons_succ]
        refine wpAnyH_take (i := 15) (oi := ⟨some 10, _, _, _, _, _⟩) (v := ?_) rfl (by kernel_rfl) (by kernel_rfl) (by kernel_rfl) (fun _ _ _ h => h) (Or.inl ⟨by rfl, ?_⟩) (by assumption) ?_
        rotate_left
        focus
          intro w hSw
          try dsimp only at hSw
          go_simp
          first
          | done
          | with_reducible rfl
        try simp only [Act.put, List.setIfInBounds_toArray, List.set_cons_zero, List.set_cons_succ]
        refine wpAnyH_done (by kernel_rfl) ?_ _
        have I2 := hid (HIb.out.step HG.out.1 HG.out.2.1 HG.out.2.2 (w1 := w2) (w2 := w3) ⟨o1.os, o1.tape, o1.output, o1.size, o1.block⟩ s1 o2 s2 (by have := pStep_le a; omega))
        have I3 := hid (I2.out.next hb4)
        clear s1 s2 o1 o2 hHeld HS0 HSX HSY NX NY
        go_wp2_with fail
        go_roundw
        case rel => exact ⟨k + 1, by omega, by simp, ss, ts, _, I3.out⟩
        case measure => simp [intOf]; omega
      by_cases k4 : kd = 4
      · subst k4
        obtain ⟨HB1, HB2⟩ := HBx.out
        clear HB1
        go_wp2_with fail
        generalize wr.alloc (.cells #[.int .i64 on, .int .i64 4, .int .i64 a, .int .i64 b] 46) = wb at *
        have HP : Hid (Pl2 W (.slice (some ⟨bS, 0, none⟩) m cS) (.slice (some ⟨bT, 0, none⟩) m cT) wb.drew ss ss ts ts d d) := hid ((HI.out.next HB2).two.next (Below.refl _ _).drew)
        have hls := HI.out.a.len
        have hlt_ := HI.out.b.len
        have hld := HI.out.ln
        have HLS := hid (show ss.length ≤ 1000 by omega)
        have HLT := hid (show ts.length ≤ 1000 by omega)
        clear HB2 cg ch q0 q1 q2 q3 hls hlt_ hld
        refine wp_region_held_drew (S := fun _ => True) (by kernel_rfl) trivial (fun hHeld => ?_)
        refine wpAnyH_take (i := 0) (oi := ⟨some 113, _, _, _, _, _⟩) (v := ?_) rfl (by kernel_rfl) (by kernel_rfl) (by kernel_rfl) (fun _ _ _ h => h) (Or.inl ⟨by rfl, ?_⟩) (by assumption) ?_
        rotate_left
        focus
          intro w hSw
          go_simp
          first
          | done
          | with_reducible rfl
        try simp only [Act.put, List.setIfInBounds_toArray, List.set_cons_zero, List.set_cons_succ]
        refine wpAnyH_take (i := 1) (oi := ⟨some 114, _, _, _, _, _⟩) (v := ?_) rfl (by kernel_rfl) (by kernel_rfl) (by kernel_rfl) (fun _ _ _ h => h) (Or.inl ⟨by rfl, ?_⟩) (by assumption) ?_
        rotate_left
        focus
          intro w hSw
          go_simp
          first
          | done
          | with_reducible rfl
        try simp only [Act.put, List.setIfInBounds_toArray, List.set_cons_zero, List.set_cons_succ]
        refine wpAnyH_take (i := 2) (oi := ⟨some 115, _, _, _, _, _⟩) (v := ?_) rfl (by kernel_rfl) (by kernel_rfl) (by kernel_rfl) (fun _ _ _ h => h) (Or.inl ⟨by rfl, ?_⟩) (by assumption) ?_
        rotate_left
        focus
          intro w hSw
          go_simp
          first
          | done
          | with_reducible rfl
        try simp only [Act.put, List.setIfInBounds_toArray, List.set_cons_zero, List.set_cons_succ]
        refine wpAnyH_take (i := 3) (oi := ⟨some 116, _, _, _, _, _⟩) (v := ?_) rfl (by kernel_rfl) (by kernel_rfl) (by kernel_rfl) (fun _ _ _ h => h) (Or.inl ⟨by rfl, ?_⟩) (by assumption) ?_
        rotate_left
        focus
          intro w hSw
          go_simp
          first
          | done
          | with_reducible rfl
        try simp only [Act.put, List.setIfInBounds_toArray, List.set_cons_zero, List.set_cons_succ]
        refine wpAnyH_take (i := 8) (oi := ⟨some 121, _, _, _, _, _⟩) (v := ?_) rfl (by kernel_rfl) (by kernel_rfl) (by kernel_rfl) (fun _ _ _ h => h) (Or.inl ⟨by rfl, ?_⟩) (by assumption) ?_
        rotate_left
        focus
          intro w hSw
          go_simp
          first
          | done
          | with_reducible rfl
        try simp only [Act.put, List.setIfInBounds_toArray, List.set_cons_zero, List.set_cons_succ]
        refine wpAnyH_take (i := 9) (oi := ⟨some 122, _, _, _, _, _⟩) (v := ?_) rfl (by kernel_rfl) (by kernel_rfl) (by kernel_rfl) (fun _ _ _ h => h) (Or.inl ⟨by rfl, ?_⟩) (by assumption) ?_
        rotate_left
        focus
          intro w hSw
          go_simp
          first
          | done
          | with_reducible rfl
        try simp only [Act.put, List.setIfInBounds_toArray, List.set_cons_zero, List.set_cons_succ]
        refine wpAnyH_take (i := 10) (oi := ⟨some 123, _, _, _, _, _⟩) (v := ?_) rfl (by kernel_rfl) (by kernel_rfl) (by kernel_rfl) (fun _ _ _ h => h) (Or.inl ⟨by rfl, ?_⟩) (by assumption) ?_
        rotate_left
        focus
          intro w hSw
          go_simp
          first
          | done
          | with_reducible rfl
        try simp only [Act.put, List.setIfInBounds_toArray, List.set_cons_zero, List.set_cons_succ]
        refine wpAnyH_take (i := 11) (oi := ⟨some 124, _, _, _, _, _⟩) (v := ?_) rfl (by kernel_rfl) (by kernel_rfl) (by kernel_rfl) (fun _ _ _ h => h) (Or.inl ⟨by rfl, ?_⟩) (by assumption) ?_
        rotate_left
        focus
          intro w hSw
          go_simp
          first
          | done
          | with_reducible rfl
        try simp only [Act.put, List.setIfInBounds_toArray, List.set_cons_zero, List.set_cons_succ]
        refine wpAnyH_ready (rs := [4, 12]) (by kernel_rfl) (by simp) ?_
        refine AllReadyH.cons (o := ⟨some 117, _, _, _, _, _⟩) rfl (fun K hK => ?_) (AllReadyH.cons (o := ⟨some 125, _, _, _, _, _⟩) rfl (fun K hK => ?_) AllReadyH.nil)
        · have cL := HP.out.load1 HG.out.1
          go_simp
          clear cL
          refine hK.out _ _ trivial (fun hHeld => ?_)
          clear hK K
          try simp only [Act.put, List.setIfInBounds_toArray, List.set_cons_zero, List.set_cons_succ]
          refine wpAnyH_ready (rs := [5, 12]) (by kernel_rfl) (by simp) ?_
          refine AllReadyH.cons (o := ⟨some 118, _, _, _, _, _⟩) rfl (fun K hK => ?_) (AllReadyH.cons (o := ⟨some 125, _, _, _, _, _⟩) rfl (fun K hK => ?_) AllReadyH.nil)
          · go_simp
            refine (fork_any g sd n (by omega) _ (HR.out.next HP.out.bel) (HP.out.a.src j g _ HG.out.1 HG.out.2.2)).mono ?_
            rintro e wq1 ⟨f1, rfl, hf1, sf1, sg1, ho1⟩
            replace HP := hid (HP.out.fork1 HG.out.1 ho1 sg1 sf1 hf1)
            clear sf1 sg1 ho1 hf1
            refine hK.out _ _ trivial (fun hHeld => ?_)
            clear hK K
            try simp only [Act.put, List.setIfInBounds_toArray, List.set_cons_zero, List.set_cons_succ]
            refine wpAnyH_ready (rs := [6, 12]) (by kernel_rfl) (by simp) ?_
            refine AllReadyH.cons (o := ⟨some 119, _, _, _, _, _⟩) rfl (fun K hK => ?_) (AllReadyH.cons (o := ⟨some 125, _, _, _, _, _⟩) rfl (fun K hK => ?_) AllReadyH.nil)
            · go_simp
              have KB1 := hid (Bk.new wq1 27 #[pt f1])
              replace HP := hid (HP.out.next ((Below.refl _ _).alloc (Nat.le_refl _) (.cells #[pt f1] 27)))
              generalize wq1.alloc (.cells #[pt f1] 27) = wq2 at *
              generalize wq1.heap.size = z1 at *
              refine hK.out _ _ trivial (fun hHeld => ?_)
              clear hK K
              try simp only [Act.put, List.setIfInBounds_toArray, List.set_cons_zero, List.set_cons_succ]
              refine wpAnyH_ready (rs := [7, 12]) (by kernel_rfl) (by simp) ?_
              refine AllReadyH.cons (o := ⟨some 120, _, _, _, _, _⟩) rfl (fun K hK => ?_) (AllReadyH.cons (o := ⟨some 125, _, _, _, _, _⟩) rfl (fun K hK => ?_) AllReadyH.nil)
              · refine step_app_pt (by rfl) (.tmp 113) (.tmp 119) 41 27 (by rfl) Tryd.underlying41 info_p27 W.heap.size _ ss (by rfl) HP.out.s z1 f1 (by rfl) KB1.out HLS.out HP.out.bel.size ?_
                intro g1 cap1 wq3 O1 hg1
                replace HP := hid (HP.out.app1 hg1 O1)
                clear O1 hg1 KB1
                refine hK.out _ _ trivial (fun hHeld => ?_)
                clear hK K
                try simp only [Act.put, List.setIfInBounds_toArray, List.set_cons_zero, List.set_cons_succ]
                refine wpAnyH_ready (rs := [12]) (by kernel_rfl) (by simp) ?_
                refine AllReadyH.cons (o := ⟨some 125, _, _, _, _, _⟩) rfl (fun K hK => ?_) AllReadyH.nil
                have cL := HP.out.load2 HG.out.2.1
                go_simp
                clear cL
                refine hK.out _ _ trivial (fun hHeld => ?_)
                clear hK K
                try simp only [Act.put, List.setIfInBounds_toArray, List.set_cons_zero, List.set_cons_succ]
                refine wpAnyH_ready (rs := [13]) (by kernel_rfl) (by simp) ?_
                refine AllReadyH.cons (o := ⟨some 126, _, _, _, _, _⟩) rfl (fun K hK => ?_) AllReadyH.nil
                go_simp
                refine (refFork_any h sd n (by omega) _ (HP.out.b.src j h _ HG.out.2.1 HG.out.2.2)).mono ?_
                rintro e wq5 ⟨f2, rfl, hf2, sf2, sg2, ho2⟩
                replace HP := hid (HP.out.fork2 HG.out.2.1 ho2 sg2 sf2 hf2)
                clear sf2 sg2 ho2 hf2
                refine hK.out _ _ trivial (fun hHeld => ?_)
                clear hK K
                try simp only [Act.put, List.setIfInBounds_toArray, List.set_cons_zero, List.set_cons_succ]
                refine wpAnyH_ready (rs := [14]) (by kernel_rfl) (by simp) ?_
                refine AllReadyH.cons (o := ⟨some 127, _, _, _, _, _⟩) rfl (fun K hK => ?_) AllReadyH.nil
                go_simp
                have KB2 := hid (Bk.new wq5 42 #[pt f2])
                replace HP := hid (HP.out.next ((Below.refl _ _).alloc (Nat.le_refl _) (.cells #[pt f2] 42)))
                generalize wq5.alloc (.cells #[pt f2] 42) = wq6 at *
                generalize wq5.heap.size = z2 at *
                refine hK.out _ _ trivial (fun hHeld => ?_)
                clear hK K
                try simp only [Act.put, List.setIfInBounds_toArray, List.set_cons_zero, List.set_cons_succ]
                refine wpAnyH_ready (rs := [15]) (by kernel_rfl) (by simp) ?_
                refine AllReadyH.cons (o := ⟨some 128, _, _, _, _, _⟩) rfl (fun K hK => ?_) AllReadyH.nil
                refine step_app_pt (by rfl) (.tmp 121) (.tmp 127) 44 42 (by rfl) Tryd.underlying44 info_p42 W.heap.size _ ts (by rfl) HP.out.t z2 f2 (by rfl) KB2.out HLT.out HP.out.bel.size ?_
                intro g2 cap2 wq7 O2 hg2
                replace HP := hid (HP.out.app2 hg2 O2)
                clear O2 hg2 KB2
                refine hK.out _ _ trivial (fun hHeld => ?_)
                clear hK K
                try simp only [Act.put, List.setIfInBounds_toArray, List.set_cons_zero, List.set_cons_succ]
                refine wpAnyH_take (i := 16) (oi := ⟨some 5, _, _, _, _, _⟩) (v := ?_) rfl (by kernel_rfl) (by kernel_rfl) (by kernel_rfl) (fun _ _ _ h => h) (Or.inl ⟨by rfl, ?_⟩) (by assumption) ?_
                rotate_left
                focus
                  intro w hSw
                  go_simp
                  first
                  | done
                  | with_reducible rfl
                try simp only [Act.put, List.setIfInBounds_toArray, List.set_cons_zero, List.set_cons_succ]
                refine wpAnyH_take (i := 17) (oi := ⟨some 6, _, _, _, _, _⟩) (v := ?_) rfl (by kernel_rfl) (by kernel_rfl) (by kernel_rfl) (fun _ _ _ h => h) (Or.inl ⟨by rfl, ?_⟩) (by assumption) ?_
                rotate_left
                focus
                  intro w hSw
                  go_simp
                  first
                  | done
                  | with_reducible rfl
                try simp only [Act.put, List.setIfInBounds_toArray, List.set_cons_zero, List.set_cons_succ]
                refine wpAnyH_done (by kernel_rfl) ?_ _
                have hIN := hid (HP.out.back hn HI.out.small HI.out.ln)
                go_wp2_with fail
                go_roundw
                case rel => exact ⟨k + 1, by omega, by simp, _, _, _, hIN.out⟩
                case measure => simp [intOf]; omega
              · have cL := HP.out.load2 HG.out.2.1
                go_simp
                clear cL
                refine hK.out _ _ trivial (fun hHeld => ?_)
                clear hK K
                try simp only [Act.put, List.setIfInBounds_toArray, List.set_cons_zero, List.set_cons_succ]
                refine wpAnyH_ready (rs := [7]) (by kernel_rfl) (by simp) ?_
                refine AllReadyH.cons (o := ⟨some 120, _, _, _, _, _⟩) rfl (fun K hK => ?_) AllReadyH.nil
                refine step_app_pt (by rfl) (.tmp 113) (.tmp 119) 41 27 (by rfl) Tryd.underlying41 info_p27 W.heap.size _ ss (by rfl) HP.out.s z1 f1 (by rfl) KB1.out HLS.out HP.out.bel.size ?_
                intro g1 cap1 wq4 O1 hg1
                replace HP := hid (HP.out.app1 hg1 O1)
                clear O1 hg1 KB1
                refine hK.out _ _ trivial (fun hHeld => ?_)
                clear hK K
                try simp only [Act.put, List.setIfInBounds_toArray, List.set_cons_zero, List.set_cons_succ]
                refine wpAnyH_ready (rs := [13]) (by kernel_rfl) (by simp) ?_
                refine AllReadyH.cons (o := ⟨some 126, _, _, _, _, _⟩) rfl (fun K hK => ?_) AllReadyH.nil
                go_simp
                refine (refFork_any h sd n (by omega) _ (HP.out.b.src j h _ HG.out.2.1 HG.out.2.2)).mono ?_
                rintro e wq5 ⟨f2, rfl, hf2, sf2, sg2, ho2⟩
                replace HP := hid (HP.out.fork2 HG.out.2.1 ho2 sg2 sf2 hf2)
                clear sf2 sg2 ho2 hf2
                refine hK.out _ _ trivial (fun hHeld => ?_)
                clear hK K
                try simp only [Act.put, List.setIfInBounds_toArray, List.set_cons_zero, List.set_cons_succ]
                refine wpAnyH_ready (rs := [14]) (by kernel_rfl) (by simp) ?_
                refine AllReadyH.cons (o := ⟨some 127, _, _, _, _, _⟩) rfl (fun K hK => ?_) AllReadyH.nil
                go_simp
                have KB2 := hid (Bk.new wq5 42 #[pt f2])
                replace HP := hid (HP.out.next ((Below.refl _ _).alloc (Nat.le_refl _) (.cells #[pt f2] 42)))
                generalize wq5.alloc (.cells #[pt f2] 42) = wq6 at *
                generalize wq5.heap.size = z2 at *
                refine hK.out _ _ trivial (fun hHeld => ?_)
                clear hK K
                try simp only [Act.put, List.setIfInBounds_toArray, List.set_cons_zero, List.set_cons_succ]
                refine wpAnyH_ready (rs := [15]) (by kernel_rfl) (by simp) ?_
                refine AllReadyH.cons (o := ⟨some 128, _, _, _, _, _⟩) rfl (fun K hK => ?_) AllReadyH.nil
                refine step_app_pt (by rfl) (.tmp 121) (.tmp 127) 44 42 (by rfl) Tryd.underlying44 info_p42 W.heap.size _ ts (by rfl) HP.out.t z2 f2 (by rfl) KB2.out HLT.out HP.out.bel.size ?_
                intro g2 cap2 wq7 O2 hg2
                replace HP := hid (HP.out.app2 hg2 O2)
                clear O2 hg2 KB2
                refine hK.out _ _ trivial (fun hHeld => ?_)
                clear hK K
                try simp only [Act.put, List.setIfInBounds_toArray, List.set_cons_zero, List.set_cons_succ]
                refine wpAnyH_take (i := 16) (oi := ⟨some 5, _, _, _, _, _⟩) (v := ?_) rfl (by kernel_rfl) (by kernel_rfl) (by kernel_rfl) (fun _ _ _ h => h) (Or.inl ⟨by rfl, ?_⟩) (by assumption) ?_
                rotate_left
                focus
                  intro w hSw
                  go_simp
                  first
                  | done
                  | with_reducible rfl
                try simp only [Act.put, List.setIfInBounds_toArray, List.set_cons_zero, List.set_cons_succ]
                refine wpAnyH_take (i := 17) (oi := ⟨some 6, _, _, _, _, _⟩) (v := ?_) rfl (by kernel_rfl) (by kernel_rfl) (by kernel_rfl) (fun _ _ _ h => h) (Or.inl ⟨by rfl, ?_⟩) (by assumption) ?_
                rotate_left
                focus
                  intro w hSw
                  go_simp
                  first
                  | done
                  | with_reducible rfl
                try simp only [Act.put, List.setIfInBounds_toArray, List.set_cons_zero, List.set_cons_succ]
                refine wpAnyH_done (by kernel_rfl) ?_ _
                have hIN := hid (HP.out.back hn HI.out.small HI.out.ln)
                go_wp2_with fail
                go_roundw
                case rel => exact ⟨k + 1, by omega, by simp, _, _, _, hIN.out⟩
                case measure => simp [intOf]; omega
            · have cL := HP.out.load2 HG.out.2.1
              go_simp
              clear cL
              refine hK.out _ _ trivial (fun hHeld => ?_)
              clear hK K
              try simp only [Act.put, List.setIfInBounds_toArray, List.set_cons_zero, List.set_cons_succ]
              refine wpAnyH_ready (rs := [6]) (by kernel_rfl) (by simp) ?_
              refine AllReadyH.cons (o := ⟨some 119, _, _, _, _, _⟩) rfl (fun K hK => ?_) AllReadyH.nil
              go_simp
              have KB1 := hid (Bk.new wq1 27 #[pt f1])
              replace HP := hid (HP.out.next ((Below.refl _ _).alloc (Nat.le_refl _) (.cells #[pt f1] 27)))
              generalize wq1.alloc (.cells #[pt f1] 27) = wq3 at *
              generalize wq1.heap.size = z1 at *
              refine hK.out _ _ trivial (fun hHeld => ?_)
              clear hK K
              try simp only [Act.put, List.setIfInBounds_toArray, List.set_cons_zero, List.set_cons_succ]
              refine wpAnyH_ready (rs := [7]) (by kernel_rfl) (by simp) ?_
              refine AllReadyH.cons (o := ⟨some 120, _, _, _, _, _⟩) rfl (fun K hK => ?_) AllReadyH.nil
              refine step_app_pt (by rfl) (.tmp 113) (.tmp 119) 41 27 (by rfl) Tryd.underlying41 info_p27 W.heap.size _ ss (by rfl) HP.out.s z1 f1 (by rfl) KB1.out HLS.out HP.out.bel.size ?_
              intro g1 cap1 wq4 O1 hg1
              replace HP := hid (HP.out.app1 hg1 O1)
              clear O1 hg1 KB1
              refine hK.out _ _ trivial (fun hHeld => ?_)
              clear hK K
              try simp only [Act.put, List.setIfInBounds_toArray, List.set_cons_zero, List.set_cons_succ]
              refine wpAnyH_ready (rs := [13]) (by kernel_rfl) (by simp) ?_
              refine AllReadyH.cons (o := ⟨some 126, _, _, _, _, _⟩) rfl (fun K hK => ?_) AllReadyH.nil
              go_simp
              refine (refFork_any h sd n (by omega) _ (HP.out.b.src j h _ HG.out.2.1 HG.out.2.2)).mono ?_
              rintro e wq5 ⟨f2, rfl, hf2, sf2, sg2, ho2⟩
              replace HP := hid (HP.out.fork2 HG.out.2.1 ho2 sg2 sf2 hf2)
              clear sf2 sg2 ho2 hf2
              refine hK.out _ _ trivial (fun hHeld => ?_)
              clear hK K
              try simp only [Act.put, List.setIfInBounds_toArray, List.set_cons_zero, List.set_cons_succ]
              refine wpAnyH_ready (rs := [14]) (by kernel_rfl) (by simp) ?_
              refine AllReadyH.cons (o := ⟨some 127, _, _, _, _, _⟩) rfl (fun K hK => ?_) AllReadyH.nil
              go_simp
              have KB2 := hid (Bk.new wq5 42 #[pt f2])
              replace HP := hid (HP.out.next ((Below.refl _ _).alloc (Nat.le_refl _) (.cells #[pt f2] 42)))
              generalize wq5.alloc (.cells #[pt f2] 42) = wq6 at *
              generalize wq5.heap.size = z2 at *
              refine hK.out _ _ trivial (fun hHeld => ?_)
              clear hK K
              try simp only [Act.put, List.setIfInBounds_toArray, List.set_cons_zero, List.set_cons_succ]
              refine wpAnyH_ready (rs := [15]) (by kernel_rfl) (by simp) ?_
              refine AllReadyH.cons (o := ⟨some 128, _, _, _, _, _⟩) rfl (fun K hK => ?_) AllReadyH.nil
              refine step_app_pt (by rfl) (.tmp 121) (.tmp 127) 44 42 (by rfl) Tryd.underlying44 info_p42 W.heap.size _ ts (by rfl) HP.out.t z2 f2 (by rfl) KB2.out HLT.out HP.out.bel.size ?_
              intro g2 cap2 wq7 O2 hg2
              replace HP := hid (HP.out.app2 hg2 O2)
              clear O2 hg2 KB2
              refine hK.out _ _ trivial (fun hHeld => ?_)
              clear hK K
              try simp only [Act.put, List.setIfInBounds_toArray, List.set_cons_zero, List.set_cons_succ]
              refine wpAnyH_take (i := 16) (oi := ⟨some 5, _, _, _, _, _⟩) (v := ?_) rfl (by kernel_rfl) (by kernel_rfl) (by kernel_rfl) (fun _ _ _ h => h) (Or.inl ⟨by rfl, ?_⟩) (by assumption) ?_
              rotate_left
              focus
                intro w hSw
                go_simp
                first
                | done
                | with_reducible rfl
              try simp only [Act.put, List.setIfInBounds_toArray, List.set_cons_zero, List.set_cons_succ]
              refine wpAnyH_take (i := 17) (oi := ⟨some 6, _, _, _, _, _⟩) (v := ?_) rfl (by kernel_rfl) (by kernel_rfl) (by kernel_rfl) (fun _ _ _ h => h) (Or.inl ⟨by rfl, ?_⟩) (by assumption) ?_
              rotate_left
              focus
                intro w hSw
                go_simp
                first
                | done
                | with_reducible rfl
              try simp only [Act.put, List.setIfInBounds_toArray, List.set_cons_zero, List.set_cons_succ]
              refine wpAnyH_done (by kernel_rfl) ?_ _
              have hIN := hid (HP.out.back hn HI.out.small HI.out.ln)
              go_wp2_with fail
              go_roundw
              case rel => exact ⟨k + 1, by omega, by simp, _, _, _, hIN.out⟩
              case measure => simp [intOf]; omega
          · have cL := HP.out.load2 HG.out.2.1
            go_simp
            clear cL
            refine hK.out _ _ trivial (fun hHeld => ?_)
            clear hK K
            try simp only [Act.put, List.setIfInBounds_toArray, List.set_cons_zero, List.set_cons_succ]
            refine wpAnyH_ready (rs := [5]) (by kernel_rfl) (by simp) ?_
            refine AllReadyH.cons (o := ⟨some 118, _, _, _, _, _⟩) rfl (fun K hK => ?_) AllReadyH.nil
            go_simp
            refine (fork_any g sd n (by omega) _ (HR.out.next HP.out.bel) (HP.out.a.src j g _ HG.out.1 HG.out.2.2)).mono ?_
            rintro e wq2 ⟨f1, rfl, hf1, sf1, sg1, ho1⟩
            replace HP := hid (HP.out.fork1 HG.out.1 ho1 sg1 sf1 hf1)
            clear sf1 sg1 ho1 hf1
            refine hK.out _ _ trivial (fun hHeld => ?_)
            clear hK K
            try simp only [Act.put, List.setIfInBounds_toArray, List.set_cons_zero, List.set_cons_succ]
            refine wpAnyH_ready (rs := [6]) (by kernel_rfl) (by simp) ?_
            refine AllReadyH.cons (o := ⟨some 119, _, _, _, _, _⟩) rfl (fun K hK => ?_) AllReadyH.nil
            go_simp
            have KB1 := hid (Bk.new wq2 27 #[pt f1])
            replace HP := hid (HP.out.next ((Below.refl _ _).alloc (Nat.le_refl _) (.cells #[pt f1] 27)))
            generalize wq2.alloc (.cells #[pt f1] 27) = wq3 at *
            generalize wq2.heap.size = z1 at *
            refine hK.out _ _ trivial (fun hHeld => ?_)
            clear hK K
            try simp only [Act.put, List.setIfInBounds_toArray, List.set_cons_zero, List.set_cons_succ]
            refine wpAnyH_ready (rs := [7]) (by kernel_rfl) (by simp) ?_
            refine AllReadyH.cons (o := ⟨some 120, _, _, _, _, _⟩) rfl (fun K hK => ?_) AllReadyH.nil
            refine step_app_pt (by rfl) (.tmp 113) (.tmp 119) 41 27 (by rfl) Tryd.underlying41 info_p27 W.heap.size _ ss (by rfl) HP.out.s z1 f1 (by rfl) KB1.out HLS.out HP.out.bel.size ?_
            intro g1 cap1 wq4 O1 hg1
            replace HP := hid (HP.out.app1 hg1 O1)
            clear O1 hg1 KB1
            refine hK.out _ _ trivial (fun hHeld => ?_)
            clear hK K
            try simp only [Act.put, List.setIfInBounds_toArray, List.set_cons_zero, List.set_cons_succ]
            refine wpAnyH_ready (rs := [13]) (by kernel_rfl) (by simp) ?_
            refine AllReadyH.cons (o := ⟨some 126, _, _, _, _, _⟩) rfl (fun K hK => ?_) AllReadyH.nil
            go_simp
            refine (refFork_any h sd n (by omega) _ (HP.out.b.src j h _ HG.out.2.1 HG.out.2.2)).mono ?_
            rintro e wq5 ⟨f2, rfl, hf2, sf2, sg2, ho2⟩
            replace HP := hid (HP.out.fork2 HG.out.2.1 ho2 sg2 sf2 hf2)
            clear sf2 sg2 ho2 hf2
            refine hK.out _ _ trivial (fun hHeld => ?_)
            clear hK K
            try simp only [Act.put, List.setIfInBounds_toArray, List.set_cons_zero, List.set_cons_succ]
            refine wpAnyH_ready (rs := [14]) (by kernel_rfl) (by simp) ?_
            refine AllReadyH.cons (o := ⟨some 127, _, _, _, _, _⟩) rfl (fun K hK => ?_) AllReadyH.nil
            go_simp
            have KB2 := hid (Bk.new wq5 42 #[pt f2])
            replace HP := hid (HP.out.next ((Below.refl _ _).alloc (Nat.le_refl _) (.cells #[pt f2] 42)))
            generalize wq5.alloc (.cells #[pt f2] 42) = wq6 at *
            generalize wq5.heap.size = z2 at *
            refine hK.out _ _ trivial (fun hHeld => ?_)
            clear hK K
            try simp only [Act.put, List.setIfInBounds_toArray, List.set_cons_zero, List.set_cons_succ]
            refine wpAnyH_ready (rs := [15]) (by kernel_rfl) (by simp) ?_
            refine AllReadyH.cons (o := ⟨some 128, _, _, _, _, _⟩) rfl (fun K hK => ?_) AllReadyH.nil
            refine step_app_pt (by rfl) (.tmp 121) (.tmp 127) 44 42 (by rfl) Tryd.underlying44 info_p42 W.heap.size _ ts (by rfl) HP.out.t z2 f2 (by rfl) KB2.out HLT.out HP.out.bel.size ?_
            intro g2 cap2 wq7 O2 hg2
            replace HP := hid (HP.out.app2 hg2 O2)
            clear O2 hg2 KB2
            refine hK.out _ _ trivial (fun hHeld => ?_)
            clear hK K
            try simp only [Act.put, List.setIfInBounds_toArray, List.set_cons_zero, List.set_cons_succ]
            refine wpAnyH_take (i := 16) (oi := ⟨some 5, _, _, _, _, _⟩) (v := ?_) rfl (by kernel_rfl) (by kernel_rfl) (by kernel_rfl) (fun _ _ _ h => h) (Or.inl ⟨by rfl, ?_⟩) (by assumption) ?_
            rotate_left
            focus
              intro w hSw
              go_simp
              first
              | done
              | with_reducible rfl
            try simp only [Act.put, List.setIfInBounds_toArray, List.set_cons_zero, List.set_cons_succ]
            refine wpAnyH_take (i := 17) (oi := ⟨some 6, _, _, _, _, _⟩) (v := ?_) rfl (by kernel_rfl) (by kernel_rfl) (by kernel_rfl) (fun _ _ _ h => h) (Or.inl ⟨by rfl, ?_⟩) (by assumption) ?_
            rotate_left
            focus
              intro w hSw
              go_simp
              first
              | done
              | with_reducible rfl
            try simp only [Act.put, List.setIfInBounds_toArray, List.set_cons_zero, List.set_cons_succ]
            refine wpAnyH_done (by kernel_rfl) ?_ _
            have hIN := hid (HP.out.back hn HI.out.small HI.out.ln)
            go_wp2_with fail
            go_roundw
            case rel => exact ⟨k + 1, by omega, by simp, _, _, _, hIN.out⟩
            case measure => simp [intOf]; omega
        · have cL := HP.out.load2 HG.out.2.1
          go_simp
          clear cL
          refine hK.out _ _ trivial (fun hHeld => ?_)
          clear hK K
          try simp only [Act.put, List.setIfInBounds_toArray, List.set_cons_zero, List.set_cons_succ]
          refine wpAnyH_ready (rs := [4]) (by kernel_rfl) (by simp) ?_
          refine AllReadyH.cons (o := ⟨some 117, _, _, _, _, _⟩) rfl (fun K hK => ?_) AllReadyH.nil
          have cL := HP.out.load1 HG.out.1
          go_simp
          clear cL
          refine hK.out _ _ trivial (fun hHeld => ?_)
          clear hK K
          try simp only [Act.put, List.setIfInBounds_toArray, List.set_cons_zero, List.set_cons_succ]
          refine wpAnyH_ready (rs := [5]) (by kernel_rfl) (by simp) ?_
          refine AllReadyH.cons (o := ⟨some 118, _, _, _, _, _⟩) rfl (fun K hK => ?_) AllReadyH.nil
          go_simp
          refine (fork_any g sd n (by omega) _ (HR.out.next HP.out.bel) (HP.out.a.src j g _ HG.out.1 HG.out.2.2)).mono ?_
          rintro e wq2 ⟨f1, rfl, hf1, sf1, sg1, ho1⟩
          replace HP := hid (HP.out.fork1 HG.out.1 ho1 sg1 sf1 hf1)
          clear sf1 sg1 ho1 hf1
          refine hK.out _ _ trivial (fun hHeld => ?_)
          clear hK K
          try simp only [Act.put, List.setIfInBounds_toArray, List.set_cons_zero, List.set_cons_succ]
          refine wpAnyH_ready (rs := [6]) (by kernel_rfl) (by simp) ?_
          refine AllReadyH.cons (o := ⟨some 119, _, _, _, _, _⟩) rfl (fun K hK => ?_) AllReadyH.nil
          go_simp
          have KB1 := hid (Bk.new wq2 27 #[pt f1])
          replace HP := hid (HP.out.next ((Below.refl _ _).alloc (Nat.le_refl _) (.cells #[pt f1] 27)))
          generalize wq2.alloc (.cells #[pt f1] 27) = wq3 at *
          generalize wq2.heap.size = z1 at *
          refine hK.out _ _ trivial (fun hHeld => ?_)
          clear hK K
          try simp only [Act.put, List.setIfInBounds_toArray, List.set_cons_zero, List.set_cons_succ]
          refine wpAnyH_ready (rs := [7]) (by kernel_rfl) (by simp) ?_
          refine AllReadyH.cons (o := ⟨some 120, _, _, _, _, _⟩) rfl (fun K hK => ?_) AllReadyH.nil
          refine step_app_pt (by rfl) (.tmp 113) (.tmp 119) 41 27 (by rfl) Tryd.underlying41 info_p27 W.heap.size _ ss (by rfl) HP.out.s z1 f1 (by rfl) KB1.out HLS.out HP.out.bel.size ?_
          intro g1 cap1 wq4 O1 hg1
          replace HP := hid (HP.out.app1 hg1 O1)
          clear O1 hg1 KB1
          refine hK.out _ _ trivial (fun hHeld => ?_)
          clear hK K
          try simp only [Act.put, List.setIfInBounds_toArray, List.set_cons_zero, List.set_cons_succ]
          refine wpAnyH_ready (rs := [13]) (by kernel_rfl) (by simp) ?_
          refine AllReadyH.cons (o := ⟨some 126, _, _, _, _, _⟩) rfl (fun K hK => ?_) AllReadyH.nil
          go_simp
          refine (refFork_any h sd n (by omega) _ (HP.out.b.src j h _ HG.out.2.1 HG.out.2.2)).mono ?_
          rintro e wq5 ⟨f2, rfl, hf2, sf2, sg2, ho2⟩
          replace HP := hid (HP.out.fork2 HG.out.2.1 ho2 sg2 sf2 hf2)
          clear sf2 sg2 ho2 hf2
          refine hK.out _ _ trivial (fun hHeld => ?_)
          clear hK K
          try simp only [Act.put, List.setIfInBounds_toArray, List.set_cons_zero, List.set_cons_succ]
          refine wpAnyH_ready (rs := [14]) (by kernel_rfl) (by simp) ?_
          refine AllReadyH.cons (o := ⟨some 127, _, _, _, _, _⟩) rfl (fun K hK => ?_) AllReadyH.nil
          go_simp
          have KB2 := hid (Bk.new wq5 42 #[pt f2])
          replace HP := hid (HP.out.next ((Below.refl _ _).alloc (Nat.le_refl _) (.cells #[pt f2] 42)))
          generalize wq5.alloc (.cells #[pt f2] 42) = wq6 at *
          generalize wq5.heap.size = z2 at *
          refine hK.out _ _ trivial (fun hHeld => ?_)
          clear hK K
          try simp only [Act.put, List.setIfInBounds_toArray, List.set_cons_zero, List.set_cons_succ]
          refine wpAnyH_ready (rs := [15]) (by kernel_rfl) (by simp) ?_
          refine AllReadyH.cons (o := ⟨some 128, _, _, _, _, _⟩) rfl (fun K hK => ?_) AllReadyH.nil
          refine step_app_pt (by rfl) (.tmp 121) (.tmp 127) 44 42 (by rfl) Tryd.underlying44 info_p42 W.heap.size _ ts (by rfl) HP.out.t z2 f2 (by rfl) KB2.out HLT.out HP.out.bel.size ?_
          intro g2 cap2 wq7 O2 hg2
          replace HP := hid (HP.out.app2 hg2 O2)
          clear O2 hg2 KB2
          refine hK.out _ _ trivial (fun hHeld => ?_)
          clear hK K
          try simp only [Act.put, List.setIfInBounds_toArray, List.set_cons_zero, List.set_cons_succ]
          refine wpAnyH_take (i := 16) (oi := ⟨some 5, _, _, _, _, _⟩) (v := ?_) rfl (by kernel_rfl) (by kernel_rfl) (by kernel_rfl) (fun _ _ _ h => h) (Or.inl ⟨by rfl, ?_⟩) (by assumption) ?_
          rotate_left
          focus
            intro w hSw
            go_simp
            first
            | done
            | with_reducible rfl
          try simp only [Act.put, List.setIfInBounds_toArray, List.set_cons_zero, List.set_cons_succ]
          refine wpAnyH_take (i := 17) (oi := ⟨some 6, _, _, _, _, _⟩) (v := ?_) rfl (by kernel_rfl) (by kernel_rfl) (by kernel_rfl) (fun _ _ _ h => h) (Or.inl ⟨by rfl, ?_⟩) (by assumption) ?_
          rotate_left
          focus
            intro w hSw
            go_simp
            first
            | done
            | with_reducible rfl
          try simp only [Act.put, List.setIfInBounds_toArray, List.set_cons_zero, List.set_cons_succ]
          refine wpAnyH_done (by kernel_rfl) ?_ _
          have hIN := hid (HP.out.back hn HI.out.small HI.out.ln)
          go_wp2_with fail
          go_roundw
          case rel => exact ⟨k + 1, by omega, by simp, _, _, _, hIN.out⟩
          case measure => simp [intOf]; omega
      have e0 : (kd == 0) = false := by simpa using k0
      have e1 : (kd == 1) = false := by simpa using k1
      have e2 : (kd == 2) = false := by simpa using k2
      have e3 : (kd == 3) = false := by simpa using k3
      have e4 : (kd == 4) = false := by simpa using k4
      have I2 := hid ((HI.out.next HBx.out.2).more)
      clear k0 k1 k2 k3 k4 HBx ch
      go_wp2_with fail
      go_roundw
      case rel => exact ⟨k + 1, by omega, by simp, ss, ts, _, I2.out⟩
      case measure => simp [intOf]; omega
    · obtain rfl : k = N := by omega
      go_wp2_with fail
      go_loopw [134] (fun iv wx => ∃ q : Nat, q ≤ m ∧ iv = .int .i64 (q : Int) ∧ ∃ d', d'.length = m ∧ PlI W (.slice (some ⟨bS, 0, none⟩) m cS) (.slice (some ⟨bT, 0, none⟩) m cT) wx ss ts d' (k + q)) (fun iv _ => m - (intOf iv).toNat)
      case atStart => exact ⟨0, Nat.zero_le _, rfl, d, HM.out, HI.out⟩
      case round =>
        clear HI HIC HM
        obtain ⟨q, hq, rfl, d', hdl, I⟩ := hrel
        obtain ⟨bS', cS', bT', cT', e1, e2, hbS2, hbT2, IC⟩ := I.cells
        rw [hdl] at e1 e2 IC
        obtain ⟨rfl, rfl⟩ : bS' = bS ∧ cS' = cS := by cases e1; exact ⟨rfl, rfl⟩
        obtain ⟨rfl, rfl⟩ : bT' = bT ∧ cT' = cT := by cases e2; exact ⟨rfl, rfl⟩
        have HI := hid I
        have HDL := hid hdl
        clear e1 e2 I hdl
        by_cases hlt : q < m
        · obtain ⟨g, h, sd, n, hg, hh, hd, cg, ch, sg, sh, hgW, hhW, hn, n1, n2, n3, n4, n5⟩ := IC q hlt
          have HG := hid (And.intro hg (And.intro hh hd))
          have HRb := hid (HR.out.next HI.out.bel)
          have HS0 : Hid ((wr.drew.cell? ⟨bS', q, none⟩ = some (pt g)) ∧ (wr.drew.cell? ⟨bT', q, none⟩ = some (pt h))) := hid (And.intro cg ch)
          have HSX : Hid (∀ w2, Only g wr.drew w2 → (w2.cell? ⟨bS', q, none⟩ = some (pt g)) ∧ (w2.cell? ⟨bT', q, none⟩ = some (pt h))) := hid (fun w2 o => ⟨(o.cell_ (p := ⟨bS', q, none⟩) hbS2 (fun e => n1 e.symm)).trans cg, (o.cell_ (p := ⟨bT', q, none⟩) hbT2 (fun e => n2 e.symm)).trans ch⟩)
          have HSY : Hid (∀ w2 w3, Only g wr.drew w2 → Only h w2 w3 → (w3.cell? ⟨bS', q, none⟩ = some (pt g)) ∧ (w3.cell? ⟨bT', q, none⟩ = some (pt h))) := hid (fun w2 w3 o o' => ⟨(o'.cell_ (p := ⟨bS', q, none⟩) (Nat.lt_of_lt_of_le hbS2 o.size) (fun e => n3 e.symm)).trans (HSX.out w2 o).1, (o'.cell_ (p := ⟨bT', q, none⟩) (Nat.lt_of_lt_of_le hbT2 o.size) (fun e => n4 e.symm)).trans (HSX.out w2 o).2⟩)
          have NX := hid (next_any g sd n (by omega) wr.drew HRb.out sg)
          have NY := hid (fun w2 (o : Only g wr.drew w2) => refNext_any h sd n (by omega) w2 (o.bk (show Bk wr.drew h 62 _ from sh) (fun e => n5 e.symm)))
          clear cg ch sg sh n1 n2 n3 n4 n5 hg hh hd IC
          go_wp2_with fail
          refine wp_region_held_drew (S := (fun w' => (w'.cell? ⟨bS', q, none⟩ = some (pt g)) ∧ (w'.cell? ⟨bT', q, none⟩ = some (pt h)))) (by kernel_rfl) HS0.out (fun hHeld => ?_)
          refine wpAnyH_take (i := 0) (oi := ⟨some 137, _, _, _, _, _⟩) (v := ?_) rfl (by kernel_rfl) (by kernel_rfl) (by kernel_rfl) (fun _ _ _ h => h) (Or.inl ⟨by rfl, ?_⟩) (by assumption) ?_
          rotate_left
          focus
            intro w hSw
            try dsimp only at hSw
            go_simp
            first
            | done
            | with_reducible rfl
          try simp only [Act.put, List.setIfInBounds_toArray, List.set_cons_zero, List.set_cons_succ]
          refine wpAnyH_take (i := 1) (oi := ⟨some 138, _, _, _, _, _⟩) (v := ?_) rfl (by kernel_rfl) (by kernel_rfl) (by kernel_rfl) (fun _ _ _ h => h) (Or.inl ⟨by rfl, ?_⟩) (by assumption) ?_
          rotate_left
          focus
            intro w hSw
            try dsimp only at hSw
            go_simp
            first
            | done
            | with_reducible rfl
          try simp only [Act.put, List.setIfInBounds_toArray, List.set_cons_zero, List.set_cons_succ]
          refine wpAnyH_take (i := 2) (oi := ⟨some 139, _, _, _, _, _⟩) (v := ?_) rfl (by kernel_rfl) (by kernel_rfl) (by kernel_rfl) (fun _ _ _ h => h) (Or.inl ⟨by rfl, ?_⟩) (by assumption) ?_
          rotate_left
          focus
            intro w hSw
            try dsimp only at hSw
            go_simp
            first
            | done
            | with_reducible rfl
          try simp only [Act.put, List.setIfInBounds_toArray, List.set_cons_zero, List.set_cons_succ]
          refine wpAnyH_take (i := 3) (oi := ⟨some 140, _, _, _, _, _⟩) (v := ?_) rfl (by kernel_rfl) (by kernel_rfl) (by kernel_rfl) (fun _ _ _ h => h) (Or.inl ⟨by rfl, ?_⟩) (by assumption) ?_
          rotate_left
          focus
            intro w hSw
            try dsimp only at hSw
            go_simp
            first
            | done
            | with_reducible rfl
          try simp only [Act.put, List.setIfInBounds_toArray, List.set_cons_zero, List.set_cons_succ]
          refine wpAnyH_take (i := 4) (oi := ⟨some 141, _, _, _, _, _⟩) (v := ?_) rfl (by kernel_rfl) (by kernel_rfl) (by kernel_rfl) (fun _ _ _ h => h) (Or.inl ⟨by rfl, ?_⟩) (by assumption) ?_
          rotate_left
          focus
            intro w hSw
            try dsimp only at hSw
            go_simp
            first
            | done
            | with_reducible rfl
          try simp only [Act.put, List.setIfInBounds_toArray, List.set_cons_zero, List.set_cons_succ]
          refine wpAnyH_take (i := 5) (oi := ⟨some 142, _, _, _, _, _⟩) (v := ?_) rfl (by kernel_rfl) (by kernel_rfl) (by kernel_rfl) (fun _ _ _ h => h) (Or.inl ⟨by rfl, ?_⟩) (by assumption) ?_
          rotate_left
          focus
            intro w hSw
            try dsimp only at hSw
            go_simp
            first
            | done
            | with_reducible rfl
          try simp only [Act.put, List.setIfInBounds_toArray, List.set_cons_zero, List.set_cons_succ]
          refine wpAnyH_take (i := 6) (oi := ⟨some 143, _, _, _, _, _⟩) (v := ?_) rfl (by kernel_rfl) (by kernel_rfl) (by kernel_rfl) (fun _ _ _ h => h) (Or.inl ⟨by rfl, ?_⟩) (by assumption) ?_
          rotate_left
          focus
            intro w hSw
            try dsimp only at hSw
            go_simp
            first
            | done
            | with_reducible rfl
          try simp only [Act.put, List.setIfInBounds_toArray, List.set_cons_zero, List.set_cons_succ]
          refine wpAnyH_take (i := 7) (oi := ⟨some 144, _, _, _, _, _⟩) (v := ?_) rfl (by kernel_rfl) (by kernel_rfl) (by kernel_rfl) (fun _ _ _ h => h) (Or.inl ⟨by rfl, ?_⟩) (by assumption) ?_
          rotate_left
          focus
            intro w hSw
            try dsimp only at hSw
            go_simp
            first
            | done
            | with_reducible rfl
          try simp only [Act.put, List.setIfInBounds_toArray, List.set_cons_zero, List.set_cons_succ]
          refine wpAnyH_take (i := 8) (oi := ⟨some 145, _, _, _, _, _⟩) (v := ?_) rfl (by kernel_rfl) (by kernel_rfl) (by kernel_rfl) (fun _ _ _ h => h) (Or.inl ⟨by rfl, ?_⟩) (by assumption) ?_
          rotate_left
          focus
            intro w hSw
            try dsimp only at hSw
            go_simp
            first
            | done
            | with_reducible rfl
          try simp only [Act.put, List.setIfInBounds_toArray, List.set_cons_zero, List.set_cons_succ]
          refine wpAnyH_take (i := 9) (oi := ⟨some 146, _, _, _, _, _⟩) (v := ?_) rfl (by kernel_rfl) (by kernel_rfl) (by kernel_rfl) (fun _ _ _ h => h) (Or.inl ⟨by rfl, ?_⟩) (by assumption) ?_
          rotate_left
          focus
            intro w hSw
            try dsimp only at hSw
            go_simp
            first
            | done
            | with_reducible rfl
          try simp only [Act.put, List.setIfInBounds_toArray, List.set_cons_zero, List.set_cons_succ]
          refine wpAnyH_take (i := 11) (oi := ⟨some 148, _, _, _, _, _⟩) (v := ?_) rfl (by kernel_rfl) (by kernel_rfl) (by kernel_rfl) (fun _ _ _ h => h) (Or.inl ⟨by rfl, ?_⟩) (by assumption) ?_
          rotate_left
          focus
            intro w hSw
            try dsimp only at hSw
            go_simp
            first
            | done
            | with_reducible rfl
          try simp only [Act.put, List.setIfInBounds_toArray, List.set_cons_zero, List.set_cons_succ]
          refine wpAnyH_take (i := 12) (oi := ⟨some 149, _, _, _, _, _⟩) (v := ?_) rfl (by kernel_rfl) (by kernel_rfl) (by kernel_rfl) (fun _ _ _ h => h) (Or.inl ⟨by rfl, ?_⟩) (by assumption) ?_
          rotate_left
          focus
            intro w hSw
            try dsimp only at hSw
            go_simp
            first
            | done
            | with_reducible rfl
          try simp only [Act.put, List.setIfInBounds_toArray, List.set_cons_zero, List.set_cons_succ]
          refine wpAnyH_take (i := 13) (oi := ⟨some 150, _, _, _, _, _⟩) (v := ?_) rfl (by kernel_rfl) (by kernel_rfl) (by kernel_rfl) (fun _ _ _ h => h) (Or.inl ⟨by rfl, ?_⟩) (by assumption) ?_
          rotate_left
          focus
            intro w hSw
            try dsimp only at hSw
            go_simp
            first
            | done
            | with_reducible rfl
          try simp only [Act.put, List.setIfInBounds_toArray, List.set_cons_zero, List.set_cons_succ]
          refine wpAnyH_take (i := 14) (oi := ⟨some 151, _, _, _, _, _⟩) (v := ?_) rfl (by kernel_rfl) (by kernel_rfl) (by kernel_rfl) (fun _ _ _ h => h) (Or.inl ⟨by rfl, ?_⟩) (by assumption) ?_
          rotate_left
          focus
            intro w hSw
            try dsimp only at hSw
            go_simp
            first
            | done
            | with_reducible rfl
          try simp only [Act.put, List.setIfInBounds_toArray, List.set_cons_zero, List.set_cons_succ]
          refine wpAnyH_ready (rs := [10]) (by kernel_rfl) (by simp) ?_
          refine AllReadyH.cons (o := ⟨some 147, _, _, _, _, _⟩) rfl (fun K hK => ?_) AllReadyH.nil
          go_simp
          refine NX.out.mono ?_
          rintro e w2 ⟨rfl, s1, o1⟩
          refine hK.out _ _ (HSX.out _ o1) (fun hHeld => ?_)
          clear hK K
          try simp only [Act.put, List.setIfInBounds_toArray, List.set_cons_zero, List.set_cons_succ]
          refine wpAnyH_ready (rs := [15]) (by kernel_rfl) (by simp) ?_
          refine AllReadyH.cons (o := ⟨some 152, _, _, _, _, _⟩) rfl (fun K hK => ?_) AllReadyH.nil
          go_simp
          refine (NY.out _ o1).mono ?_
          rintro e w3 ⟨rfl, s2, o2⟩
          refine hK.out _ _ (HSY.out _ _ o1 o2) (fun hHeld => ?_)
          clear hK K
          try simp only [Act.put, List.setIfInBounds_toArray, List.set_cons_zero, List.set_cons_succ]
          refine wpAnyH_take (i := 16) (oi := ⟨some 153, _, _, _, _, _⟩) (v := ?_) rfl (by kernel_rfl) (by kernel_rfl) (by kernel_rfl) (fun _ _ _ h => h) (Or.inl ⟨by rfl, ?_⟩) (by assumption) ?_
          rotate_left
          focus
            intro w hSw
            try dsimp only at hSw
            go_simp
            first
            | done
            | with_reducible rfl
          try simp only [Act.put, List.setIfInBounds_toArray, List.set_cons_zero, List.set_cons_succ]
          refine wpAnyH_take (i := 17) (oi := ⟨some 154, _, _, _, _, _⟩) (v := ?_) rfl (by kernel_rfl) (by kernel_rfl) (by kernel_rfl) (fun _ _ _ h => h) (Or.inl ⟨by rfl, ?_⟩) (by assumption) ?_
          rotate_left
          focus
            intro w hSw
            try dsimp only at hSw
            go_simp
            first
            | done
            | with_reducible rfl
          try simp only [Act.put, List.setIfInBounds_toArray, List.set_cons_zero, List.set_cons_succ]
          refine wpAnyH_done (by kernel_rfl) ?_ _
          have I2 := hid (HI.out.step HG.out.1 HG.out.2.1 HG.out.2.2 (w1 := w2) (w2 := w3) ⟨o1.os, o1.tape, o1.output, o1.size, o1.block⟩ s1 o2 s2 (by omega))
          have HL2 := hid (show (d'.set q (sd, n + 1)).length = m by rw [List.length_set]; exact HDL.out)
          clear s1 s2 o1 o2 hHeld HS0 HSX HSY NX NY
          go_wp2_with fail
          go_roundw
          case rel => exact ⟨q + 1, by omega, by simp, _, HL2.out, I2.out⟩
          case measure => simp [intOf]; omega
        · clear IC
          have HRb := hid (HR.out.next HI.out.bel)
          go_wp2_with fail
          refine (awake_any _ HRb.out).mono ?_
          rintro e wy ⟨rfl, hby⟩
          go_wp2
          go_ret
          exact ⟨rfl, bstep HI.out.bel hby⟩
set_option maxHeartbeats 4000000 in
set_option maxRecDepth 100000 in
theorem prngPlays_nil (seed : Int) (W : World) (hR : Rnd W) :
    Calls Tryd.prog 8 #[.int .u64 seed, .slice none 0 0] W fun e w' => e = .returned (.bool true) ∧ Below W.heap.size W w' := by
  have PS := hid (plays_start W seed)
  have HR := hid hR
  have hR0 := hR.lt
  clear hR
  go_enter Tryd.func8, Tryd.ntmps8
  go_wp2_with fail
  refine (new_any _ _).mono ?_
  rintro e w1 ⟨rfl, rfl⟩
  go_wp2_with fail
  refine (refNew_any _ _).mono ?_
  rintro e w2 ⟨rfl, rfl⟩
  go_wp2_with fail
  generalize (((W.alloc (.cells #[.int .u64 seed, .int .u64 0] 53)).alloc (.cells #[pt W.heap.size] 27)).alloc (.cells #[.int .u64 seed, .int .u64 0] 62)).alloc (.cells #[pt (W.heap.size + 2)] 42) = w0 at *
  go_loopw [5, 6, 24] (fun sv tv iv wr => ∃ k : Nat, k ≤ 0 ∧ iv = .int .i64 (k : Int) ∧ ∃ ss ts d, PlI W sv tv wr ss ts d k) (fun _ _ iv _ => 0 - (intOf iv).toNat)
  case atStart => exact ⟨0, Nat.zero_le _, rfl, _, _, _, PS.out⟩
  case round =>
    clear PS
    obtain ⟨k, hk, rfl, ss, ts, d, I⟩ := hrel
    obtain rfl : k = 0 := by omega
    obtain ⟨bS, cS, bT, cT, rfl, rfl, hbS, hbT, IC⟩ := I.cells
    have HI := hid I
    have HIC := hid IC
    have hm0 := I.pos
    have hm1 := I.ln
    generalize hm : d.length = m at *
    have HM := hid hm
    clear I IC hm
    have hz0 : ((0 : Nat) : Int) = 0 := rfl
    simp only [hz0]
    clear hz0
    go_wp2_with fail
    go_loopw [134] (fun iv wx => ∃ q : Nat, q ≤ m ∧ iv = .int .i64 (q : Int) ∧ ∃ d', d'.length = m ∧ PlI W (.slice (some ⟨bS, 0, none⟩) m cS) (.slice (some ⟨bT, 0, none⟩) m cT) wx ss ts d' (0 + q)) (fun iv _ => m - (intOf iv).toNat)
    case atStart => exact ⟨0, Nat.zero_le _, rfl, d, HM.out, HI.out⟩
    case round =>
      clear HI HIC HM
      obtain ⟨q, hq, rfl, d', hdl, I⟩ := hrel
      obtain ⟨bS', cS', bT', cT', e1, e2, hbS2, hbT2, IC⟩ := I.cells
      rw [hdl] at e1 e2 IC
      obtain ⟨rfl, rfl⟩ : bS' = bS ∧ cS' = cS := by cases e1; exact ⟨rfl, rfl⟩
      obtain ⟨rfl, rfl⟩ : bT' = bT ∧ cT' = cT := by cases e2; exact ⟨rfl, rfl⟩
      have HI := hid I
      have HDL := hid hdl
      clear e1 e2 I hdl
      by_cases hlt : q < m
      · obtain ⟨g, h, sd, n, hg, hh, hd, cg, ch, sg, sh, hgW, hhW, hn, n1, n2, n3, n4, n5⟩ := IC q hlt
        have HG := hid (And.intro hg (And.intro hh hd))
        have HRb := hid (HR.out.next HI.out.bel)
        have HS0 : Hid ((wr.drew.cell? ⟨bS', q, none⟩ = some (pt g)) ∧ (wr.drew.cell? ⟨bT', q, none⟩ = some (pt h))) := hid (And.intro cg ch)
        have HSX : Hid (∀ w2, Only g wr.drew w2 → (w2.cell? ⟨bS', q, none⟩ = some (pt g)) ∧ (w2.cell? ⟨bT', q, none⟩ = some (pt h))) := hid (fun w2 o => ⟨(o.cell_ (p := ⟨bS', q, none⟩) hbS2 (fun e => n1 e.symm)).trans cg, (o.cell_ (p := ⟨bT', q, none⟩) hbT2 (fun e => n2 e.symm)).trans ch⟩)
        have HSY : Hid (∀ w2 w3, Only g wr.drew w2 → Only h w2 w3 → (w3.cell? ⟨bS', q, none⟩ = some (pt g)) ∧ (w3.cell? ⟨bT', q, none⟩ = some (pt h))) := hid (fun w2 w3 o o' => ⟨(o'.cell_ (p := ⟨bS', q, none⟩) (Nat.lt_of_lt_of_le hbS2 o.size) (fun e => n3 e.symm)).trans (HSX.out w2 o).1, (o'.cell_ (p := ⟨bT', q, none⟩) (Nat.lt_of_lt_of_le hbT2 o.size) (fun e => n4 e.symm)).trans (HSX.out w2 o).2⟩)
        have NX := hid (next_any g sd n (by omega) wr.drew HRb.out sg)
        have NY := hid (fun w2 (o : Only g wr.drew w2) => refNext_any h sd n (by omega) w2 (o.bk (show Bk wr.drew h 62 _ from sh) (fun e => n5 e.symm)))
        clear cg ch sg sh n1 n2 n3 n4 n5 hg hh hd IC
        go_wp2_with fail
        refine wp_region_held_drew (S := (fun w' => (w'.cell? ⟨bS', q, none⟩ = some (pt g)) ∧ (w'.cell? ⟨bT', q, none⟩ = some (pt h)))) (by kernel_rfl) HS0.out (fun hHeld => ?_)
        refine wpAnyH_take (i := 0) (oi := ⟨some 137, _, _, _, _, _⟩) (v := ?_) rfl (by kernel_rfl) (by kernel_rfl) (by kernel_rfl) (fun _ _ _ h => h) (Or.inl ⟨by rfl, ?_⟩) (by assumption) ?_
        rotate_left
        focus
          intro w hSw
          try dsimp only at hSw
          go_simp
          first
          | done
          | with_reducible rfl
        try simp only [Act.put, List.setIfInBounds_toArray, List.set_cons_zero, List.set_cons_succ]
        refine wpAnyH_take (i := 1) (oi := ⟨some 138, _, _, _, _, _⟩) (v := ?_) rfl (by kernel_rfl) (by kernel_rfl) (by kernel_rfl) (fun _ _ _ h => h) (Or.inl ⟨by rfl, ?_⟩) (by assumption) ?_
        rotate_left
        focus
          intro w hSw
          try dsimp only at hSw
          go_simp
          first
          | done
          | with_reducible rfl
        try simp only [Act.put, List.setIfInBounds_toArray, List.set_cons_zero, List.set_cons_succ]
        refine wpAnyH_take (i := 2) (oi := ⟨some 139, _, _, _, _, _⟩) (v := ?_) rfl (by kernel_rfl) (by kernel_rfl) (by kernel_rfl) (fun _ _ _ h => h) (Or.inl ⟨by rfl, ?_⟩) (by assumption) ?_
        rotate_left
        focus
          intro w hSw
          try dsimp only at hSw
          go_simp
          first
          | done
          | with_reducible rfl
        try simp only [Act.put, List.setIfInBounds_toArray, List.set_cons_zero, List.set_cons_succ]
        refine wpAnyH_take (i := 3) (oi := ⟨some 140, _, _, _, _, _⟩) (v := ?_) rfl (by kernel_rfl) (by kernel_rfl) (by kernel_rfl) (fun _ _ _ h => h) (Or.inl ⟨by rfl, ?_⟩) (by assumption) ?_
        rotate_left
        focus
          intro w hSw
          try dsimp only at hSw
          go_simp
          first
          | done
          | with_reducible rfl
        try simp only [Act.put, List.setIfInBounds_toArray, List.set_cons_zero, List.set_cons_succ]
        refine wpAnyH_take (i := 4) (oi := ⟨some 141, _, _, _, _, _⟩) (v := ?_) rfl (by kernel_rfl) (by kernel_rfl) (by kernel_rfl) (fun _ _ _ h => h) (Or.inl ⟨by rfl, ?_⟩) (by assumption) ?_
        rotate_left
        focus
          intro w hSw
          try dsimp only at hSw
          go_simp
          first
          | done
          | with_reducible rfl
        try simp only [Act.put, List.setIfInBounds_toArray, List.set_cons_zero, List.set_cons_succ]
        refine wpAnyH_take (i := 5) (oi := ⟨some 142, _, _, _, _, _⟩) (v := ?_) rfl (by kernel_rfl) (by kernel_rfl) (by kernel_rfl) (fun _ _ _ h => h) (Or.inl ⟨by rfl, ?_⟩) (by assumption) ?_
        rotate_left
        focus
          intro w hSw
          try dsimp only at hSw
          go_simp
          first
          | done
          | with_reducible rfl
        try simp only [Act.put, List.setIfInBounds_toArray, List.set_cons_zero, List.set_cons_succ]
        refine wpAnyH_take (i := 6) (oi := ⟨some 143, _, _, _, _, _⟩) (v := ?_) rfl (by kernel_rfl) (by kernel_rfl) (by kernel_rfl) (fun _ _ _ h => h) (Or.inl ⟨by rfl, ?_⟩) (by assumption) ?_
        rotate_left
        focus
          intro w hSw
          try dsimp only at hSw
          go_simp
          first
          | done
          | with_reducible rfl
        try simp only [Act.put, List.setIfInBounds_toArray, List.set_cons_zero, List.set_cons_succ]
        refine wpAnyH_take (i := 7) (oi := ⟨some 144, _, _, _, _, _⟩) (v := ?_) rfl (by kernel_rfl) (by kernel_rfl) (by kernel_rfl) (fun _ _ _ h => h) (Or.inl ⟨by rfl, ?_⟩) (by assumption) ?_
        rotate_left
        focus
          intro w hSw
          try dsimp only at hSw
          go_simp
          first
          | done
          | with_reducible rfl
        try simp only [Act.put, List.setIfInBounds_toArray, List.set_cons_zero, List.set_cons_succ]
        refine wpAnyH_take (i := 8) (oi := ⟨some 145, _, _, _, _, _⟩) (v := ?_) rfl (by kernel_rfl) (by kernel_rfl) (by kernel_rfl) (fun _ _ _ h => h) (Or.inl ⟨by rfl, ?_⟩) (by assumption) ?_
        rotate_left
        focus
          intro w hSw
          try dsimp only at hSw
          go_simp
          first
          | done
          | with_reducible rfl
        try simp only [Act.put, List.setIfInBounds_toArray, List.set_cons_zero, List.set_cons_succ]
        refine wpAnyH_take (i := 9) (oi := ⟨some 146, _, _, _, _, _⟩) (v := ?_) rfl (by kernel_rfl) (by kernel_rfl) (by kernel_rfl) (fun _ _ _ h => h) (Or.inl ⟨by rfl, ?_⟩) (by assumption) ?_
        rotate_left
        focus
          intro w hSw
          try dsimp only at hSw
          go_simp
          first
          | done
          | with_reducible rfl
        try simp only [Act.put, List.setIfInBounds_toArray, List.set_cons_zero, List.set_cons_succ]
        refine wpAnyH_take (i := 11) (oi := ⟨some 148, _, _, _, _, _⟩) (v := ?_) rfl (by kernel_rfl) (by kernel_rfl) (by kernel_rfl) (fun _ _ _ h => h) (Or.inl ⟨by rfl, ?_⟩) (by assumption) ?_
        rotate_left
        focus
          intro w hSw
          try dsimp only at hSw
          go_simp
          first
          | done
          | with_reducible rfl
        try simp only [Act.put, List.setIfInBounds_toArray, List.set_cons_zero, List.set_cons_succ]
        refine wpAnyH_take (i := 12) (oi := ⟨some 149, _, _, _, _, _⟩) (v := ?_) rfl (by kernel_rfl) (by kernel_rfl) (by kernel_rfl) (fun _ _ _ h => h) (Or.inl ⟨by rfl, ?_⟩) (by assumption) ?_
        rotate_left
        focus
          intro w hSw
          try dsimp only at hSw
          go_simp
          first
          | done
          | with_reducible rfl
        try simp only [Act.put, List.setIfInBounds_toArray, List.set_cons_zero, List.set_cons_succ]
        refine wpAnyH_take (i := 13) (oi := ⟨some 150, _, _, _, _, _⟩) (v := ?_) rfl (by kernel_rfl) (by kernel_rfl) (by kernel_rfl) (fun _ _ _ h => h) (Or.inl ⟨by rfl, ?_⟩) (by assumption) ?_
        rotate_left
        focus
          intro w hSw
          try dsimp only at hSw
          go_simp
          first
          | done
          | with_reducible rfl
        try simp only [Act.put, List.setIfInBounds_toArray, List.set_cons_zero, List.set_cons_succ]
        refine wpAnyH_take (i := 14) (oi := ⟨some 151, _, _, _, _, _⟩) (v := ?_) rfl (by kernel_rfl) (by kernel_rfl) (by kernel_rfl) (fun _ _ _ h => h) (Or.inl ⟨by rfl, ?_⟩) (by assumption) ?_
        rotate_left
        focus
          intro w hSw
          try dsimp only at hSw
          go_simp
          first
          | done
          | with_reducible rfl
        try simp only [Act.put, List.setIfInBounds_toArray, List.set_cons_zero, List.set_cons_succ]
        refine wpAnyH_ready (rs := [10]) (by kernel_rfl) (by simp) ?_
        refine AllReadyH.cons (o := ⟨some 147, _, _, _, _, _⟩) rfl (fun K hK => ?_) AllReadyH.nil
        go_simp
        refine NX.out.mono ?_
        rintro e w2 ⟨rfl, s1, o1⟩
        refine hK.out _ _ (HSX.out _ o1) (fun hHeld => ?_)
        clear hK K
        try simp only [Act.put, List.setIfInBounds_toArray, List.set_cons_zero, List.set_cons_succ]
        refine wpAnyH_ready (rs := [15]) (by kernel_rfl) (by simp) ?_
        refine AllReadyH.cons (o := ⟨some 152, _, _, _, _, _⟩) rfl (fun K hK => ?_) AllReadyH.nil
        go_simp
        refine (NY.out _ o1).mono ?_
        rintro e w3 ⟨rfl, s2, o2⟩
        refine hK.out _ _ (HSY.out _ _ o1 o2) (fun hHeld => ?_)
        clear hK K
        try simp only [Act.put, List.setIfInBounds_toArray, List.set_cons_zero, List.set_cons_succ]
        refine wpAnyH_take (i := 16) (oi := ⟨some 153, _, _, _, _, _⟩) (v := ?_) rfl (by kernel_rfl) (by kernel_rfl) (by kernel_rfl) (fun _ _ _ h => h) (Or.inl ⟨by rfl, ?_⟩) (by assumption) ?_
        rotate_left
        focus
          intro w hSw
          try dsimp only at hSw
          go_simp
          first
          | done
          | with_reducible rfl
        try simp only [Act.put, List.setIfInBounds_toArray, List.set_cons_zero, List.set_cons_succ]
        refine wpAnyH_take (i := 17) (oi := ⟨some 154, _, _, _, _, _⟩) (v := ?_) rfl (by kernel_rfl) (by kernel_rfl) (by kernel_rfl) (fun _ _ _ h => h) (Or.inl ⟨by rfl, ?_⟩) (by assumption) ?_
        rotate_left
        focus
          intro w hSw
          try dsimp only at hSw
          go_simp
          first
          | done
          | with_reducible rfl
        try simp only [Act.put, List.setIfInBounds_toArray, List.set_cons_zero, List.set_cons_succ]
        refine wpAnyH_done (by kernel_rfl) ?_ _
        have I2 := hid (HI.out.step HG.out.1 HG.out.2.1 HG.out.2.2 (w1 := w2) (w2 := w3) ⟨o1.os, o1.tape, o1.output, o1.size, o1.block⟩ s1 o2 s2 (by omega))
        have HL2 := hid (show (d'.set q (sd, n + 1)).length = m by rw [List.length_set]; exact HDL.out)
        clear s1 s2 o1 o2 hHeld HS0 HSX HSY NX NY
        go_wp2_with fail
        go_roundw
        case rel => exact ⟨q + 1, by omega, by simp, _, HL2.out, I2.out⟩
        case measure => simp [intOf]; omega
      · clear IC
        have HRb := hid (HR.out.next HI.out.bel)
        go_wp2_with fail
        refine (awake_any _ HRb.out).mono ?_
        rintro e wy ⟨rfl, hby⟩
        go_wp2
        go_ret
        exact ⟨rfl, bstep HI.out.bel hby⟩
theorem prngPlays_walk (seed : Int) (A : Option Addr) (c : Nat) (l : List Dd) (W : World) (hR : Rnd W) (hD : IsDd W A l) (hlc : l.length ≤ c) (hmx : l.length ≤ 9223372036854775807) (hn : A = none → c = 0) :
    Calls Tryd.prog 8 #[.int .u64 seed, .slice A l.length c] W fun e w' => e = .returned (.bool true) ∧ Below W.heap.size W w' := by
  cases A with
  | none =>
    obtain rfl := hn rfl
    rw [show l.length = 0 from by omega]
    exact prngPlays_nil seed W hR
  | some ad => exact prngPlays_yes seed ad l.length c l W hR hD rfl hlc hmx
end Go.Proofs.YtdfabmjkahhlmaaDoor
