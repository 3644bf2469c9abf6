/- The examples of the chapter on chains: awake answers true. -/
import Derived.Test.YtmegiodajkeahaaDoorChX
import Derived.Test.YtmegiodajkeahaaDoorChC9
import Derived.StillTailTactics
namespace Go.Proofs.YtmegiodajkeahaaDoor
open Go Go.RowKit
/-- What awake keeps: the two variables, the keys, all old memory. -/
structure AwS (W : World) (g : Nat) (K : List (Int × Int)) (w : World) : Prop where
  rnd : Rnd w
  cfg : CfG w
  keys : IsKs w (some ⟨g, 0, none⟩) K
  below : Below W.heap.size W w
  lo : W.heap.size ≤ g
  hi : g < w.heap.size
theorem AwS.next {W w w' : World} {g : Nat} {K : List (Int × Int)} (h : AwS W g K w) (hb : Below w.heap.size w w') : AwS W g K w' :=
  ⟨h.rnd.next hb, h.cfg.next hb, h.keys.next hb, bstep h.below hb, h.lo, Nat.lt_of_lt_of_le h.hi hb.size⟩
theorem AwS.drew {W w : World} {g : Nat} {K : List (Int × Int)} (h : AwS W g K w) : AwS W g K w.drew := h.next (Below.refl _ _).drew
theorem AwS.key {W w : World} {g : Nat} {K : List (Int × Int)} (h : AwS W g K w) {i : Nat} {p : Int × Int} (hp : K[i]? = some p) : w.cell? ⟨g, i * 2, none⟩ = some (.int .u64 p.1) ∧ w.cell? ⟨g, i * 2 + 1, none⟩ = some (.int .u64 p.2) := by
  rcases h.keys with h0 | ⟨b, off, hA, hb, hc⟩
  · rw [h0] at hp; simp at hp
  · obtain ⟨rfl, rfl⟩ : b = g ∧ off = 0 := by simpa using hA.symm
    have := hc i p hp
    simpa using this
/-- A receiver is called: what awake keeps is kept. -/
theorem AwS.fr {W w w' : World} {g : Nat} {K : List (Int × Int)} {S S' : Nat → Prop} (h : AwS W g K w) (F : Fr S S' w w') (hS : ∀ k, S k → W.heap.size ≤ k) (hg : ¬ S g) (hW : 2 ≤ W.heap.size) : AwS W g K w' := by
  have hb : Below W.heap.size w w' := F.below h.below.size hS
  refine ⟨h.rnd.below hb (by omega), ?_, F.isk h.keys (fun a ha => by cases ha; exact hg), h.below.trans hb, h.lo, Nat.lt_of_lt_of_le h.hi F.size⟩
  obtain ⟨t, fr, hc⟩ := h.cfg
  exact ⟨t, fr, (hb.block 0 (by omega)).trans hc⟩
theorem rcv_new {w : World} {g : Nat} {st sp de co k0 k1 : Int} (h : Bk w g 76 (rcv st sp de co 0 k0 k1 (.slice none 0 0))) : RcvS w (· = g) g st sp de co ⟨0, (k0, k1), []⟩ :=
  ⟨.slice none 0 0, [], ⟨rfl, h, World.ownsRow_nil _ _ _ _, rfl, (fun h hh => by cases hh), (fun x hx => by cases hx), fun k hk => by rw [hk]; exact h.lt⟩⟩
theorem IsSl.lt1 {w : World} {b o : Nat} {k : IntKind} {x : Int} {xs : List Int} (h : IsSl w (some ⟨b, o, none⟩) k (x :: xs)) : b < w.heap.size := by
  rcases h with h | ⟨b', off, h1, h2, _⟩
  · cases h
  · cases h1; exact h2
theorem ok123 : Pl.okB [1, 2, 3] := ⟨by decide, by decide⟩
theorem new_yes (st sp de co k0 k1 : Int) (h : Pl.cfOk st sp de co) (w : World) : Calls Tryd.prog 20 #[.agg #[.int .i64 st, .int .i64 sp, .int .i64 de, .int .i64 co], .agg #[.int .u64 k0, .int .u64 k1]] w fun e w' => (∃ g, w.heap.size ≤ g ∧ e = .returned (pt g) ∧ RcvS w' (· = g) g st sp de co ⟨0, (k0, k1), []⟩) ∧ Below w.heap.size w w' :=
  (new_any st sp de co k0 k1 w).mono fun e w' ⟨hb, h'⟩ => by
    rcases h' with ⟨h1, _⟩ | ⟨_, g, h1, h2, h3⟩
    · exact absurd h h1
    · exact ⟨⟨g, h1, h2, rcv_new h3⟩, hb⟩
theorem new_no (st sp de co k0 k1 : Int) (h : ¬ Pl.cfOk st sp de co) (w : World) : Calls Tryd.prog 20 #[.agg #[.int .i64 st, .int .i64 sp, .int .i64 de, .int .i64 co], .agg #[.int .u64 k0, .int .u64 k1]] w fun e w' => e = .returned (.pointer none) ∧ Below w.heap.size w w' :=
  (new_any st sp de co k0 k1 w).mono fun e w' ⟨hb, h'⟩ => by
    rcases h' with ⟨_, h1⟩ | ⟨h1, _⟩
    · exact ⟨h1, hb⟩
    · exact absurd h1 h
set_option maxHeartbeats 4000000 in
set_option maxRecDepth 100000 in
theorem awake_any (W : World) (hR : Rnd W) (hG : CfG W) : Calls Tryd.prog 19 #[] W fun e w' => e = .returned (.bool true) ∧ Below W.heap.size W w' := by
  have hW2 : 2 ≤ W.heap.size := hR.lt
  have CM : ∀ w, Calls Tryd.prog 16 #[.int .u64 7, .int .i64 10] w fun e w' => (∃ v, e = .returned v ∧ OwnK w' w.heap.size v (Pl.keysL (Pl.lastK 7 10) 10)) ∧ Below w.heap.size w w' := fun w => refMake_any 7 10 (by decide) (by decide) w
  have CL : ∀ w, Rnd w → Calls Tryd.prog 15 #[.int .u64 7, .int .i64 10] w fun e w' => e = .returned (.slice (some ⟨w.heap.size, 0, none⟩) 11 11) ∧ BkK w' w.heap.size (Pl.keysL (Pl.lastK 7 10) 10) ∧ Below w.heap.size w w' := fun w h => make_any 7 10 (by decide) (by decide) w h
  have hne := Pl.awake_ne
  generalize Pl.lastK 7 10 = last at *
  have K0 := Pl.keysL_get last 10 0 (by decide)
  have K3 := Pl.keysL_get last 10 3 (by decide)
  have K4 := Pl.keysL_get last 10 4 (by decide)
  have K5 := Pl.keysL_get last 10 5 (by decide)
  have KL := Pl.keysL_len last 10
  generalize Pl.keysL last 10 = K at *
  have HK := hid (And.intro K0 (And.intro K3 (And.intro K4 (And.intro K5 KL))))
  have HNE := hid hne
  have HCM := hid CM
  have HCL := hid CL
  clear K0 K3 K4 K5 KL hne CM CL
  have HG := hid (And.intro hR hG)
  clear hR hG
  go_enter Tryd.func19, Tryd.ntmps19
  go_wp2_with fail
  refine (HCM.out _).mono ?_
  rintro e w1 ⟨⟨v, rfl, O⟩, hb1⟩
  obtain ⟨g, cap, hv, hg0, hg1, hIs⟩ := O.row (by rw [HK.out.2.2.2.2]; decide)
  rw [HK.out.2.2.2.2] at hv
  simp only [Nat.reduceAdd] at hv
  subst hv
  have A1 : AwS W g K w1 := ⟨HG.out.1.next hb1, HG.out.2.next hb1, hIs, hb1, hg0, hg1⟩
  have HA1 := hid A1
  clear O hIs hg0 hg1 A1 hb1
  go_wp2_with fail
  refine (HCL.out _ HA1.out.rnd).mono ?_
  rintro e w2 ⟨rfl, Kb, hb2⟩
  have HA2 := hid (HA1.out.next hb2)
  have HKb := hid Kb
  have SM : Calls Tryd.prog 14 #[.slice (some ⟨g, 0, none⟩) 11 cap, .slice (some ⟨w1.heap.size, 0, none⟩) 11 11] w2 fun e w' => e = .returned (.bool true) ∧ Below w2.heap.size w2 w' := by
    have := same_any (some ⟨g, 0, none⟩) (some ⟨w1.heap.size, 0, none⟩) cap 11 K w2 HA2.out.keys Kb.is (by rw [HK.out.2.2.2.2]; decide)
    rw [HK.out.2.2.2.2] at this
    exact this
  replace SM := hid SM
  clear Kb hb2 HA1
  go_wp2_with fail
  refine SM.out.mono ?_
  rintro e w3 ⟨rfl, hb3⟩
  have HA3 := hid (HA2.out.next hb3)
  clear SM hb3 HA2 HKb
  have I1 := hid (fun w => interval_any 1000 100 2 10 999 (by decide) w)
  have I2 := hid (fun w => interval_any 1000 100 2 10 1099 (by decide) w)
  have I3 := hid (fun w => interval_any 1000 100 2 10 1100 (by decide) w)
  have I4 := hid (fun w => interval_any 1000 100 2 10 1999 (by decide) w)
  have I5 := hid (fun w => interval_any 1000 100 2 10 2000 (by decide) w)
  rw [Pl.iv999] at I1
  rw [Pl.iv1099] at I2
  rw [Pl.iv1100] at I3
  rw [Pl.iv1999] at I4
  rw [Pl.iv2000] at I5
  obtain ⟨c0, c1, c2, c3⟩ := HA3.out.cfg.cells
  go_wp2_with fail
  refine (I1.out _).mono ?_
  rintro e w4 ⟨rfl, hb4⟩
  have HA4 := hid (HA3.out.next hb4)
  clear c0 c1 c2 c3 HA3 hb4 I1
  obtain ⟨c0, c1, c2, c3⟩ := HA4.out.cfg.cells
  go_wp2_with fail
  refine (I2.out _).mono ?_
  rintro e w5 ⟨rfl, hb5⟩
  have HA5 := hid (HA4.out.next hb5)
  clear c0 c1 c2 c3 HA4 hb5 I2
  obtain ⟨c0, c1, c2, c3⟩ := HA5.out.cfg.cells
  go_wp2_with fail
  refine (I3.out _).mono ?_
  rintro e w6 ⟨rfl, hb6⟩
  have HA6 := hid (HA5.out.next hb6)
  clear c0 c1 c2 c3 HA5 hb6 I3
  obtain ⟨c0, c1, c2, c3⟩ := HA6.out.cfg.cells
  go_wp2_with fail
  refine (I4.out _).mono ?_
  rintro e w7 ⟨rfl, hb7⟩
  have HA7 := hid (HA6.out.next hb7)
  clear c0 c1 c2 c3 HA6 hb7 I4
  obtain ⟨c0, c1, c2, c3⟩ := HA7.out.cfg.cells
  go_wp2_with fail
  refine (I5.out _).mono ?_
  rintro e w8 ⟨rfl, hb8⟩
  have HA8 := hid (HA7.out.next hb8)
  clear c0 c1 c2 c3 HA7 hb8 I5
  obtain ⟨c0, c1, c2, c3⟩ := HA8.out.cfg.cells
  obtain ⟨k0, k1⟩ := HA8.out.key HK.out.1
  simp only [Nat.sub_zero, Nat.zero_mul, Nat.zero_add] at k0 k1
  go_wp2_with fail
  go_still_tail 4, (by kernel_rfl)
  change wpList _ _ _ _ _ w8.drew
  have HA9 := hid HA8.out.drew
  generalize w8.drew = w9 at *
  clear c0 c1 c2 c3 k0 k1 HA8
  go_wp2_with fail
  refine (new_yes 1000 100 2 10 _ _ Pl.cf0 _).mono ?_
  rintro e wa ⟨⟨gr, hgr, rfl, Ra⟩, hba⟩
  have HAa := hid (HA9.out.next hba)
  have HRa := hid (show RcvS wa (· = gr) gr 1000 100 2 10 ⟨0, Pl.dnN last 10, []⟩ from Ra)
  have hgr2 : W.heap.size ≤ gr := Nat.le_trans HA9.out.below.size hgr
  have hgrg : g ≠ gr := by have := HA9.out.hi; omega
  clear Ra hba hgr HA9
  obtain ⟨k0, k1⟩ := HAa.out.key HK.out.1
  simp only [Nat.sub_zero, Nat.zero_mul, Nat.zero_add] at k0 k1
  go_wp2_with fail
  refine (new_no 0 0 0 0 _ _ Pl.cf0no _).mono ?_
  rintro e wb ⟨rfl, hbb⟩
  have HAb := hid (HAa.out.next hbb)
  have HRb := hid (HRa.out.next hbb)
  clear k0 k1 hbb HAa HRa
  have hbs := HAb.out.below.size
  have BB := (Below.refl wb.heap.size wb).alloc (Nat.le_refl _) (.cells #[.int .u8 1, .int .u8 2, .int .u8 3] 5)
  have SB := IsSl.of_bk (k := .u8) [1, 2, 3] (Bk.new wb 5 #[.int .u8 1, .int .u8 2, .int .u8 3]) rfl
  have HAc := hid (HAb.out.next BB)
  have HRc := hid (HRb.out.next BB)
  have HSB := hid SB
  have hgb : wb.heap.size ≠ gr := by
    obtain ⟨v, L, M⟩ := HRb.out
    have := M.lt gr rfl
    omega
  have BM := (Below.refl (wb.alloc (.cells #[.int .u8 1, .int .u8 2, .int .u8 3] 5)).heap.size (wb.alloc (.cells #[.int .u8 1, .int .u8 2, .int .u8 3] 5))).alloc (Nat.le_refl _) (.cells #[.int .u8 109, .int .u8 97, .int .u8 99] 5 (3, 4))
  have SM := isl_const (wb.alloc (.cells #[.int .u8 1, .int .u8 2, .int .u8 3] 5)) kMac (3, 4) #[.int .u8 109, .int .u8 97, .int .u8 99] rfl
  have hs1 : (wb.alloc (.cells #[.int .u8 1, .int .u8 2, .int .u8 3] 5)).heap.size = wb.heap.size + 1 := by simp
  rw [hs1] at SM
  clear hs1
  have HAd := hid (HAc.out.next BM)
  have HRd := hid (HRc.out.next BM)
  have HSd := hid (HSB.out.next BM)
  have HSM := hid SM
  obtain ⟨k0, k1⟩ := HAc.out.key HK.out.2.1
  simp only [Nat.reduceMul, Nat.reduceAdd, Nat.reduceSub] at k0 k1
  have cv := Lib.run_convert_bytes_const (P := Tryd.prog) (wb.alloc (.cells #[.int .u8 1, .int .u8 2, .int .u8 3] 5)) 41 5 #[.int .u8 109, .int .u8 97, .int .u8 99] 3 3 Tryd.underlying41 Tryd.underlying5
  rw [show (wb.alloc (.cells #[.int .u8 1, .int .u8 2, .int .u8 3] 5)).heap.size = wb.heap.size + 1 by simp] at cv
  simp only [List.size_toArray, List.length_cons, List.length_nil, Nat.zero_add, Nat.reduceAdd] at cv
  clear SB SM BB BM HAb HRb HAc HRc HSB
  go_wp2_with fail
  generalize (wb.alloc (.cells #[.int .u8 1, .int .u8 2, .int .u8 3] 5)).alloc (.cells #[.int .u8 109, .int .u8 97, .int .u8 99] 5 (3, 4)) = wd at *
  refine (refDerive_any _ _ _ 3 kMac _ HSM.out (by decide) (by decide)).mono ?_
  rintro e we ⟨rfl, hbe⟩
  have HAe := hid (HAd.out.next hbe)
  have HRe := hid (HRd.out.next hbe)
  have HSe := hid (HSd.out.next hbe)
  clear cv k0 k1 HAd HRd HSd HSM hbe
  go_wp2_with fail
  refine (refTag_any _ _ _ 3 [1, 2, 3] _ HSe.out (by decide) (by decide)).mono ?_
  rintro e wf ⟨rfl, hbf⟩
  have HAf := hid (HAe.out.next hbf)
  have HRf := hid (HRe.out.next hbf)
  have HSf := hid (HSe.out.next hbf)
  clear HAe HRe HSe hbf
  have htg0 : Pl.tagOf (Pl.d1 (Pl.dnN last 7).1 (Pl.dnN last 7).2 kMac) (Pl.d2 (Pl.dnN last 7).1 (Pl.dnN last 7).2 kMac) [1, 2, 3] = Pl.mtag (Pl.dnN last 7) [1, 2, 3] := rfl
  generalize Pl.tagOf (Pl.d1 (Pl.dnN last 7).1 (Pl.dnN last 7).2 kMac) (Pl.d2 (Pl.dnN last 7).1 (Pl.dnN last 7).2 kMac) [1, 2, 3] = tg at *
  have HTG := hid htg0
  clear htg0
  go_wp2_with fail
  with_reducible refine (hear_no (Pl.h1400 _) (by decide) Pl.cf0 (Pl.okR.new (by decide) _) (b := [1, 2, 3]) ok123 HSf.out HRf.out (n := 3) rfl).mono ?_
  rintro e wg ⟨rfl, hbg⟩
  have HAg := hid (HAf.out.next hbg)
  have HRg := hid (HRf.out.next hbg)
  have HSg := hid (HSf.out.next hbg)
  clear HAf HRf HSf hbg
  go_wp2_with fail
  with_reducible refine (hear_yes (Pl.h1399 _) Pl.cf0 (Pl.okR.new (by decide) _) (b := [1, 2, 3]) ok123 HSg.out HRg.out (n := 3) rfl).mono ?_
  rintro e wh ⟨rfl, S1, Rh, Fh⟩
  have hS0 : ∀ k, k = gr → W.heap.size ≤ k := fun k hk => by omega
  have HAh := hid (HAg.out.fr Fh hS0 hgrg hW2)
  have HSh := hid (Fh.isl HSg.out (fun a ha => by cases ha; exact hgb))
  have hS1 := hid (Fh.from_ HAg.out.below.size hS0)
  have hg1 := hid (fun h => hgrg (Fh.set g HAg.out.hi h))
  have hb1 : Hid (¬ S1 wb.heap.size) := hid (fun h => hgb (Fh.set _ (HSg.out.lt1) h))
  have HRh := hid Rh
  clear Rh Fh HAg HRg HSg
  have HRh' : Hid (RcvS wh S1 gr 1000 100 2 10 ⟨0, Pl.dnN last 10, [⟨3, [1, 2, 3], tg⟩]⟩) := hid (by have := HRh.out; rw [Pl.aw_hst] at this; exact this)
  have HLD : Hid (Calls Tryd.prog 33 #[pt gr] wh fun e w' => e = .returned (.int .i64 1) ∧ wh = w') := hid (held_of HRh'.out)
  go_wp2_with fail
  refine HLD.out.mono ?_
  rintro e wh' ⟨rfl, rfl⟩
  obtain ⟨k0, k1⟩ := HAh.out.key HK.out.2.2.1
  simp only [Nat.reduceMul, Nat.reduceAdd, Nat.reduceSub] at k0 k1
  have D1 := hid (disc_yes (Pl.aw_d4 last _) HRh'.out (Pl.aw_ok _ _ _ ok123) (by decide) HAh.out.rnd (fun k hk => by have := hS1.out k hk; omega))
  have hout := Pl.aw_out last [1, 2, 3]
  rw [← HTG.out] at hout
  rw [Pl.aw_st] at D1
  simp only at D1
  rw [hout] at D1
  clear hout HRh
  go_wp2_with fail
  refine D1.out.mono ?_
  rintro e wi ⟨rv, S2, rfl, Ri, BBi, Fi⟩
  have HAi := hid (HAh.out.fr Fi hS1.out hg1.out hW2)
  have HSi := hid (Fi.isl HSh.out (fun a ha => by cases ha; exact hb1.out))
  have hS2 := hid (Fi.from_ HAh.out.below.size hS1.out)
  have HRi := hid Ri
  have HBi := hid BBi
  clear Ri BBi Fi HAh HSh HRh' D1 k0 k1 HLD
  obtain ⟨k0, k1⟩ := HAi.out.key HK.out.2.1
  simp only [Nat.reduceMul, Nat.reduceAdd, Nat.reduceSub] at k0 k1
  have D2 := hid (disc_no (Pl.aw_d3 (Pl.dnN last 6) (Pl.dnN last 7) []) (by decide) HRi.out (Pl.aw_ok4 _) (by decide) HAi.out.rnd (fun k hk => by have := hS2.out k hk; omega))
  go_wp2_with fail
  refine D2.out.mono ?_
  rintro e wj ⟨rfl, hbj⟩
  have HAj := hid (HAi.out.next hbj)
  have HSj := hid (HSi.out.next hbj)
  have HRj := hid (HRi.out.next hbj)
  have HBj := hid (HBi.out.next hbj)
  clear HAi HSi HRi HBi D2 k0 k1 hbj
  obtain ⟨k0, k1⟩ := HAj.out.key HK.out.2.2.2.1
  simp only [Nat.reduceMul, Nat.reduceAdd, Nat.reduceSub] at k0 k1
  have D3 := hid (disc_no (Pl.aw_d6 last [] HNE.out) (by decide) HRj.out (Pl.aw_ok4 _) (by decide) HAj.out.rnd (fun k hk => by have := hS2.out k hk; omega))
  go_wp2_with fail
  refine D3.out.mono ?_
  rintro e wk ⟨rfl, hbk⟩
  have HAk := hid (HAj.out.next hbk)
  have HSk := hid (HSj.out.next hbk)
  have HRk := hid (HRj.out.next hbk)
  obtain ⟨A, c, rfl, hrow⟩ := (HBj.out.next hbk).row
  rcases hrow with h0 | ⟨br, off, rfl, _, hbr, hrow⟩
  · cases h0
  obtain ⟨A', c', hr0, hrS, _⟩ := hrow 0 [1, 2, 3] rfl
  have HRS := hid hrS
  clear HAj HSj HRj HBj D3 k0 k1 hbk hrow hrS
  simp only [Nat.add_zero, List.length_cons, List.length_nil, Nat.zero_add, Nat.reduceAdd] at hr0
  have EQ : Calls Tryd.prog 42 #[.slice A' 3 c', .slice (some ⟨wb.heap.size, 0, none⟩) 3 3] wk fun e w' => e = .returned (.bool true) ∧ Below wk.heap.size wk w' := equal_same A' _ c' 3 [1, 2, 3] wk HRS.out HSk.out (by decide)
  replace EQ := hid EQ
  go_wp2_with fail
  refine EQ.out.mono ?_
  rintro e wl ⟨rfl, hbl⟩
  have HAl := hid (HAk.out.next hbl)
  have HRl := hid (HRk.out.next hbl)
  have KN : Hid (Calls Tryd.prog 31 #[pt gr] wl fun e w' => e = .returned (.int .i64 4) ∧ wl = w') := hid (known_of HRl.out)
  have HL : Hid (Calls Tryd.prog 33 #[pt gr] wl fun e w' => e = .returned (.int .i64 0) ∧ wl = w') := hid (held_of HRl.out)
  clear EQ HAk HSk HRk HRS hr0 hbl
  go_wp2_with fail
  refine KN.out.mono ?_
  rintro e wl' ⟨rfl, rfl⟩
  go_wp2_with fail
  refine HL.out.mono ?_
  rintro e wl' ⟨rfl, rfl⟩
  go_wp2
  go_ret
  exact ⟨rfl, HAl.out.below⟩
end Go.Proofs.YtmegiodajkeahaaDoor
