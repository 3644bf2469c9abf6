/- The walk of the law ChainSound. -/
import Derived.Test.YtmegiodajkeahaaDoorChA1
namespace Go.Proofs.YtmegiodajkeahaaDoor
open Go Go.RowKit
namespace Pl
theorem wrap_odd {t odd : Int} (_ht : 0 ≤ t ∧ t < 18446744073709551616) (ho : 0 < odd ∧ odd < 18446744073709551616) : IntKind.u64.wrap (t + odd) ≠ t := by
  rw [IntKind.wrap_u64]; omega
theorem sd_h1500 (key : Int × Int) : hErr 1000 100 2 10 ⟨0, key, []⟩ 5 0 1500 = 0 := rfl
theorem sd_h1600 (key : Int × Int) (m : Msg) : hErr 1000 100 2 10 ⟨0, key, [m]⟩ 5 0 1600 = 17 := rfl
theorem sd_ok (key : Int × Int) (b : List Int) (t : Int) (hb : okB b) : okR 10 ⟨0, key, [⟨5, b, t⟩]⟩ :=
  ⟨Int.le_refl _, by show (0 : Int) ≤ 10; decide, by show 1 ≤ 64; decide, fun m hm => by
    simp only [List.mem_singleton] at hm
    subst hm
    exact ⟨by show (0 : Int) < 5; decide, by show (5 : Int) ≤ 10; decide, hb⟩⟩
theorem sd_d (key x : Int × Int) (ms : List Msg) : dErr 10 ⟨0, key, ms⟩ 5 x = if dnN x 5 = key then 0 else 16 := by
  unfold dErr
  simp only
  rw [if_neg (by decide), if_neg (by decide), show ((5 : Int) - 0).toNat = 5 from rfl]
theorem sd_out (x : Int × Int) (b : List Int) (t : Int) (h : t ≠ mtag x b) : dOut 5 x [⟨5, b, t⟩] = [] := by
  have hr : relF 5 x ⟨5, b, t⟩ = false := by
    unfold relF rightB
    simp only [Bool.and_eq_false_iff, decide_eq_false_iff_not, beq_eq_false_iff_ne]
    refine .inr ?_
    rw [show ((5 : Int) - 5).toNat = 0 from rfl]
    exact fun e => h e.symm
  unfold dOut
  rw [List.filter_cons_of_neg (by rw [hr]; decide)]
  rfl
theorem sd_st (key x : Int × Int) (b : List Int) (t : Int) : dSt ⟨0, key, [⟨5, b, t⟩]⟩ 5 x = ⟨5, x, []⟩ := by
  unfold dSt
  have : stayF 5 ⟨5, b, t⟩ = false := by unfold stayF; simp
  rw [List.filter_cons_of_neg (by rw [this]; decide)]
  rfl
theorem mtag_range (x : Int × Int) (b : List Int) : 0 ≤ mtag x b ∧ mtag x b < 18446744073709551616 := tagOf_range _ _ _
end Pl
theorem AwS.make {W w : World} {K : List (Int × Int)} (hR : Rnd W) (hG : CfG W) (Kb : BkK w W.heap.size K) (hb : Below W.heap.size W w) : AwS W W.heap.size K w :=
  ⟨hR.next hb, hG.next hb, Kb.is, hb, Nat.le_refl _, Bk.lt Kb⟩
theorem RcvS.setFar {w : World} {S : Nat → Prop} {g : Nat} {st sp de co : Int} {s : Pl.Rst} (h : RcvS w S g st sp de co s) {b o : Nat} (hb : ¬ S b) (u : Value) : RcvS (w.setCell ⟨b, o, none⟩ u) S g st sp de co s :=
  h.far (T := (· = b)) (T' := (· = b)) ((Fr.refl (· = b) w).setCell rfl u) (fun _ hk e => hb (e ▸ hk))
theorem AwS.setFar {W w : World} {g : Nat} {K : List (Int × Int)} (h : AwS W g K w) {b o : Nat} (hb : W.heap.size ≤ b) (hg : b ≠ g) (hW : 2 ≤ W.heap.size) (u : Value) : AwS W g K (w.setCell ⟨b, o, none⟩ u) :=
  h.fr (S := (· = b)) (S' := (· = b)) ((Fr.refl (· = b) w).setCell rfl u) (fun _ hk => by omega) (fun e => hg e.symm) hW
/-- What the rounds of ChainSound keep. -/
def SdI (W : World) (K : List (Int × Int)) (S : Nat → Prop) (gr : Nat) (s : Pl.Rst) (xb yb : Nat) (x y : Int × Int) (w : World) : Prop :=
  AwS W W.heap.size K w ∧ RcvS w S gr 1000 100 2 10 s ∧ Bk w xb 37 #[.int .u64 x.1, .int .u64 x.2] ∧ Bk w yb 37 #[.int .u64 y.1, .int .u64 y.2]
theorem SdI.next {W w w' : World} {K : List (Int × Int)} {S : Nat → Prop} {gr : Nat} {s : Pl.Rst} {xb yb : Nat} {x y : Int × Int} (h : SdI W K S gr s xb yb x y w) (hb : Below w.heap.size w w') : SdI W K S gr s xb yb x y w' :=
  ⟨h.1.next hb, h.2.1.next hb, h.2.2.1.next hb, h.2.2.2.next hb⟩
theorem SdI.set {W w : World} {K : List (Int × Int)} {S : Nat → Prop} {gr : Nat} {s : Pl.Rst} {xb yb : Nat} {x y : Int × Int} (h : SdI W K S gr s xb yb x y w) (hS : ¬ S yb) (hW : W.heap.size < yb) (hW2 : 2 ≤ W.heap.size) (hxy : xb ≠ yb) (z : Int × Int) :
    SdI W K S gr s xb yb x z ((w.setCell ⟨yb, 0, none⟩ (.int .u64 z.1)).setCell ⟨yb, 1, none⟩ (.int .u64 z.2)) :=
  ⟨(h.1.setFar (by omega) (by omega) hW2 _).setFar (by omega) (by omega) hW2 _, (h.2.1.setFar hS _).setFar hS _, (h.2.2.1.far hxy _).far hxy _, (h.2.2.2.put 0 _).put 1 _⟩
attribute [local simp high] guard_bind eql_key neq_key
theorem eq_true_key {a b : Int × Int} (h : a = b) : ((a.1 == b.1) && (a.2 == b.2)) = true := by subst h; simp
theorem eq_false_key {a b : Int × Int} (h : a ≠ b) : ((a.1 == b.1) && (a.2 == b.2)) = false := by
  by_cases h1 : a.1 = b.1
  · by_cases h2 : a.2 = b.2
    · exact absurd (Prod.ext h1 h2) h
    · simp [h2]
  · simp [h1]
theorem bkOff {w : World} {g : Nat} {t : TypeId} {cs : Array Value} (h : Bk w g t cs) : g < w.heap.size := h.lt
set_option maxHeartbeats 4000000 in
set_option maxRecDepth 100000 in
theorem chainSound_yes (seed : Int) (A : Option Addr) (c n : Nat) (b : List Int) (odd : Int) (W : World) (hR : Rnd W) (hG : CfG W) (hn : b.length = n) (h100 : n ≤ 100) (hS : IsSl W A .u8 b) (hb : ∀ x ∈ b, 0 ≤ x ∧ x ≤ 255) (ho : 0 < odd ∧ odd < 18446744073709551616) :
    Calls Tryd.prog 9 #[.int .u64 seed, .slice A n c, .int .u64 odd] W fun e w' => e = .returned (.bool true) ∧ Below W.heap.size W w' := by
  have hW2 : 2 ≤ W.heap.size := hR.lt
  have hokb : Hid (Pl.okB b) := hid ⟨hb, by omega⟩
  have HS := hid hS
  have HN := hid hn
  have HO := hid ho
  have hodd : (odd == 0) = false := by rw [beq_eq_false_iff_ne]; omega
  clear hS hn hb ho
  have CL : ∀ w, Rnd w → Calls Tryd.prog 15 #[.int .u64 seed, .int .i64 10] w fun e w' => e = .returned (.slice (some ⟨w.heap.size, 0, none⟩) 11 11) ∧ BkK w' w.heap.size (Pl.keysL (Pl.lastK seed 10) 10) ∧ Below w.heap.size w w' := fun w h => make_any seed 10 (by decide) (by decide) w h
  generalize Pl.lastK seed 10 = last at *
  have K0 := Pl.keysL_get last 10 0 (by decide)
  have K5 := Pl.keysL_get last 10 5 (by decide)
  have h05 : Pl.dnN (Pl.dnN last 5) 5 = Pl.dnN last 10 := Pl.dnN_add last 5 5
  simp only [Nat.reduceSub] at K0 K5
  generalize Pl.keysL last 10 = K at *
  generalize Pl.dnN last 10 = k0 at *
  generalize Pl.dnN last 5 = k5 at *
  have HK := hid (And.intro K0 (And.intro K5 h05))
  replace CL := hid CL
  have HG := hid (And.intro hR hG)
  clear K0 K5 h05 hR hG
  have hc : ((n : Int) > 100) = False := eq_false (by omega)
  go_enter Tryd.func9, Tryd.ntmps9
  go_wp2_with fail
  refine (CL.out _ HG.out.1).mono ?_
  rintro e w1 ⟨rfl, Kb, hb1⟩
  have HA1 := hid (AwS.make HG.out.1 HG.out.2 Kb hb1)
  clear Kb hb1 CL
  generalize hgk : W.heap.size = g at *
  subst hgk
  obtain ⟨c0, c1, c2, c3⟩ := HA1.out.cfg.cells
  obtain ⟨d0, d1⟩ := HA1.out.key HK.out.1
  simp only [Nat.zero_mul, Nat.zero_add] at d0 d1
  go_wp2_with fail
  go_still_tail 4, (by kernel_rfl)
  change wpList _ _ _ _ _ w1.drew
  have HA2 := hid HA1.out.drew
  generalize w1.drew = w2 at *
  clear c0 c1 c2 c3 d0 d1 HA1
  go_wp2_with fail
  refine (new_yes 1000 100 2 10 _ _ Pl.cf0 _).mono ?_
  rintro e w3 ⟨⟨gr, hgr, rfl, R3⟩, hb3⟩
  have HA3 := hid (HA2.out.next hb3)
  have HR3 := hid (show RcvS w3 (· = gr) gr 1000 100 2 10 ⟨0, k0, []⟩ from R3)
  have hgr2 : W.heap.size ≤ gr := Nat.le_trans HA2.out.below.size hgr
  have hgrg : W.heap.size ≠ gr := by have := HA2.out.hi; omega
  clear R3 hb3 hgr HA2
  obtain ⟨d0, d1⟩ := HA3.out.key HK.out.2.1
  simp only [Nat.reduceMul, Nat.reduceAdd] at d0 d1
  have BM := (Below.refl w3.heap.size w3).alloc (Nat.le_refl _) (.cells #[.int .u8 109, .int .u8 97, .int .u8 99] 5 (3, 4))
  have SM := hid (isl_const w3 kMac (3, 4) #[.int .u8 109, .int .u8 97, .int .u8 99] rfl)
  have HA4 := hid (HA3.out.next BM)
  have HR4 := hid (HR3.out.next BM)
  have cv := Lib.run_convert_bytes_const (P := Tryd.prog) w3 41 5 #[.int .u8 109, .int .u8 97, .int .u8 99] 3 3 Tryd.underlying41 Tryd.underlying5
  simp only [List.size_toArray, List.length_cons, List.length_nil, Nat.zero_add, Nat.reduceAdd] at cv
  clear BM HA3 HR3
  go_wp2_with fail
  generalize w3.alloc (.cells #[.int .u8 109, .int .u8 97, .int .u8 99] 5 (3, 4)) = w4 at *
  refine (derive_any _ _ _ 3 kMac _ HA4.out.rnd SM.out (by decide) (by decide)).mono ?_
  rintro e w5 ⟨rfl, hb5⟩
  have HA5 := hid (HA4.out.next hb5)
  have HR5 := hid (HR4.out.next hb5)
  clear cv d0 d1 HA4 HR4 SM hb5
  have TG : Calls Tryd.prog 36 #[.agg #[.int .u64 (Pl.d1 k5.1 k5.2 kMac), .int .u64 (Pl.d2 k5.1 k5.2 kMac)], .slice A n c] w5 fun e w' => e = .returned (.int .u64 (Pl.mtag k5 b)) ∧ Below w5.heap.size w5 w' := by
    have := tag_any (Pl.d1 k5.1 k5.2 kMac) (Pl.d2 k5.1 k5.2 kMac) A c b w5 HA5.out.rnd (HS.out.next HA5.out.below) hokb.out.1 (by have := hokb.out.2; omega)
    rw [HN.out] at this
    exact this
  replace TG := hid TG
  have htr := Pl.mtag_range k5 b
  generalize htg : Pl.mtag k5 b = tg at *
  have HTG := hid htg
  have hne := hid (Pl.wrap_odd htr HO.out)
  clear htg htr
  go_wp2_with fail
  refine TG.out.mono ?_
  rintro e w6 ⟨rfl, hb6⟩
  have HA6 := hid (HA5.out.next hb6)
  have HR6 := hid (HR5.out.next hb6)
  clear TG HA5 HR5 hb6
  generalize hto : IntKind.u64.wrap (tg + odd) = t2 at *
  go_wp2_with fail
  with_reducible refine (hear_yes (Pl.sd_h1500 _) Pl.cf0 (Pl.okR.new (by decide) _) hokb.out (HS.out.next HA6.out.below) HR6.out HN.out).mono ?_
  rintro e w7 ⟨rfl, S1, R7, F7⟩
  have hS0 : ∀ k, k = gr → W.heap.size ≤ k := fun k hk => by omega
  have HA7 := hid (HA6.out.fr F7 hS0 hgrg hW2)
  have hS1 := hid (F7.from_ HA6.out.below.size hS0)
  have hg1 := hid (fun h => hgrg (F7.set _ HA6.out.hi h))
  have HR7 : Hid (RcvS w7 S1 gr 1000 100 2 10 ⟨0, k0, [⟨5, b, t2⟩]⟩) := hid R7
  clear R7 F7 HA6 HR6
  go_wp2_with fail
  with_reducible refine (hear_no (Pl.sd_h1600 _ _) (by decide) Pl.cf0 (Pl.sd_ok _ _ _ hokb.out) hokb.out (HS.out.next HA7.out.below) HR7.out HN.out).mono ?_
  rintro e w8 ⟨rfl, hb8⟩
  have HA8 := hid (HA7.out.next hb8)
  have HR8 := hid (HR7.out.next hb8)
  clear HA7 HR7 hb8
  obtain ⟨d0, d1⟩ := HA8.out.key HK.out.2.1
  simp only [Nat.reduceMul, Nat.reduceAdd] at d0 d1
  go_wp2_with fail
  generalize IntKind.u64.wrap (k5.1 + odd) = x0 at *
  have hsA := HA8.out.below.size
  have hxb := hid (show W.heap.size < w8.heap.size from by have := HA8.out.hi; omega)
  have hS1l := hid (fun k (h : S1 k) => (show k < w8.heap.size from by obtain ⟨v, L, M⟩ := HR8.out; exact M.lt k h))
  have BX := (Below.refl w8.heap.size w8).alloc (Nat.le_refl _) (.cells #[.int .u64 x0, .int .u64 k5.2] 37)
  have BY := BX.alloc BX.size (.cells #[.int .u64 x0, .int .u64 k5.2] 37)
  have HI0 : Hid (SdI W K S1 gr ⟨0, k0, [⟨5, b, t2⟩]⟩ w8.heap.size (w8.heap.size + 1) (x0, k5.2) (x0, k5.2) ((w8.alloc (.cells #[.int .u64 x0, .int .u64 k5.2] 37)).alloc (.cells #[.int .u64 x0, .int .u64 k5.2] 37))) := hid
    ⟨HA8.out.next BY, HR8.out.next BY, (Bk.new w8 37 _).alloc _, by simpa using Bk.new (w8.alloc (.cells #[.int .u64 x0, .int .u64 k5.2] 37)) 37 #[.int .u64 x0, .int .u64 k5.2]⟩
  generalize (w8.alloc (.cells #[.int .u64 x0, .int .u64 k5.2] 37)).alloc (.cells #[.int .u64 x0, .int .u64 k5.2] 37) = w9 at *
  clear d0 d1 BX BY HA8 HR8 hsA
  go_loopw [12] (fun iv wr => ∃ j : Nat, j ≤ 5 ∧ iv = .int .i64 (j : Int) ∧ SdI W K S1 gr ⟨0, k0, [⟨5, b, t2⟩]⟩ w8.heap.size (w8.heap.size + 1) (x0, k5.2) (Pl.dnN (x0, k5.2) j) wr) (fun iv _ => 5 - (intOf iv).toNat)
  case atStart => exact ⟨0, by decide, rfl, HI0.out⟩
  case round =>
    clear HI0
    obtain ⟨j, hj, rfl, I⟩ := hrel
    by_cases hlt : j < 5
    · obtain ⟨y0, y1⟩ := I.2.2.2.two
      have hdn : Pl.dnN (x0, k5.2) (j + 1) = Pl.dn (Pl.dnN (x0, k5.2) j) := rfl
      have Hdn := hid hdn
      clear hdn
      generalize Pl.dnN (x0, k5.2) j = y at *
      have BM := (Below.refl wr.heap.size wr).alloc (Nat.le_refl _) (.cells #[.int .u8 100, .int .u8 111, .int .u8 119, .int .u8 110] 5 (4, 5))
      have SM := hid (isl_const wr kDown (4, 5) #[.int .u8 100, .int .u8 111, .int .u8 119, .int .u8 110] rfl)
      have HIa := hid (I.next BM)
      have cv := Lib.run_convert_bytes_const (P := Tryd.prog) wr 41 5 #[.int .u8 100, .int .u8 111, .int .u8 119, .int .u8 110] 4 4 Tryd.underlying41 Tryd.underlying5
      simp only [List.size_toArray, List.length_cons, List.length_nil, Nat.zero_add, Nat.reduceAdd] at cv
      clear I BM
      go_wp2_with fail
      generalize wr.alloc (.cells #[.int .u8 100, .int .u8 111, .int .u8 119, .int .u8 110] 5 (4, 5)) = wa at *
      refine (derive_any _ _ _ 4 kDown _ HIa.out.1.rnd SM.out (by decide) (by decide)).mono ?_
      rintro e wb ⟨rfl, hbb⟩
      have Ib := HIa.out.next hbb
      clear cv HIa SM hbb y0 y1
      obtain ⟨y0, y1⟩ := Ib.2.2.2.two
      have f0 := Ib.2.2.2.free 0
      have f1 := Ib.2.2.2.free 1
      have HIb := hid Ib
      clear Ib
      go_wp2
      go_roundw
      case rel => exact ⟨j + 1, by omega, by simp, by rw [Hdn.out]; exact HIb.out.set (fun h => by have := hS1l.out _ h; omega) (by have := hxb.out; omega) hW2 (by omega) (Pl.dn y)⟩
      case measure => simp [intOf]; omega
    · obtain rfl : j = 5 := by omega
      have HI := hid I
      have hsd := Pl.sd_d k0 (x0, k5.2) [⟨5, b, t2⟩]
      generalize hyv : Pl.dnN (x0, k5.2) 5 = y at *
      obtain ⟨x0c, x1c⟩ := I.2.2.1.two
      simp only at x0c x1c
      clear I
      by_cases hy : y = k0
      · rw [if_pos hy] at hsd
        have D := hid (disc_yes hsd HI.out.2.1 (Pl.sd_ok _ _ _ hokb.out) (by decide) HI.out.1.rnd (fun k hk => by have := hS1.out k hk; omega))
        have HY := hid hy
        have HYV := hid hyv
        clear hsd hy hyv
        go_wp2_with fail
        refine D.out.mono ?_
        rintro e wd ⟨rv, S2, rfl, Rd, BBd, Fd⟩
        have HAd := hid (HI.out.1.fr Fd hS1.out hg1.out hW2)
        have Yd := Fd.bk HI.out.2.2.2 (fun h => by have := hS1l.out _ h; omega)
        obtain ⟨y0, y1⟩ := Yd.two
        rw [HY.out] at y0 y1
        obtain ⟨d0, d1⟩ := HAd.out.key HK.out.1
        simp only [Nat.zero_mul, Nat.zero_add] at d0 d1
        clear Rd BBd Fd D Yd x0c x1c
        go_wp2_with fail
        go_quiet (fail)
        have AW := hid (awake_any (wd.drewN nq) (HAd.out.next (bdrewN (Below.refl _ _) nq)).rnd (HAd.out.next (bdrewN (Below.refl _ _) nq)).cfg)
        go_wp2_with fail
        refine AW.out.mono ?_
        rintro e we ⟨rfl, hbe⟩
        go_wp2
        go_ret
        exact ⟨rfl, bstep (bdrewN HAd.out.below nq) hbe⟩
      · rw [if_neg hy] at hsd
        have D := hid (disc_no hsd (by decide) HI.out.2.1 (Pl.sd_ok _ _ _ hokb.out) (by decide) HI.out.1.rnd (fun k hk => by have := hS1.out k hk; omega))
        have HY := hid (eq_false_key hy)
        clear hsd hy hyv
        go_wp2_with fail
        refine D.out.mono ?_
        rintro e wd ⟨rfl, hbd⟩
        have HId := hid (HI.out.next hbd)
        clear hbd D HI x0c x1c
        obtain ⟨y0, y1⟩ := HId.out.2.2.2.two
        obtain ⟨d0, d1⟩ := HId.out.1.key HK.out.1
        simp only [Nat.zero_mul, Nat.zero_add] at d0 d1
        go_wp2_with fail
        go_quiet (fail)
        rw [HY.out]
        have HIe := hid (HId.out.next (bdrewN (Below.refl _ _) nq))
        generalize wd.drewN nq = we at *
        clear HId y0 y1 d0 d1
        have KN : Hid (Calls Tryd.prog 31 #[pt gr] we fun e w' => e = .returned (.int .i64 0) ∧ we = w') := hid (known_of HIe.out.2.1)
        have HL : Hid (Calls Tryd.prog 33 #[pt gr] we fun e w' => e = .returned (.int .i64 1) ∧ we = w') := hid (held_of HIe.out.2.1)
        go_wp2_with fail
        refine KN.out.mono ?_
        rintro e wl' ⟨rfl, rfl⟩
        go_wp2_with fail
        refine HL.out.mono ?_
        rintro e wl' ⟨rfl, rfl⟩
        obtain ⟨d0, d1⟩ := HIe.out.1.key HK.out.2.1
        simp only [Nat.reduceMul, Nat.reduceAdd] at d0 d1
        have hsd := Pl.sd_d k0 k5 [⟨5, b, t2⟩]
        rw [if_pos HK.out.2.2] at hsd
        have D := hid (disc_yes hsd HIe.out.2.1 (Pl.sd_ok _ _ _ hokb.out) (by decide) HIe.out.1.rnd (fun k hk => by have := hS1.out k hk; omega))
        have hout := Pl.sd_out k5 b t2 (fun e => hne.out (e.trans HTG.out))
        rw [Pl.sd_st] at D
        simp only at D
        rw [hout] at D
        clear hsd hout KN HL
        go_wp2_with fail
        refine D.out.mono ?_
        rintro e wf ⟨rv, S2, rfl, Rf, BBf, Ff⟩
        have HAf := hid (HIe.out.1.fr Ff hS1.out hg1.out hW2)
        have HLf : Hid (Calls Tryd.prog 33 #[pt gr] wf fun e w' => e = .returned (.int .i64 0) ∧ wf = w') := hid (held_of Rf)
        obtain ⟨Ab, cb, rfl, _⟩ := BBf.row
        simp only [List.length_nil]
        clear Rf BBf Ff D d0 d1 HIe
        go_wp2_with fail
        refine HLf.out.mono ?_
        rintro e wl' ⟨rfl, rfl⟩
        go_wp2_with fail
        refine (awake_any _ HAf.out.rnd HAf.out.cfg).mono ?_
        rintro e wg ⟨rfl, hbg⟩
        go_wp2
        go_ret
        exact ⟨rfl, bstep HAf.out.below hbg⟩
theorem chainSound_walk (seed : Int) (A : Option Addr) (c : Nat) (b : List Int) (odd : Int) (W : World) (hR : Rnd W) (hG : CfG W) (hS : IsSl W A .u8 b) (hb : ∀ x ∈ b, 0 ≤ x ∧ x ≤ 255) (hl : b.length ≤ 9223372036854775807) (ho : 0 ≤ odd ∧ odd ≤ 18446744073709551615) :
    Calls Tryd.prog 9 #[.int .u64 seed, .slice A b.length c, .int .u64 odd] W fun e w' => e = .returned (.bool true) ∧ Below W.heap.size W w' := by
  by_cases h1 : 100 < b.length
  · generalize b.length = n at *
    have HG := hid (And.intro hR hG)
    clear hR hG hS hb
    go_enter Tryd.func9, Tryd.ntmps9
    go_wp2_with fail
    refine (awake_any _ HG.out.1 HG.out.2).mono ?_
    rintro e w1 ⟨rfl, hb⟩
    go_wp2
    go_ret
    exact ⟨rfl, hb⟩
  by_cases h2 : odd = 0
  · subst h2
    generalize b.length = n at *
    have HG := hid (And.intro hR hG)
    clear hR hG hS hb
    go_enter Tryd.func9, Tryd.ntmps9
    go_wp2_with fail
    refine (awake_any _ HG.out.1 HG.out.2).mono ?_
    rintro e w1 ⟨rfl, hb⟩
    go_wp2
    go_ret
    exact ⟨rfl, hb⟩
  exact chainSound_yes seed A c b.length b odd W hR hG rfl (by omega) hS hb (by omega)
end Go.Proofs.YtmegiodajkeahaaDoor
