/- The walk of the law ChainComplete. -/
import Derived.Test.YtmegiodajkeahaaDoorChCP
import Derived.Test.YtmegiodajkeahaaDoorChAl
import Derived.Deep.RegionHeld3
import Derived.Deep.RegionWith
import Derived.Deep.DrawnRows
namespace Go.Proofs.YtmegiodajkeahaaDoor
open Go Go.RowKit
theorem CcR.add {W w7 w8 : World} {K : List (Int × Int)} {k0 last : Int × Int} {b of : List Int} {gr k : Nat} {sv sv' : Value} {S' : Nat → Prop} {LM : List Lm} {i : Int} {A : Option Addr} {c : Nat} {o : Obj} (hi : of[k]? = some i) (h12 : 1 ≤ i ∧ i ≤ 10) (hW : 2 ≤ W.heap.size)
    (hA : AwS W W.heap.size K w7) (hR : RcvS w7 S' gr 1000 100 2 10 ⟨0, k0, Pl.ccL last b of (k + 1)⟩) (hlo : ∀ j, S' j → W.heap.size ≤ j) (hg : ¬ S' W.heap.size) (hst : Sent w7 W.heap.size S' W.heap.size sv LM)
    (hbs : LM.map (fun x => x.1.b) = (Pl.ccL last b of k).map Pl.Msg.b) (hlt : ∀ x ∈ LM, ∀ a, x.2.1 = some a → a.block < w7.heap.size) (hof : ∀ j i, of[j]? = some i → j < k → 1 ≤ i ∧ i ≤ 10)
    (hm : IsSl w7 A .u8 (b ++ [(k : Int)])) (hmo : ∀ a, A = some a → ¬ S' a.block ∧ sv.ownBlock ≠ some a.block ∧ a.block < w7.heap.size)
    (hgw : (w7.alloc o).grownBy w8 sv.ownBlock) (O : w8.ownsRow W.heap.size 41 1 sv' (LM.length + 1) (LM.map slv ++ [.slice A (b ++ [(k : Int)]).length c])) (hat : sv'.ownBlock = sv.ownBlock ∨ sv'.ownBlock = some (w7.alloc o).heap.size) :
    CcR W K k0 last b of gr (k + 1) sv' w8 := by
  have BA : Below w7.heap.size w7 (w7.alloc o) := (Below.refl _ _).alloc (Nat.le_refl _) o
  have hsvl := World.ownsRow.lt hst.own
  have hgS : ∀ r, sv.ownBlock = some r → W.heap.size ≤ r ∧ r ≠ W.heap.size := fun r hr => ⟨(hsvl r hr).1, (hst.off r hr).2⟩
  have hSl : ∀ r, S' r → r < w7.heap.size := fun r hr => by obtain ⟨v, L, M⟩ := hR; exact M.lt r hr
  have hsz : w7.heap.size ≤ w8.heap.size := by have := hgw.size; simp at this; omega
  refine ⟨S', LM ++ [(Pl.ccM last b i k, A, c)], ⟨(hA.next BA).grown hgw hgS hW, (hR.next BA).grown hgw (fun r hr => (hst.off r hr).1), hlo, hg, ?_, ?_, ?_, ?_⟩⟩
  · exact hst.add (x := (Pl.ccM last b i k, A, c)) hgw O hat hm hmo hlt hSl hA.hi
  · rw [List.map_append, hbs, Pl.ccL_next last b of k i hi, List.map_append]; rfl
  · intro x hx a ha
    rcases List.mem_append.1 hx with hx | hx
    · have := hlt x hx a ha; omega
    · simp only [List.mem_singleton] at hx
      subst hx
      have := (hmo a ha).2.2; omega
  · intro j i' hj hjk
    by_cases e : j = k
    · subst e
      obtain rfl : i = i' := by rw [hi] at hj; exact Option.some.inj hj
      exact h12
    · exact hof j i' hj (by omega)
set_option maxHeartbeats 4000000 in
set_option maxRecDepth 100000 in
theorem chainComplete_yes (seed : Int) (A1 A2 : Option Addr) (d1 d2 n1 n2 : Nat) (of b : List Int) (W : World) (hR : Rnd W) (hG : CfG W) (hn1 : of.length = n1) (hn2 : b.length = n2) (h30 : n1 ≤ 30) (h100 : n2 ≤ 100) (hO : IsSl W A1 .i64 of) (hS : IsSl W A2 .u8 b) (hb : ∀ x ∈ b, 0 ≤ x ∧ x ≤ 255) :
    Calls Tryd.prog 7 #[.int .u64 seed, .slice A1 n1 d1, .slice A2 n2 d2] W fun e w' => e = .returned (.bool true) ∧ Below W.heap.size W w' := by
  have hW2 : 2 ≤ W.heap.size := hR.lt
  have hokb : Hid (Pl.okB b) := hid ⟨hb, by omega⟩
  have HO := hid (And.intro hO hn1)
  have HS := hid (And.intro hS hn2)
  clear hS hn1 hn2 hO hb
  have CL : ∀ w, Rnd w → Calls Tryd.prog 15 #[.int .u64 seed, .int .i64 10] w fun e w' => e = .returned (.slice (some ⟨w.heap.size, 0, none⟩) 11 11) ∧ BkK w' w.heap.size (Pl.keysL (Pl.lastK seed 10) 10) ∧ Below w.heap.size w w' := fun w h => make_any seed 10 (by decide) (by decide) w h
  generalize Pl.lastK seed 10 = last at *
  have K0 := Pl.keysL_get last 10 0 (by decide)
  have K10 := Pl.keysL_get last 10 10 (by decide)
  have KA := fun i h => Pl.keysL_get last 10 i h
  simp only [Nat.sub_zero, Nat.sub_self] at K0 K10
  generalize Pl.keysL last 10 = K at *
  have HD := hid (fun ms => Pl.cc_d last ms)
  generalize Pl.dnN last 10 = k0 at *
  have HK := hid (And.intro K0 (And.intro K10 KA))
  replace CL := hid CL
  have HG := hid (And.intro hR hG)
  clear K0 K10 KA hR hG
  go_enter Tryd.func7, Tryd.ntmps7
  go_wp2_with fail
  refine (CL.out _ HG.out.1).mono ?_
  rintro e w1 ⟨rfl, Kb, hb1⟩
  have HA1 := hid (AwS.make HG.out.1 HG.out.2 Kb hb1)
  clear Kb hb1 CL
  obtain ⟨c0, c1, c2, c3⟩ := HA1.out.cfg.cells
  obtain ⟨e0, e1⟩ := HA1.out.key HK.out.1
  simp only [Nat.zero_mul, Nat.zero_add] at e0 e1
  go_wp2_with fail
  go_still_tail 4, (by kernel_rfl)
  change wpList _ _ _ _ _ w1.drew
  have HA2 := hid HA1.out.drew
  generalize w1.drew = w2 at *
  clear c0 c1 c2 c3 e0 e1 HA1
  go_wp2_with fail
  refine (new_yes 1000 100 2 10 _ _ Pl.cf0 _).mono ?_
  rintro e w3 ⟨⟨gr, hgr, rfl, R3⟩, hb3⟩
  have hgr2 : W.heap.size ≤ gr := Nat.le_trans HA2.out.below.size hgr
  have hgrg : W.heap.size ≠ gr := by have := HA2.out.hi; omega
  have HI0 : Hid (CcR W K k0 last b of gr 0 (.slice none 0 0) w3) := hid ⟨(· = gr), [], ⟨HA2.out.next hb3, R3, (fun j hj => by omega), hgrg, Sent.nil_ _ _ _ _, rfl, (fun x hx => by cases hx), (fun j i _ hj => by omega)⟩⟩
  clear R3 hb3 hgr HA2
  go_wp2_with fail
  go_loopw [9, 10] (fun sv iv wr => ∃ k : Nat, k ≤ n1 ∧ iv = .int .i64 (k : Int) ∧ CcR W K k0 last b of gr k sv wr) (fun _ iv _ => n1 - (intOf iv).toNat)
  case atStart => exact ⟨0, Nat.zero_le _, rfl, HI0.out⟩
  case round =>
    clear HI0
    obtain ⟨k, hk, rfl, S, LM, I⟩ := hrel
    have HI := hid I
    clear I
    by_cases hlt : k < n1
    · obtain ⟨i, hi⟩ : ∃ x, of[k]? = some x := ⟨of[k]'(by have := HO.out.2; omega), List.getElem?_eq_getElem _⟩
      rcases (HO.out.1.next HI.out.aw.below).row with h0 | ⟨ob, oo, hA1, hob, hoc⟩
      · have := HO.out.2; omega
      subst hA1
      have o0 := hoc k i hi
      have Hi := hid hi
      clear hoc hi
      by_cases hi1 : i < 1
      · go_wp2_with fail
        refine (awake_any _ HI.out.aw.rnd HI.out.aw.cfg).mono ?_
        rintro e we ⟨rfl, hbe⟩
        go_wp2
        go_ret
        exact ⟨rfl, bstep HI.out.aw.below hbe⟩
      by_cases hi2 : 10 < i
      · go_wp2_with fail
        refine (awake_any _ HI.out.aw.rnd HI.out.aw.cfg).mono ?_
        rintro e we ⟨rfl, hbe⟩
        go_wp2
        go_ret
        exact ⟨rfl, bstep HI.out.aw.below hbe⟩
      · obtain ⟨j, rfl⟩ : ∃ j : Nat, i = j := ⟨i.toNat, by omega⟩
        have hkj := HK.out.2.2 j (by omega)
        have hw8 : IntKind.u8.wrap (k : Int) = k := by
          rw [IntKind.wrap_u8]; omega
        have BE := hid ((Below.refl wr.heap.size wr).alloc (Nat.le_refl _) (.cells #[] 5))
        have OE := hid (Own.empty (k := .u8) (Bk.new wr 5 #[]) (Nat.le_refl _))
        have HSb := hid (HS.out.1.next (bstep HI.out.aw.below BE.out))
        have HN2 := hid HS.out.2
        go_wp2_with (first | (at_builtin; refine wpList_app_ints (by rfl) (.tmp 54) (.tmp 55) 41 (by rfl) wr.heap.size 5 .u8 1 Tryd.underlying41 info_u8 (.slice (some ⟨wr.heap.size, 0, none⟩) 0 0) [] (by rfl) OE.out A2 d2 b (by rw [HN2.out]; rfl) HSb.out (by simp only [maxLen, List.length_nil]; have := HN2.out; omega) (by simp only [List.length_nil]; have := HN2.out; omega) (by simp) ?_; intro v1 w2' O1 hb2 hg2 hat2; have HO1 := hid O1; have HB2 := hid hb2; have hs2 := hb2.size; clear O1 hb2 hg2 hat2) | (at_builtin; refine wpList_app_ints (by rfl) (.tmp 56) (.tmp 59) 41 (by rfl) wr.heap.size 5 .u8 1 Tryd.underlying41 info_u8 v1 _ (by rfl) (HO1.out.alloc (.cells #[.int .u8 (k : Int)] 5)) (some ⟨w2'.heap.size, 0, none⟩) 1 [(k : Int)] (by rfl) (IsSl.of_bk [(k : Int)] (Bk.new w2' 5 #[.int .u8 (k : Int)]) rfl) (by simp only [maxLen, List.nil_append, List.length_cons, List.length_nil]; have := HN2.out; omega) (by simp only [List.nil_append, List.length_cons, List.length_nil]; have := HN2.out; omega) (by simp at hs2 ⊢; omega) ?_; intro v2 w3 O2 hb3 hg3 hat3; obtain ⟨Am, cm, hv2, hSm, hom⟩ := O2.slice_; rw [show (([] : List Int) ++ b ++ [(k : Int)]).length = n2 + 1 from by simp [HN2.out]] at hv2; rw [List.nil_append] at hSm; have HB3 := hid hb3; have HSm := hid hSm; have Hom := hid (And.intro hv2 hom); clear hb3 hg3 hat3 O2 hSm hom; subst hv2))
        have B3 : Below wr.heap.size wr w3 := BE.out.trans (HB2.out.trans (((Below.refl _ _).alloc (by simp at hs2 ⊢; omega) _).trans HB3.out))
        have HB := hid B3
        have HA3 := hid (HI.out.aw.next B3)
        have HR3 := hid (HI.out.rc.next B3)
        have hmt : Hid (Pl.ccM last b (j : Int) k = ⟨(j : Int), b ++ [(k : Int)], Pl.mtag (Pl.dnN last (10 - j)) (b ++ [(k : Int)])⟩) := hid (by
          unfold Pl.ccM
          rw [show ((10 : Int) - (j : Int)).toNat = 10 - j from by omega])
        have hkey := HA3.out.key hkj
        generalize Pl.dnN last (10 - j) = kk at *
        have ho3 : w3.cell? ⟨ob, oo + k, none⟩ = some (.int .i64 (j : Int)) := (B3.cell (p := ⟨ob, oo + k, none⟩) hob).trans o0
        have hgl := HA3.out.hi
        have hobl : ob < w3.heap.size := Nat.lt_of_lt_of_le hob B3.size
        have HSX : Hid (∀ w', Below w3.heap.size w3 w' → (w'.cell? ⟨ob, oo + k, none⟩ = some (.int .i64 (j : Int))) ∧ (w'.cell? ⟨W.heap.size, j * 2, none⟩ = some (.int .u64 kk.1)) ∧ (w'.cell? ⟨W.heap.size, j * 2 + 1, none⟩ = some (.int .u64 kk.2))) := hid (fun w' h =>
          ⟨(h.cell (p := ⟨ob, oo + k, none⟩) hobl).trans ho3, (h.cell (p := ⟨W.heap.size, j * 2, none⟩) hgl).trans hkey.1, (h.cell (p := ⟨W.heap.size, j * 2 + 1, none⟩) hgl).trans hkey.2⟩)
        have hobW : ob < W.heap.size := by
          rcases HO.out.1.row with h0 | ⟨b', o', hA, hb', _⟩
          · have := HO.out.2; omega
          · cases hA; exact hb'
        have HSY : Hid (∀ (S' : Nat → Prop) (w' w'' : World), Below w3.heap.size w3 w' → Fr S S' w' w'' → (w''.cell? ⟨ob, oo + k, none⟩ = some (.int .i64 (j : Int))) ∧ (w''.cell? ⟨W.heap.size, j * 2, none⟩ = some (.int .u64 kk.1)) ∧ (w''.cell? ⟨W.heap.size, j * 2 + 1, none⟩ = some (.int .u64 kk.2))) := hid (fun S' w' w'' h F => by
          obtain ⟨a1, a2, a3⟩ := HSX.out w' h
          have hgl' := Nat.lt_of_lt_of_le hgl h.size
          have hob' := Nat.lt_of_lt_of_le hobl h.size
          exact ⟨(F.cell (p := ⟨ob, oo + k, none⟩) hob' (fun e => by have := HI.out.lo _ e; dsimp only at this; omega)).trans a1, (F.cell (p := ⟨W.heap.size, j * 2, none⟩) hgl' HI.out.hg).trans a2, (F.cell (p := ⟨W.heap.size, j * 2 + 1, none⟩) hgl' HI.out.hg).trans a3⟩)
        have cv : (convert 41 41 (.slice (some ⟨w3.heap.size, 0, none⟩) 3 3)).run Tryd.prog (w3.alloc (.cells #[.int .u8 109, .int .u8 97, .int .u8 99] 5)).drew = .ok (.slice (some ⟨w3.heap.size, 0, none⟩) 3 3) (w3.alloc (.cells #[.int .u8 109, .int .u8 97, .int .u8 99] 5 (3, 4))).drew :=
          Lib.run_convert_bytes_const (P := Tryd.prog) w3.drew 41 5 #[.int .u8 109, .int .u8 97, .int .u8 99] 3 3 Tryd.underlying41 Tryd.underlying5
        have DV : Hid (Calls Tryd.prog 35 #[.agg #[.int .u64 kk.1, .int .u64 kk.2], .slice (some ⟨w3.heap.size, 0, none⟩) 3 3] (w3.alloc (.cells #[.int .u8 109, .int .u8 97, .int .u8 99] 5 (3, 4))).drew fun e w' => e = .returned (.agg #[.int .u64 (Pl.d1 kk.1 kk.2 kMac), .int .u64 (Pl.d2 kk.1 kk.2 kMac)]) ∧ Below w3.heap.size w3 w') := hid
          ((derive_any kk.1 kk.2 _ 3 kMac _ ((HA3.out.next (((Below.refl _ _).alloc (Nat.le_refl _) _).drew)).rnd) (isl_const w3.drew kMac (3, 4) _ rfl) (by decide) (by decide)).mono fun e w' ⟨h1, h2⟩ => ⟨h1, bstep ((((Below.refl w3.heap.size w3).alloc (Nat.le_refl _) _).drew)) h2⟩)
        have hokm : Hid (Pl.okB (b ++ [(k : Int)])) := hid ⟨by
          intro x hx
          rcases List.mem_append.1 hx with hx | hx
          · exact hokb.out.1 x hx
          · simp at hx; omega, by have := HN2.out; simp; omega⟩
        have hlm : Hid ((b ++ [(k : Int)]).length = n2 + 1) := hid (by have := HN2.out; simp; omega)
        have TV : Hid (∀ w', Below w3.heap.size w3 w' → Calls Tryd.prog 36 #[.agg #[.int .u64 (Pl.d1 kk.1 kk.2 kMac), .int .u64 (Pl.d2 kk.1 kk.2 kMac)], .slice Am (n2 + 1) cm] w' fun e w'' => e = .returned (.int .u64 (Pl.mtag kk (b ++ [(k : Int)]))) ∧ Below w'.heap.size w' w'') := hid (fun w' h => by
          have := tag_any (Pl.d1 kk.1 kk.2 kMac) (Pl.d2 kk.1 kk.2 kMac) Am cm (b ++ [(k : Int)]) w' ((HA3.out.next h).rnd) (HSm.out.next h) hokm.out.1 (by have := hlm.out; omega)
          rw [hlm.out] at this
          exact this)
        have HV : Hid (∀ w', Below w3.heap.size w3 w' → Calls Tryd.prog 26 #[pt gr, .int .i64 (j : Int), .slice Am (n2 + 1) cm, .int .u64 (Pl.mtag kk (b ++ [(k : Int)])), .agg #[.int .i64 0, .int .i64 (1000 + 100 * (j : Int))]] w' fun e w'' => e = .returned (.int .i64 0) ∧ ∃ S', RcvS w'' S' gr 1000 100 2 10 ⟨0, k0, Pl.ccL last b of (k + 1)⟩ ∧ Fr S S' w' w'') := hid (fun w' h =>
          (hear_yes (Pl.cc_hErr k0 (Pl.ccL last b of k) (j : Int) (by omega) (by omega) (by rw [Pl.ccL_len last b of k (by have := HO.out.2; omega)]; omega)) Pl.cf0 (Pl.cc_ok last b of k (by omega) hokb.out (by have := HN2.out; omega) HI.out.of k0) hokm.out (HSm.out.next h) (HR3.out.next h) (n := n2 + 1) hlm.out (t := Pl.mtag kk (b ++ [(k : Int)]))).mono fun e w'' ⟨h1, S', h2, h3⟩ => ⟨h1, S', by
            rw [← hmt.out, Pl.cc_hst k0 last b of k _ Hi.out] at h2
            exact h2, h3⟩)
        have hk1 : ((k : Int) < (n1 : Int)) = True := eq_true (by omega)
        have hj1 : ((j : Int) < 11) = True := eq_true (by omega)
        have hj0 : (0 : Int) ≤ (j : Int) := by omega
        have hwm : IntKind.i64.wrap (100 * (j : Int)) = 100 * (j : Int) := IntWalk.i64_in _ (by omega)
        have hwa : IntKind.i64.wrap (1000 + 100 * (j : Int)) = 1000 + 100 * (j : Int) := IntWalk.i64_in _ (by omega)
        clear hkey ho3 hgl hobl B3 hkj o0
        refine wp_region_held_drew (S := (fun w' => (w'.cell? ⟨ob, oo + k, none⟩ = some (.int .i64 (j : Int))) ∧ (w'.cell? ⟨W.heap.size, j * 2, none⟩ = some (.int .u64 kk.1)) ∧ (w'.cell? ⟨W.heap.size, j * 2 + 1, none⟩ = some (.int .u64 kk.2)))) (by kernel_rfl) (HSX.out _ ((Below.refl w3.heap.size w3).drew)) (fun hHeld => ?_)
        refine wpAnyH_take (i := 0) (oi := ⟨some 61, _, _, _, _, _⟩) (v := ?_) rfl (by kernel_rfl) (by kernel_rfl) (by kernel_rfl) (fun _ _ _ h => h) (Or.inl ⟨by rfl, ?_⟩) (by assumption) ?_
        rotate_left
        focus
          intro w hSw
          try dsimp only at hSw
          go_simp
          first
          | done
          | with_reducible rfl
        try simp only [Act.put, List.setIfInBounds_toArray, List.set_cons_zero, List.set_cons_succ]
        refine wpAnyH_take (i := 1) (oi := ⟨some 62, _, _, _, _, _⟩) (v := ?_) rfl (by kernel_rfl) (by kernel_rfl) (by kernel_rfl) (fun _ _ _ h => h) (Or.inl ⟨by rfl, ?_⟩) (by assumption) ?_
        rotate_left
        focus
          intro w hSw
          try dsimp only at hSw
          go_simp
          first
          | done
          | with_reducible rfl
        try simp only [Act.put, List.setIfInBounds_toArray, List.set_cons_zero, List.set_cons_succ]
        refine wpAnyH_take (i := 2) (oi := ⟨some 63, _, _, _, _, _⟩) (v := ?_) rfl (by kernel_rfl) (by kernel_rfl) (by kernel_rfl) (fun _ _ _ h => h) (Or.inl ⟨by rfl, ?_⟩) (by assumption) ?_
        rotate_left
        focus
          intro w hSw
          try dsimp only at hSw
          go_simp
          first
          | done
          | with_reducible rfl
        try simp only [Act.put, List.setIfInBounds_toArray, List.set_cons_zero, List.set_cons_succ]
        refine wpAnyH_take (i := 3) (oi := ⟨some 64, _, _, _, _, _⟩) (v := ?_) rfl (by kernel_rfl) (by kernel_rfl) (by kernel_rfl) (fun _ _ _ h => h) (Or.inl ⟨by rfl, ?_⟩) (by assumption) ?_
        rotate_left
        focus
          intro w hSw
          try dsimp only at hSw
          go_simp
          first
          | done
          | with_reducible rfl
        try simp only [Act.put, List.setIfInBounds_toArray, List.set_cons_zero, List.set_cons_succ]
        refine wpAnyH_take (i := 4) (oi := ⟨some 65, _, _, _, _, _⟩) (v := ?_) rfl (by kernel_rfl) (by kernel_rfl) (by kernel_rfl) (fun _ _ _ h => h) (Or.inl ⟨by rfl, ?_⟩) (by assumption) ?_
        rotate_left
        focus
          intro w hSw
          try dsimp only at hSw
          go_simp
          first
          | done
          | with_reducible rfl
        try simp only [Act.put, List.setIfInBounds_toArray, List.set_cons_zero, List.set_cons_succ]
        refine wpAnyH_take (i := 5) (oi := ⟨some 66, _, _, _, _, _⟩) (v := ?_) rfl (by kernel_rfl) (by kernel_rfl) (by kernel_rfl) (fun _ _ _ h => h) (Or.inl ⟨by rfl, ?_⟩) (by assumption) ?_
        rotate_left
        focus
          intro w hSw
          try dsimp only at hSw
          go_simp
          first
          | done
          | with_reducible rfl
        try simp only [Act.put, List.setIfInBounds_toArray, List.set_cons_zero, List.set_cons_succ]
        refine wpAnyH_take (i := 6) (oi := ⟨some 67, _, _, _, _, _⟩) (v := ?_) rfl (by kernel_rfl) (by kernel_rfl) (by kernel_rfl) (fun _ _ _ h => h) (Or.inl ⟨by rfl, ?_⟩) (by assumption) ?_
        rotate_left
        focus
          intro w hSw
          try dsimp only at hSw
          go_simp
          first
          | done
          | with_reducible rfl
        try simp only [Act.put, List.setIfInBounds_toArray, List.set_cons_zero, List.set_cons_succ]
        refine wpAnyH_take (i := 7) (oi := ⟨some 68, _, _, _, _, _⟩) (v := ?_) rfl (by kernel_rfl) (by kernel_rfl) (by kernel_rfl) (fun _ _ _ h => h) (Or.inl ⟨by rfl, ?_⟩) (by assumption) ?_
        rotate_left
        focus
          intro w hSw
          try dsimp only at hSw
          go_simp
          first
          | done
          | with_reducible rfl
        try simp only [Act.put, List.setIfInBounds_toArray, List.set_cons_zero, List.set_cons_succ]
        refine wpAnyH_take (i := 8) (oi := ⟨some 69, _, _, _, _, _⟩) (v := ?_) rfl (by kernel_rfl) (by kernel_rfl) (by kernel_rfl) (fun _ _ _ h => h) (Or.inl ⟨by rfl, ?_⟩) (by assumption) ?_
        rotate_left
        focus
          intro w hSw
          try dsimp only at hSw
          go_simp
          first
          | done
          | with_reducible rfl
        try simp only [Act.put, List.setIfInBounds_toArray, List.set_cons_zero, List.set_cons_succ]
        refine wpAnyH_take (i := 9) (oi := ⟨some 70, _, _, _, _, _⟩) (v := ?_) rfl (by kernel_rfl) (by kernel_rfl) (by kernel_rfl) (fun _ _ _ h => h) (Or.inl ⟨by rfl, ?_⟩) (by assumption) ?_
        rotate_left
        focus
          intro w hSw
          try dsimp only at hSw
          go_simp
          first
          | done
          | with_reducible rfl
        try simp only [Act.put, List.setIfInBounds_toArray, List.set_cons_zero, List.set_cons_succ]
        refine wpAnyH_take (i := 10) (oi := ⟨some 71, _, _, _, _, _⟩) (v := ?_) rfl (by kernel_rfl) (by kernel_rfl) (by kernel_rfl) (fun _ _ _ h => h) (Or.inl ⟨by rfl, ?_⟩) (by assumption) ?_
        rotate_left
        focus
          intro w hSw
          try dsimp only at hSw
          go_simp
          first
          | done
          | with_reducible rfl
        try simp only [Act.put, List.setIfInBounds_toArray, List.set_cons_zero, List.set_cons_succ]
        refine wpAnyH_take (i := 11) (oi := ⟨some 72, _, _, _, _, _⟩) (v := ?_) rfl (by kernel_rfl) (by kernel_rfl) (by kernel_rfl) (fun _ _ _ h => h) (Or.inl ⟨by rfl, ?_⟩) (by assumption) ?_
        rotate_left
        focus
          intro w hSw
          try dsimp only at hSw
          go_simp
          first
          | done
          | with_reducible rfl
        try simp only [Act.put, List.setIfInBounds_toArray, List.set_cons_zero, List.set_cons_succ]
        refine wpAnyH_take (i := 12) (oi := ⟨some 73, _, _, _, _, _⟩) (v := ?_) rfl (by kernel_rfl) (by kernel_rfl) (by kernel_rfl) (fun _ _ _ h => h) (Or.inl ⟨by rfl, ?_⟩) (by assumption) ?_
        rotate_left
        focus
          intro w hSw
          try dsimp only at hSw
          go_simp
          first
          | done
          | with_reducible rfl
        try simp only [Act.put, List.setIfInBounds_toArray, List.set_cons_zero, List.set_cons_succ]
        refine wpAnyH_take (i := 16) (oi := ⟨some 77, _, _, _, _, _⟩) (v := ?_) rfl (by kernel_rfl) (by kernel_rfl) (by kernel_rfl) (fun _ _ _ h => h) (Or.inl ⟨by rfl, ?_⟩) (by assumption) ?_
        rotate_left
        focus
          intro w hSw
          try dsimp only at hSw
          go_simp
          first
          | done
          | with_reducible rfl
        try simp only [Act.put, List.setIfInBounds_toArray, List.set_cons_zero, List.set_cons_succ]
        refine wpAnyH_take (i := 18) (oi := ⟨some 79, _, _, _, _, _⟩) (v := ?_) rfl (by kernel_rfl) (by kernel_rfl) (by kernel_rfl) (fun _ _ _ h => h) (Or.inl ⟨by rfl, ?_⟩) (by assumption) ?_
        rotate_left
        focus
          intro w hSw
          try dsimp only at hSw
          go_simp
          first
          | done
          | with_reducible rfl
        try simp only [Act.put, List.setIfInBounds_toArray, List.set_cons_zero, List.set_cons_succ]
        refine wpAnyH_take (i := 19) (oi := ⟨some 80, _, _, _, _, _⟩) (v := ?_) rfl (by kernel_rfl) (by kernel_rfl) (by kernel_rfl) (fun _ _ _ h => h) (Or.inl ⟨by rfl, ?_⟩) (by assumption) ?_
        rotate_left
        focus
          intro w hSw
          try dsimp only at hSw
          go_simp
          first
          | done
          | with_reducible rfl
        try simp only [Act.put, List.setIfInBounds_toArray, List.set_cons_zero, List.set_cons_succ]
        refine wpAnyH_take (i := 20) (oi := ⟨some 81, _, _, _, _, _⟩) (v := ?_) rfl (by kernel_rfl) (by kernel_rfl) (by kernel_rfl) (fun _ _ _ h => h) (Or.inl ⟨by rfl, ?_⟩) (by assumption) ?_
        rotate_left
        focus
          intro w hSw
          try dsimp only at hSw
          go_simp
          first
          | done
          | with_reducible rfl
        try simp only [Act.put, List.setIfInBounds_toArray, List.set_cons_zero, List.set_cons_succ]
        refine wpAnyH_take (i := 21) (oi := ⟨some 82, _, _, _, _, _⟩) (v := ?_) rfl (by kernel_rfl) (by kernel_rfl) (by kernel_rfl) (fun _ _ _ h => h) (Or.inl ⟨by rfl, ?_⟩) (by assumption) ?_
        rotate_left
        focus
          intro w hSw
          try dsimp only at hSw
          go_simp
          first
          | done
          | with_reducible rfl
        try simp only [Act.put, List.setIfInBounds_toArray, List.set_cons_zero, List.set_cons_succ]
        refine wpAnyH_take (i := 22) (oi := ⟨some 83, _, _, _, _, _⟩) (v := ?_) rfl (by kernel_rfl) (by kernel_rfl) (by kernel_rfl) (fun _ _ _ h => h) (Or.inl ⟨by rfl, ?_⟩) (by assumption) ?_
        rotate_left
        focus
          intro w hSw
          try dsimp only at hSw
          go_simp
          first
          | done
          | with_reducible rfl
        try simp only [Act.put, List.setIfInBounds_toArray, List.set_cons_zero, List.set_cons_succ]
        refine wpAnyH_take (i := 23) (oi := ⟨some 84, _, _, _, _, _⟩) (v := ?_) rfl (by kernel_rfl) (by kernel_rfl) (by kernel_rfl) (fun _ _ _ h => h) (Or.inl ⟨by rfl, ?_⟩) (by assumption) ?_
        rotate_left
        focus
          intro w hSw
          try dsimp only at hSw
          go_simp
          first
          | done
          | with_reducible rfl
        try simp only [Act.put, List.setIfInBounds_toArray, List.set_cons_zero, List.set_cons_succ]
        refine wpAnyH_take (i := 24) (oi := ⟨some 85, _, _, _, _, _⟩) (v := ?_) rfl (by kernel_rfl) (by kernel_rfl) (by kernel_rfl) (fun _ _ _ h => h) (Or.inl ⟨by rfl, ?_⟩) (by assumption) ?_
        rotate_left
        focus
          intro w hSw
          try dsimp only at hSw
          go_simp
          first
          | done
          | with_reducible rfl
        try simp only [Act.put, List.setIfInBounds_toArray, List.set_cons_zero, List.set_cons_succ]
        refine wpAnyH_ready (rs := [13]) (by kernel_rfl) (by simp) ?_
        refine AllReadyH.cons (o := ⟨some 74, _, _, _, _, _⟩) rfl (fun K hK => ?_) AllReadyH.nil
        go_simp
        refine hK.out _ _ (HSX.out _ ((((Below.refl w3.heap.size w3).alloc (Nat.le_refl _) _).drew))) (fun hHeld => ?_)
        clear hK K
        try simp only [Act.put, List.setIfInBounds_toArray, List.set_cons_zero, List.set_cons_succ]
        refine wpAnyH_ready (rs := [14]) (by kernel_rfl) (by simp) ?_
        refine AllReadyH.cons (o := ⟨some 75, _, _, _, _, _⟩) rfl (fun K hK => ?_) AllReadyH.nil
        go_simp
        refine hK.out _ _ (HSX.out _ ((((Below.refl w3.heap.size w3).alloc (Nat.le_refl _) _).drew))) (fun hHeld => ?_)
        clear hK K
        try simp only [Act.put, List.setIfInBounds_toArray, List.set_cons_zero, List.set_cons_succ]
        refine wpAnyH_ready (rs := [15]) (by kernel_rfl) (by simp) ?_
        refine AllReadyH.cons (o := ⟨some 76, _, _, _, _, _⟩) rfl (fun K hK => ?_) AllReadyH.nil
        go_simp
        refine (DV.out).mono ?_
        rintro e w5 ⟨rfl, hb5⟩
        refine hK.out _ _ (HSX.out _ hb5) (fun hHeld => ?_)
        clear hK K
        try simp only [Act.put, List.setIfInBounds_toArray, List.set_cons_zero, List.set_cons_succ]
        refine wpAnyH_ready (rs := [17]) (by kernel_rfl) (by simp) ?_
        refine AllReadyH.cons (o := ⟨some 78, _, _, _, _, _⟩) rfl (fun K hK => ?_) AllReadyH.nil
        go_simp
        refine (TV.out _ hb5).mono ?_
        rintro e w6 ⟨rfl, hb6⟩
        refine hK.out _ _ (HSX.out _ (bstep hb5 hb6)) (fun hHeld => ?_)
        clear hK K
        try simp only [Act.put, List.setIfInBounds_toArray, List.set_cons_zero, List.set_cons_succ]
        refine wpAnyH_ready (rs := [25]) (by kernel_rfl) (by simp) ?_
        refine AllReadyH.cons (o := ⟨some 86, _, _, _, _, _⟩) rfl (fun K hK => ?_) AllReadyH.nil
        go_simp
        refine (HV.out _ (bstep hb5 hb6)).mono ?_
        rintro e w7 ⟨rfl, S', R7, F7⟩
        refine hK.out _ _ (HSY.out _ _ _ (bstep hb5 hb6) F7) (fun hHeld => ?_)
        clear hK K
        try simp only [Act.put, List.setIfInBounds_toArray, List.set_cons_zero, List.set_cons_succ]
        refine wpAnyH_take (i := 26) (oi := ⟨some 87, _, _, _, _, _⟩) (v := ?_) rfl (by kernel_rfl) (by kernel_rfl) (by kernel_rfl) (fun _ _ _ h => h) (Or.inl ⟨by rfl, ?_⟩) (by assumption) ?_
        rotate_left
        focus
          intro w hSw
          try dsimp only at hSw
          go_simp
          first
          | done
          | with_reducible rfl
        try simp only [Act.put, List.setIfInBounds_toArray, List.set_cons_zero, List.set_cons_succ]
        refine wpAnyH_done (by kernel_rfl) ?_ _
        have F7' := hid F7
        have R7' := hid R7
        have B6 := hid (bstep hb5 hb6)
        have HA7 := hid ((HA3.out.next B6.out).fr F7 HI.out.lo HI.out.hg hW2)
        have hs7 := hid F7.size
        obtain ⟨i1, hi1', hz⟩ := Option.map_eq_some_iff.1 info_sl
        simp only [Prod.mk.injEq] at hz
        have HIf := hid hi1'
        have HZ := hid hz
        have HLM : Hid (LM.length = k) := hid (by
          have := congrArg List.length HI.out.bs
          simp only [List.length_map] at this
          rw [this, Pl.ccL_len last b of k (by have := HO.out.2; omega)])
        have hlmk := HLM.out
        have B36 : Below wr.heap.size wr w6 := HB.out.trans (B6.out.mono HB.out.size)
        have HS7 := hid ((HI.out.st.next B36).fr F7 (fun x hx a ha => Nat.lt_of_lt_of_le (HI.out.lt x hx a ha) B36.size))
        have HWs : Hid (W.heap.size ≤ w7.heap.size) := hid (Nat.le_trans HA3.out.below.size (Nat.le_trans B6.out.size F7.size))
        have HSRC : Hid (∀ (jj : Nat) (u : Value), ([.slice Am (n2 + 1) cm] : List Value)[jj]? = some u → (w7.alloc (.cells #[.slice Am (n2 + 1) cm] 41)).cell? ((⟨w7.heap.size, 0, none⟩ : Addr).add jj) = some u) := hid (by
          intro jj u hj
          rw [add_none, Bk.cell (Bk.new w7 41 _)]
          simpa using hj)
        clear hi1' hz F7 R7 hHeld hk1 hj1 hwm hwa cv B36
        go_wp2_with (at_builtin; refine wpList_append_own_at _ (by rfl) (.tmp 88) (.tmp 90) 50 (by rfl) W.heap.size 41 i1 (.slice none 0 0) 1 24 Tryd.underlying50 HIf.out HZ.out.1 HZ.out.2.1 HZ.out.2.2 (by rfl) (by decide) u9 LM.length (LM.map slv) (by rfl) (HS7.out.own.alloc _) ⟨w7.heap.size, 0, none⟩ 1 1 [.slice Am (n2 + 1) cm] (by rfl) (by rfl) HSRC.out (by simp [Value.oneCell']) (by simp only [maxLen]; omega) (by omega) (by have := HWs.out; simp; omega) ?_; intro v' w8 O8 hg8 hn8 hat8; have HG8 := hid (And.intro O8 (And.intro hg8 hat8)); clear O8 hg8 hn8 hat8)
        go_roundw
        case rel =>
          obtain ⟨O8, hg8, hat8⟩ := HG8.out
          have hmW : ∀ a, Am = some a → wr.heap.size ≤ a.block ∧ a.block < w3.heap.size := by
            intro a ha
            rcases Hom.out.2 with h0 | ⟨g', h1, h2, h3⟩
            · subst ha; cases h0
            · subst ha; cases h1; exact ⟨h2, h3⟩
          refine ⟨k + 1, by omega, by simp, ?_⟩
          refine CcR.add (A := Am) (c := cm) Hi.out (by omega) hW2 HA7.out R7'.out (F7'.out.from_ (Nat.le_trans HA3.out.below.size B6.out.size) HI.out.lo) (fun e => HI.out.hg (F7'.out.set _ (Nat.lt_of_lt_of_le HA3.out.hi B6.out.size) e)) HS7.out HI.out.bs (fun x hx a ha => ?_) HI.out.of ?_ (fun a ha => ?_) hg8 (by rw [hlm.out]; exact O8) hat8
          · have h1 := HI.out.lt x hx a ha
            have h2 := HB.out.size
            have h3 := B6.out.size
            have h4 := hs7.out
            omega
          · refine F7'.out.isl (HSm.out.next B6.out) (fun a ha e => ?_)
            have h1 := (hmW a ha).1
            have h2 : a.block < wr.heap.size := by obtain ⟨v, L, M⟩ := HI.out.rc; exact M.lt _ e
            omega
          · obtain ⟨h1, h2⟩ := hmW a ha
            have h3 := B6.out.size
            have h4 := hs7.out
            refine ⟨fun e => ?_, fun e => ?_, by omega⟩
            · have h5 : a.block < wr.heap.size := by obtain ⟨v, L, M⟩ := HI.out.rc; exact M.lt _ (F7'.out.set _ (by omega) e)
              omega
            · have := (World.ownsRow.lt HI.out.st.own _ e).2
              omega
        case measure => simp [intOf]; omega
    · obtain rfl : k = n1 := by omega
      have HL : Hid (Calls Tryd.prog 33 #[pt gr] wr fun e w' => e = .returned (.int .i64 (k : Int)) ∧ wr = w') := hid (by
        have := held_of HI.out.rc
        simp only at this
        rw [Pl.ccL_len last b of k (by have := HO.out.2; omega)] at this
        exact this)
      have KN : Hid (Calls Tryd.prog 31 #[pt gr] wr fun e w' => e = .returned (.int .i64 0) ∧ wr = w') := hid (known_of HI.out.rc)
      go_wp2_with fail
      refine HL.out.mono ?_
      rintro e wl' ⟨rfl, rfl⟩
      go_wp2_with fail
      refine KN.out.mono ?_
      rintro e wl' ⟨rfl, rfl⟩
      obtain ⟨e0, e1⟩ := HI.out.aw.key HK.out.2.1
      simp only [Nat.reduceMul, Nat.reduceAdd] at e0 e1
      have hofk : ∀ (j : Nat) (i : Int), of[j]? = some i → j < k → 1 ≤ i ∧ i ≤ 10 := HI.out.of
      have D := hid (disc_yes (HD.out (Pl.ccL last b of k)) HI.out.rc (Pl.cc_ok last b of k (by omega) hokb.out (by have := HS.out.2; omega) hofk k0) (by decide) HI.out.aw.rnd (fun j hj => by have := HI.out.lo j hj; omega))
      rw [Pl.cc_st last k0 b of k hofk] at D
      simp only at D
      rw [Pl.cc_out last b of k hofk] at D
      have HBS := hid HI.out.bs
      clear HL KN hofk
      go_wp2_with fail
      refine D.out.mono ?_
      rintro e wd ⟨rv, S2, rfl, Rd, BBd, Fd⟩
      have HAd := hid (HI.out.aw.fr Fd HI.out.lo HI.out.hg hW2)
      have HRd := hid Rd
      have SB : IsBB wd (fun r => ¬ S2 r) u9 ((Pl.ccL last b of k).map Pl.Msg.b) := by
        have := (HI.out.st.fr Fd HI.out.lt).bb
        rw [HBS.out] at this
        exact this
      have AL := hid (alike_same _ _ rv u9 _ wd BBd SB (by simp only [List.length_map]; rw [Pl.ccL_len last b of k (by have := HO.out.2; omega)]; omega) (by
        intro x hx
        obtain ⟨m, hm, rfl⟩ := List.mem_map.1 hx
        exact ((Pl.cc_ok last b of k (by omega) hokb.out (by have := HS.out.2; omega) HI.out.of k0).each m hm).2.2.2))
      clear Rd BBd Fd SB D e0 e1
      go_wp2_with fail
      refine AL.out.mono ?_
      rintro e we ⟨rfl, hbe⟩
      have HAe := hid (HAd.out.next hbe)
      have HRe := hid (HRd.out.next hbe)
      have HL : Hid (Calls Tryd.prog 33 #[pt gr] we fun e w' => e = .returned (.int .i64 0) ∧ we = w') := hid (held_of HRe.out)
      have KN : Hid (Calls Tryd.prog 31 #[pt gr] we fun e w' => e = .returned (.int .i64 10) ∧ we = w') := hid (known_of HRe.out)
      clear AL HAd HRd hbe
      go_wp2_with fail
      refine HL.out.mono ?_
      rintro e wl' ⟨rfl, rfl⟩
      go_wp2_with fail
      refine KN.out.mono ?_
      rintro e wl' ⟨rfl, rfl⟩
      go_wp2_with fail
      refine (awake_any _ HAe.out.rnd HAe.out.cfg).mono ?_
      rintro e wf ⟨rfl, hbf⟩
      go_wp2
      go_ret
      exact ⟨rfl, bstep HAe.out.below hbf⟩
theorem chainComplete_walk (seed : Int) (A1 A2 : Option Addr) (d1 d2 : Nat) (of b : List Int) (W : World) (hR : Rnd W) (hG : CfG W) (hO : IsSl W A1 .i64 of) (hS : IsSl W A2 .u8 b) (hb : ∀ x ∈ b, 0 ≤ x ∧ x ≤ 255) (hl1 : of.length ≤ 9223372036854775807) (hl2 : b.length ≤ 9223372036854775807) :
    Calls Tryd.prog 7 #[.int .u64 seed, .slice A1 of.length d1, .slice A2 b.length d2] W fun e w' => e = .returned (.bool true) ∧ Below W.heap.size W w' := by
  by_cases h1 : 30 < of.length
  · generalize of.length = n at *
    generalize b.length = n2 at *
    have HG := hid (And.intro hR hG)
    clear hR hG hS hb hO
    go_enter Tryd.func7, Tryd.ntmps7
    go_wp2_with fail
    refine (awake_any _ HG.out.1 HG.out.2).mono ?_
    rintro e w1 ⟨rfl, hb⟩
    go_wp2
    go_ret
    exact ⟨rfl, hb⟩
  by_cases h2 : 100 < b.length
  · generalize of.length = n at *
    generalize b.length = n2 at *
    have HG := hid (And.intro hR hG)
    clear hR hG hS hb hO
    go_enter Tryd.func7, Tryd.ntmps7
    go_wp2_with fail
    refine (awake_any _ HG.out.1 HG.out.2).mono ?_
    rintro e w1 ⟨rfl, hb⟩
    go_wp2
    go_ret
    exact ⟨rfl, hb⟩
  exact chainComplete_yes seed A1 A2 d1 d2 _ _ of b W hR hG rfl rfl (by omega) (by omega) hO hS hb
end Go.Proofs.YtmegiodajkeahaaDoor
