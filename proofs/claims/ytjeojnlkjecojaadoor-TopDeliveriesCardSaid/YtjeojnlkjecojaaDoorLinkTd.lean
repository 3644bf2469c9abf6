/- The walk of the law TopDeliveries. -/
import Derived.Test.YtjeojnlkjecojaaDoorLinkT1
namespace Go.Proofs.YtjeojnlkjecojaaDoor
open Go Go.RowKit
open Hp
theorem lk7 {w : World} {g : Nat} {t : TypeId} {a b c d e f k : Value} (h : Bk w g t #[a, b, c, d, e, f, k]) : (w.cell? ⟨g, 0, none⟩ = some a) ∧ (w.cell? ⟨g, 1, none⟩ = some b) ∧ (w.cell? ⟨g, 2, none⟩ = some c) ∧ (w.cell? ⟨g, 3, none⟩ = some d) ∧ (w.cell? ⟨g, 4, none⟩ = some e) ∧ (w.cell? ⟨g, 5, none⟩ = some f) ∧ (w.cell? ⟨g, 6, none⟩ = some k) :=
  ⟨h.cell 0, h.cell 1, h.cell 2, h.cell 3, h.cell 4, h.cell 5, h.cell 6⟩
theorem info_int : (Tryd.prog.info? 3).map (fun i => (i.zero, i.size, i.bytes)) = some (some (.int .i64 0), 1, 8) := by kernel_rfl
set_option maxHeartbeats 8000000 in
set_option maxRecDepth 100000 in
theorem topDeliveries_walk (l : Pl.Lk) (A : Option Addr) (c : Nat) (dir : Int) (A2 : Option Addr) (c2 : Nat) (xs : List Int) (W : World) (hR : Rnd W) (hA : IsCh W A l.ch) (hS : IsSl W A2 .i64 xs) (hx63 : xs.length ≤ 9223372036854775807) :
    Calls Tryd.prog 10 #[.agg (lkCells l A l.ch.length c), .int .i64 dir, .slice A2 xs.length c2] W fun e w' => e = .returned (.bool true) ∧ Below W.heap.size W w' := by
  have KL := Bk.new W 26 (lkCells l A l.ch.length c)
  have BL := (Below.refl W.heap.size W).alloc (Nat.le_refl _) (.cells (lkCells l A l.ch.length c) 26)
  have CK := fun (hn : l.ch.length ≤ 100) w hA => check_any l A c w hA hn
  have CB := fun (hn : l.ch.length ≤ 100) w hA => bounds_any l A c dir w hA hn
  have CA := fun (hn : l.ch.length ≤ 100) at_ m w hA hR => arrive_any l A c dir at_ m w hA hn hR
  unfold arr at CA
  unfold bnd at CB
  generalize hN : l.ch.length = n at *
  generalize hX : xs.length = nx at *
  unfold lkCells at *
  have HKL := hid KL
  have HBL := hid BL
  have HCK := hid CK
  have HCB := hid CB
  have HCA := hid CA
  have HR := hid hR
  have HA := hid hA
  have HS := hid (And.intro hS hX)
  obtain ⟨c0, c1, c2', c3, c4, c5, c6⟩ := lk7 KL
  clear KL BL CK CB CA hR hA hS hN hX
  by_cases h200 : 200 < nx
  · go_enter Tryd.func10, Tryd.ntmps10
    go_wp2
    go_ret
    exact ⟨rfl, HBL.out⟩
  by_cases h100 : 100 < n
  · go_enter Tryd.func10, Tryd.ntmps10
    go_wp2
    go_ret
    exact ⟨rfl, HBL.out⟩
  have h200' : ¬ (200 : Int) < (nx : Int) := by omega
  have h100' : ¬ (100 : Int) < (n : Int) := by omega
  have hn100 : n ≤ 100 := by omega
  go_enter Tryd.func10, Tryd.ntmps10
  go_wp2_with fail
  clear c0 c1 c2' c3 c4 c5 c6
  generalize W.alloc (.cells #[.int .i64 l.d0, .int .i64 l.d1, .int .i64 l.v0, .int .i64 l.v1, .int .i64 l.loss, .int .u64 l.seed, .slice A n c] 26) = w1 at *
  refine (HCK.out hn100 _ (HA.out.next HBL.out)).mono ?_
  rintro e w2 ⟨rfl, hb2⟩
  have HB2 := hid (bstep HBL.out hb2)
  have HK2 := hid (HKL.out.next hb2)
  clear hb2 HKL HBL HCK
  by_cases herr : Pl.errOf l = 0
  case neg =>
    have he : (Pl.errOf l == 0) = false := by simpa using herr
    generalize Pl.errOf l = er at *
    go_wp2
    go_ret
    exact ⟨rfl, HB2.out⟩
  rw [herr]
  have HER := hid herr
  clear herr
  by_cases hd0 : dir < 0
  · go_wp2
    go_ret
    exact ⟨rfl, HB2.out⟩
  by_cases hd1 : 1 < dir
  · go_wp2
    go_ret
    exact ⟨rfl, HB2.out⟩
  have HDIR : Hid (Pl.okDir dir = true) := hid (by unfold Pl.okDir; exact Pl.inR_true.2 (by omega))
  have hwb := within_bounds HER.out HDIR.out
  obtain ⟨hlo0, hlohi, hhi⟩ := hwb
  go_wp2_with fail
  refine (agNew_any 4096 w2 (by decide) (by decide)).mono ?_
  rintro e w3 ⟨g, hg, rfl, Q3, hb3⟩
  have HQ3 := hid Q3
  have HB3 := hid (bstep HB2.out hb3)
  have HK3 := hid (HK2.out.next hb3)
  obtain ⟨c0, c1, c2', c3, c4, c5, c6⟩ := lk7 HK3.out
  have HG := hid (show W.heap.size < g by have := HK2.out.lt; omega)
  clear Q3 hb3 hg HB2 HK2
  go_wp2_with fail
  refine (HCB.out hn100 _ (HA.out.next HB3.out)).mono ?_
  rintro e w4 ⟨rfl, hb4⟩
  have HQ4 := hid (HQ3.out.next hb4)
  have HB4 := hid (bstep HB3.out hb4)
  have HK4 := hid (HK3.out.next hb4)
  clear hb4 c0 c1 c2' c3 c4 c5 c6 HQ3 HB3 HK3 HCB
  have HW := hid (fun (at_ m : Int) (h0 : Pl.okAt at_ = true) (h : Pl.arrives l dir at_ m = true) => arr_bounds (dir := dir) HER.out HDIR.out h0 h)
  generalize bLo l dir = lo at *
  generalize bHi l dir = hi at *
  have hmk := run_make_ints (P := Tryd.prog) 47 3 .i64 8 Tryd.underlying47 info_int .i64 .i64 nx (by omega) (by omega)
  have HLp : Hid (LpI W #[.int .i64 l.d0, .int .i64 l.d1, .int .i64 l.v0, .int .i64 l.v1, .int .i64 l.loss, .int .u64 l.seed, .slice A n c] w4.heap.size (w4.heap.size + 1) lo hi (List.replicate nx 0) (· = g) g [] 0 0 0 ((w4.alloc (.cells #[.int .i64 lo, .int .i64 hi] 35)).alloc (.cells (ints .i64 (List.replicate nx 0)) 3))) := hid (by
    have hz : (w4.alloc (.cells #[.int .i64 lo, .int .i64 hi] 35)).heap.size = w4.heap.size + 1 := by simp
    have b1 := (Below.refl w4.heap.size w4).alloc (Nat.le_refl _) (.cells #[.int .i64 lo, .int .i64 hi] 35)
    have b2 := (Below.refl (w4.alloc (.cells #[.int .i64 lo, .int .i64 hi] 35)).heap.size _).alloc (Nat.le_refl _) (.cells (ints .i64 (List.replicate nx 0)) 3)
    have k2 := Bk.new (w4.alloc (.cells #[.int .i64 lo, .int .i64 hi] 35)) 3 (ints .i64 (List.replicate nx 0))
    rw [hz] at k2
    have hgl := HQ4.out.lt g rfl
    have hwl := HK4.out.lt
    exact ⟨bstep (bstep HB4.out b1) b2, (HK4.out.next b1).next b2, (Bk.new w4 35 _).next b2, k2, (HQ4.out.next b1).next b2, (fun k hk => by subst hk; have := HG.out; exact ⟨by omega, by omega, by omega⟩), hwl, by omega, by omega⟩)
  have HBB := hid (show (w4.alloc (.cells #[.int .i64 lo, .int .i64 hi] 35)).heap.size = w4.heap.size + 1 by simp)
  go_wp2_with fail
  generalize (w4.alloc (.cells #[.int .i64 lo, .int .i64 hi] 35)).alloc (.cells (ints .i64 (List.replicate nx 0)) 3) = w6 at *
  clear HQ4 HK4 HB4 HG hmk HBB
  generalize hbb : w4.heap.size = bb at *
  obtain ⟨ab, hab⟩ : ∃ ab, ab = bb + 1 := ⟨_, rfl⟩
  rw [← hab] at HLp ⊢
  clear hab hbb
  go_loopw [55] (fun iv wr => ∃ k : Nat, k ≤ nx ∧ iv = .int .i64 (k : Int) ∧ ∃ ar, ar.length = nx ∧ LpI W #[.int .i64 l.d0, .int .i64 l.d1, .int .i64 l.v0, .int .i64 l.v1, .int .i64 l.loss, .int .u64 l.seed, .slice A n c] bb ab lo hi ar (· = g) g [] 0 0 0 wr) (fun iv _ => nx - (intOf iv).toNat)
  case atStart => exact ⟨0, Nat.zero_le _, rfl, _, List.length_replicate .., HLp.out⟩
  case round =>
    clear HLp
    obtain ⟨k, hk, rfl, ar, har, I⟩ := hrel
    have HI := hid I
    have HAr := hid har
    clear har
    by_cases hlt : k < nx
    · obtain ⟨y, hy⟩ : ∃ y, ar[k]? = some y := ⟨ar[k]'(by have := HAr.out; omega), List.getElem?_eq_getElem _⟩
      have cy := I.arr.int hy
      have fy := I.arr.free k
      have HI2 := hid (I.store k (-1))
      clear I hy
      go_wp2_with fail
      go_roundw
      case rel => exact ⟨k + 1, by omega, by simp, _, by rw [List.length_set]; exact HAr.out, HI2.out⟩
      case measure => simp [intOf]; omega
    · clear I
      obtain rfl : nx = k := by omega
      go_wp2_with fail
      go_loopw [9, 64] (fun ov iv wx => ∃ k : Nat, k ≤ nx ∧ iv = .int .i64 (k : Int) ∧ ∃ L ar S N, ov = .int .i64 (L.length : Int) ∧ ar.length = nx ∧ LpI W #[.int .i64 l.d0, .int .i64 l.d1, .int .i64 l.v0, .int .i64 l.v1, .int .i64 l.loss, .int .u64 l.seed, .slice A n c] bb ab lo hi ar S g L N 0 (L.length : Int) wx ∧ QI L ar k ∧ HeapF (ats L) L.length ∧ L.length ≤ k ∧ N ≤ 500 * k) (fun _ iv _ => nx - (intOf iv).toNat)
      case atStart => exact ⟨0, Nat.zero_le _, rfl, [], ar, _, 0, rfl, HAr.out, HI.out, QI.nil _ _, heap_nil, Nat.le_refl _, Nat.le_refl _⟩
      case round =>
        clear HI HAr
        obtain ⟨k, hk, rfl, L, ar, S, N, rfl, har, I, hQI, hh, hLk, hN⟩ := hrel
        have HI := hid I
        have HAr := hid har
        have HQI := hid hQI
        have HH := hid hh
        clear har hQI hh
        generalize hm : L.length = m at *
        have HLm := hid hm
        clear hm
        by_cases hlt : k < nx
        · obtain ⟨x, hx⟩ : ∃ y, xs[k]? = some y := ⟨xs[k]'(by have := HS.out.2; omega), List.getElem?_eq_getElem _⟩
          rcases (HS.out.1.next I.bel).row with h0 | ⟨sb, so, rfl, _, hcell⟩
          · have := HS.out.2; omega
          have cx := hcell k x hx
          obtain ⟨c0, c1, c2', c3, c4, c5, c6⟩ := lk7 I.lk
          clear hx hcell I
          by_cases hx0 : x < 0
          · go_wp2
            go_ret
            exact ⟨rfl, HI.out.bel⟩
          by_cases hx1 : 1125899906842624 < x
          · go_wp2
            go_ret
            exact ⟨rfl, HI.out.bel⟩
          have HOA := hid (show Pl.okAt x = true by unfold Pl.okAt; exact Pl.inR_true.2 (by omega))
          have CA := hid (HCA.out hn100 x (k : Int) wr (HA.out.next HI.out.bel) (HR.out.next HI.out.bel))
          have HBN := hid (HW.out x (k : Int) HOA.out)
          go_wp2_with fail
          generalize hav : Pl.arriveOf l dir x (k : Int) = av at *
          generalize har : Pl.arrives l dir x (k : Int) = ab0 at *
          have HAV := hid hav
          have HAB := hid har
          clear hav har c0 c1 c2' c3 c4 c5 c6 cx
          refine CA.out.mono ?_
          rintro e w7 ⟨rfl, hb7⟩
          have HI7 := hid (HI.out.next hb7)
          clear hb7 CA HI
          cases ab0
          · clear HBN
            go_wp2_with fail
            go_roundw
            case rel => exact ⟨k + 1, by omega, by simp, L, ar, S, N, by rw [HLm.out], HAr.out, by rw [HLm.out]; exact HI7.out, HQI.out.more, by rw [HLm.out]; exact HH.out, by rw [HLm.out]; omega, by omega⟩
            case measure => simp [intOf]; omega
          · have hbn := HBN.out rfl
            obtain ⟨hb1, hb2⟩ := hbn
            have e1 : (av < x + lo) = False := eq_false (by omega)
            have e2 : (x + hi < av) = False := eq_false (by omega)
            have e3 : ¬ av < x + lo := by omega
            have e4 : ¬ x + hi < av := by omega
            have b0 := HI7.out.bd.cell 0
            have b1 := HI7.out.bd.cell 1
            simp only [List.getElem?_toArray, List.getElem?_cons_zero, List.getElem?_cons_succ] at b0 b1
            clear HBN
            go_wp2_with fail
            clear b0 b1 e1 e2 e3 e4
            have PU := hid (agPush_any g S L N 4096 0 (m : Int) av (k : Int) w7 HI7.out.q (by rw [HLm.out]; exact HH.out) (by rw [HLm.out]; omega) HQI.out.ids (by omega) (by rw [HLm.out]; omega) (by omega) (by omega) (by rw [HLm.out]; omega))
            refine PU.out.mono ?_
            rintro e w8 ⟨rfl, S', L', N', Q', P', hh', hN', G'⟩
            have hl' : L'.length = m + 1 := by rw [P'.length_eq, List.length_append, HLm.out]; rfl
            have HQ2 := hid ((HQI.out.push (by rw [HAr.out]; exact hlt) (show 0 ≤ av by omega) (show 0 ≤ (m : Int) + 1 ∧ (m : Int) + 1 ≤ 1000000 by omega)).perm P')
            have HI8 := hid (HI7.out.call G' Q')
            have HH8 := hid hh'
            have HL8 := hid hl'
            rw [HLm.out] at hN'
            clear PU Q' P' hh' G' hl'
            obtain ⟨y, hy⟩ : ∃ y, ar[k]? = some y := ⟨ar[k]'(by have := HAr.out; omega), List.getElem?_eq_getElem _⟩
            have cy := HI8.out.arr.int hy
            have fy := HI8.out.arr.free k
            have HI9 := hid (HI8.out.store k av)
            clear hy HI8
            go_wp2_with fail
            go_roundw
            case rel => exact ⟨k + 1, by omega, by simp, L', _, S', N', by rw [HL8.out]; simp, by rw [List.length_set]; exact HAr.out, by rw [HL8.out]; exact HI9.out, HQ2.out, HH8.out, by rw [HL8.out]; omega, by omega⟩
            case measure => simp [intOf]; omega
        · clear I
          obtain rfl : nx = k := by omega
          have hN2 : N ≤ 100000 := by omega
          have hm200 : m ≤ 200 := by omega
          go_wp2_with fail
          go_loopw [18, 19] (fun lv iv wx => ∃ i : Nat, i ≤ m ∧ iv = .int .i64 (i : Int) ∧ ∃ L ar S N tm last, lv = .int .i64 last ∧ L.length + i = m ∧ ar.length = nx ∧ LpI W #[.int .i64 l.d0, .int .i64 l.d1, .int .i64 l.v0, .int .i64 l.v1, .int .i64 l.loss, .int .u64 l.seed, .slice A n c] bb ab lo hi ar S g L N tm (m : Int) wx ∧ QI L ar nx ∧ HeapF (ats L) L.length ∧ (∀ e ∈ L, last ≤ e.at_) ∧ N ≤ 100000 + 500 * i) (fun _ iv _ => m - (intOf iv).toNat)
          case atStart => exact ⟨0, Nat.zero_le _, rfl, L, ar, S, N, 0, 0, rfl, HLm.out, HAr.out, HI.out, HQI.out, by rw [HLm.out]; exact HH.out, fun e he => by obtain ⟨_, _, _, _, h⟩ := HQI.out.each e he; exact h, by omega⟩
          case round =>
            clear HI HQI HH HAr HLm hN hN2 hLk HW
            obtain ⟨i, hi', rfl, L, ar, S, N, tm, last, rfl, hlen, har, I, hQI, hh, hlast, hN⟩ := hrel
            have HI := hid I
            have HAr := hid har
            have HQI := hid hQI
            have HH := hid hh
            have HLA := hid hlast
            clear har hQI hh hlast I
            by_cases hlt : i < m
            · obtain ⟨n1, hn1⟩ : ∃ n1, L.length = n1 + 1 := ⟨L.length - 1, by omega⟩
              have hn1m : n1 + 1 + i = m := by omega
              obtain ⟨x, hx⟩ : ∃ x, L[0]? = some x := ⟨L[0]'(by omega), List.getElem?_eq_getElem _⟩
              obtain ⟨ii, hii, hiin, haii, hxa0⟩ := HQI.out.each x (List.mem_of_getElem? hx)
              have PO := hid (agPop_some HI.out.q hn1 hx HH.out (by omega) HQI.out.ids (by omega))
              have HF := hid (heap_first HH.out hx)
              have hla := HLA.out x (List.mem_of_getElem? hx)
              obtain ⟨xa, xid, xi⟩ := x
              simp only at hii haii hxa0 hla PO HF
              subst hii
              have HAI := hid haii
              have HN1 := hid hn1
              clear hx hlen hn1 haii
              go_wp2_with fail
              refine PO.out.mono ?_
              rintro e w8 ⟨rfl, S', L', N', Q', P', hh', hN', G'⟩
              have hl' : L'.length + (i + 1) = m := by
                have := P'.length_eq
                rw [List.length_append] at this
                simp only [List.length_singleton] at this
                rw [HN1.out] at this
                omega
              have HQ2 := hid (HQI.out.pop P' ii rfl (-1))
              have HI8 := hid (HI.out.call G' Q')
              have HH8 := hid hh'
              have HL8 := hid hl'
              have HM8 := hid (fun e (he : e ∈ L') => HF.out e (P'.mem_iff.1 (List.mem_append_left _ he)))
              clear PO Q' P' hh' G' hl' HI HQI HH
              have BX := hid ((Below.refl w8.heap.size w8).alloc (Nat.le_refl _) (.cells #[.int .i64 xa, .int .i64 xid, .int .i64 (ii : Int)] 53))
              have KX := hid (Bk.new w8 53 #[.int .i64 xa, .int .i64 xid, .int .i64 (ii : Int)])
              go_wp2_with fail
              have HI9 := hid (HI8.out.next BX.out)
              have HNE := hid (Nat.ne_of_lt HI8.out.arr.lt)
              generalize w8.alloc (.cells #[.int .i64 xa, .int .i64 xid, .int .i64 (ii : Int)] 53) = w9 at *
              generalize w8.heap.size = bx at *
              have HSX : Hid ((w9.drew.cell? ⟨bx, 0, none⟩ = some (.int .i64 xa)) ∧ (w9.drew.cell? ⟨bx, 1, none⟩ = some (.int .i64 xid)) ∧ (w9.drew.cell? ⟨bx, 2, none⟩ = some (.int .i64 (ii : Int))) ∧ (w9.drew.cell? ⟨ab, ii, none⟩ = some (.int .i64 xa))) := hid ⟨KX.out.cell 0, KX.out.cell 1, KX.out.cell 2, HI9.out.arr.int HAI.out⟩
              have e1 : (xa < last) = False := eq_false (by omega)
              have e2 : ((ii : Int) < 0) = False := eq_false (by omega)
              have e3 : ((nx : Int) ≤ (ii : Int)) = False := eq_false (by omega)
              have e4 : ((ii : Int) < (nx : Int)) = True := eq_true (by omega)
              refine wp_region_held_drew (S := (fun w' => (w'.cell? ⟨bx, 0, none⟩ = some (.int .i64 xa)) ∧ (w'.cell? ⟨bx, 1, none⟩ = some (.int .i64 xid)) ∧ (w'.cell? ⟨bx, 2, none⟩ = some (.int .i64 (ii : Int))) ∧ (w'.cell? ⟨ab, ii, none⟩ = some (.int .i64 xa)))) (by kernel_rfl) HSX.out (fun hHeld => ?_)
              refine wpAnyH_take (i := 0) (oi := ⟨some 130, _, _, _, _, _⟩) (v := ?_) rfl (by kernel_rfl) (by kernel_rfl) (by kernel_rfl) (fun _ _ _ h => h) (Or.inl ⟨by rfl, ?_⟩) (by assumption) ?_
              rotate_left
              focus
                intro w hSw
                try dsimp only at hSw
                go_simp
                first
                | done
                | with_reducible rfl
              try simp only [Act.put, List.setIfInBounds_toArray, List.set_cons_zero, List.set_cons_succ]
              refine wpAnyH_take (i := 1) (oi := ⟨some 131, _, _, _, _, _⟩) (v := ?_) rfl (by kernel_rfl) (by kernel_rfl) (by kernel_rfl) (fun _ _ _ h => h) (Or.inl ⟨by rfl, ?_⟩) (by assumption) ?_
              rotate_left
              focus
                intro w hSw
                try dsimp only at hSw
                go_simp
                first
                | done
                | with_reducible rfl
              try simp only [Act.put, List.setIfInBounds_toArray, List.set_cons_zero, List.set_cons_succ]
              refine wpAnyH_take (i := 2) (oi := ⟨some 132, _, _, _, _, _⟩) (v := ?_) rfl (by kernel_rfl) (by kernel_rfl) (by kernel_rfl) (fun _ _ _ h => h) (Or.inl ⟨by rfl, ?_⟩) (by assumption) ?_
              rotate_left
              focus
                intro w hSw
                try dsimp only at hSw
                go_simp
                first
                | done
                | with_reducible rfl
              try simp only [Act.put, List.setIfInBounds_toArray, List.set_cons_zero, List.set_cons_succ]
              refine wpAnyH_take (i := 3) (oi := ⟨some 133, _, _, _, _, _⟩) (v := ?_) rfl (by kernel_rfl) (by kernel_rfl) (by kernel_rfl) (fun _ _ _ h => h) (Or.inl ⟨by rfl, ?_⟩) (by assumption) ?_
              rotate_left
              focus
                intro w hSw
                try dsimp only at hSw
                go_simp
                first
                | done
                | with_reducible rfl
              try simp only [Act.put, List.setIfInBounds_toArray, List.set_cons_zero, List.set_cons_succ]
              refine wpAnyH_take (i := 4) (oi := ⟨some 134, _, _, _, _, _⟩) (v := ?_) rfl (by kernel_rfl) (by kernel_rfl) (by kernel_rfl) (fun _ _ _ h => h) (Or.inl ⟨by rfl, ?_⟩) (by assumption) ?_
              rotate_left
              focus
                intro w hSw
                try dsimp only at hSw
                go_simp
                first
                | done
                | with_reducible rfl
              try simp only [Act.put, List.setIfInBounds_toArray, List.set_cons_zero, List.set_cons_succ]
              refine wpAnyH_take (i := 5) (oi := ⟨some 135, _, _, _, _, _⟩) (v := ?_) rfl (by kernel_rfl) (by kernel_rfl) (by kernel_rfl) (fun _ _ _ h => h) (Or.inl ⟨by rfl, ?_⟩) (by assumption) ?_
              rotate_left
              focus
                intro w hSw
                try dsimp only at hSw
                go_simp
                first
                | done
                | with_reducible rfl
              try simp only [Act.put, List.setIfInBounds_toArray, List.set_cons_zero, List.set_cons_succ]
              refine wpAnyH_take (i := 6) (oi := ⟨some 136, _, _, _, _, _⟩) (v := ?_) rfl (by kernel_rfl) (by kernel_rfl) (by kernel_rfl) (fun _ _ _ h => h) (Or.inl ⟨by rfl, ?_⟩) (by assumption) ?_
              rotate_left
              focus
                intro w hSw
                try dsimp only at hSw
                go_simp
                first
                | done
                | with_reducible rfl
              try simp only [Act.put, List.setIfInBounds_toArray, List.set_cons_zero, List.set_cons_succ]
              refine wpAnyH_take (i := 7) (oi := ⟨some 137, _, _, _, _, _⟩) (v := ?_) rfl (by kernel_rfl) (by kernel_rfl) (by kernel_rfl) (fun _ _ _ h => h) (Or.inl ⟨by rfl, ?_⟩) (by assumption) ?_
              rotate_left
              focus
                intro w hSw
                try dsimp only at hSw
                go_simp
                first
                | done
                | with_reducible rfl
              try simp only [Act.put, List.setIfInBounds_toArray, List.set_cons_zero, List.set_cons_succ]
              refine wpAnyH_take (i := 8) (oi := ⟨some 138, _, _, _, _, _⟩) (v := ?_) rfl (by kernel_rfl) (by kernel_rfl) (by kernel_rfl) (fun _ _ _ h => h) (Or.inl ⟨by rfl, ?_⟩) (by assumption) ?_
              rotate_left
              focus
                intro w hSw
                try dsimp only at hSw
                go_simp
                first
                | done
                | with_reducible rfl
              try simp only [Act.put, List.setIfInBounds_toArray, List.set_cons_zero, List.set_cons_succ]
              refine wpAnyH_take (i := 9) (oi := ⟨some 139, _, _, _, _, _⟩) (v := ?_) rfl (by kernel_rfl) (by kernel_rfl) (by kernel_rfl) (fun _ _ _ h => h) (Or.inl ⟨by rfl, ?_⟩) (by assumption) ?_
              rotate_left
              focus
                intro w hSw
                try dsimp only at hSw
                go_simp
                first
                | done
                | with_reducible rfl
              try simp only [Act.put, List.setIfInBounds_toArray, List.set_cons_zero, List.set_cons_succ]
              refine wpAnyH_take (i := 10) (oi := ⟨some 140, _, _, _, _, _⟩) (v := ?_) rfl (by kernel_rfl) (by kernel_rfl) (by kernel_rfl) (fun _ _ _ h => h) (Or.inl ⟨by rfl, ?_⟩) (by assumption) ?_
              rotate_left
              focus
                intro w hSw
                try dsimp only at hSw
                go_simp
                first
                | done
                | with_reducible rfl
              try simp only [Act.put, List.setIfInBounds_toArray, List.set_cons_zero, List.set_cons_succ]
              refine wpAnyH_take (i := 11) (oi := ⟨some 141, _, _, _, _, _⟩) (v := ?_) rfl (by kernel_rfl) (by kernel_rfl) (by kernel_rfl) (fun _ _ _ h => h) (Or.inl ⟨by rfl, ?_⟩) (by assumption) ?_
              rotate_left
              focus
                intro w hSw
                try dsimp only at hSw
                go_simp
                first
                | done
                | with_reducible rfl
              try simp only [Act.put, List.setIfInBounds_toArray, List.set_cons_zero, List.set_cons_succ]
              refine wpAnyH_take (i := 12) (oi := ⟨some 142, _, _, _, _, _⟩) (v := ?_) rfl (by kernel_rfl) (by kernel_rfl) (by kernel_rfl) (fun _ _ _ h => h) (Or.inl ⟨by rfl, ?_⟩) (by assumption) ?_
              rotate_left
              focus
                intro w hSw
                try dsimp only at hSw
                go_simp
                first
                | done
                | with_reducible rfl
              try simp only [Act.put, List.setIfInBounds_toArray, List.set_cons_zero, List.set_cons_succ]
              refine wpAnyH_take (i := 13) (oi := ⟨some 143, _, _, _, _, _⟩) (v := ?_) rfl (by kernel_rfl) (by kernel_rfl) (by kernel_rfl) (fun _ _ _ h => h) (Or.inl ⟨by rfl, ?_⟩) (by assumption) ?_
              rotate_left
              focus
                intro w hSw
                try dsimp only at hSw
                go_simp
                first
                | done
                | with_reducible rfl
              try simp only [Act.put, List.setIfInBounds_toArray, List.set_cons_zero, List.set_cons_succ]
              refine wpAnyH_take (i := 14) (oi := ⟨some 144, _, _, _, _, _⟩) (v := ?_) rfl (by kernel_rfl) (by kernel_rfl) (by kernel_rfl) (fun _ _ _ h => h) (Or.inl ⟨by rfl, ?_⟩) (by assumption) ?_
              rotate_left
              focus
                intro w hSw
                try dsimp only at hSw
                go_simp
                first
                | done
                | with_reducible rfl
              try simp only [Act.put, List.setIfInBounds_toArray, List.set_cons_zero, List.set_cons_succ]
              refine wpAnyH_take (i := 15) (oi := ⟨some 145, _, _, _, _, _⟩) (v := ?_) rfl (by kernel_rfl) (by kernel_rfl) (by kernel_rfl) (fun _ _ _ h => h) (Or.inl ⟨by rfl, ?_⟩) (by assumption) ?_
              rotate_left
              focus
                intro w hSw
                try dsimp only at hSw
                go_simp
                first
                | done
                | with_reducible rfl
              try simp only [Act.put, List.setIfInBounds_toArray, List.set_cons_zero, List.set_cons_succ]
              refine wpAnyH_take (i := 16) (oi := ⟨some 146, _, _, _, _, _⟩) (v := ?_) rfl (by kernel_rfl) (by kernel_rfl) (by kernel_rfl) (fun _ _ _ h => h) (Or.inl ⟨by rfl, ?_⟩) (by assumption) ?_
              rotate_left
              focus
                intro w hSw
                try dsimp only at hSw
                go_simp
                first
                | done
                | with_reducible rfl
              try simp only [Act.put, List.setIfInBounds_toArray, List.set_cons_zero, List.set_cons_succ]
              refine wpAnyH_take (i := 17) (oi := ⟨some 147, _, _, _, _, _⟩) (v := ?_) rfl (by kernel_rfl) (by kernel_rfl) (by kernel_rfl) (fun _ _ _ h => h) (Or.inl ⟨by rfl, ?_⟩) (by assumption) ?_
              rotate_left
              focus
                intro w hSw
                try dsimp only at hSw
                go_simp
                first
                | done
                | with_reducible rfl
              try simp only [Act.put, List.setIfInBounds_toArray, List.set_cons_zero, List.set_cons_succ]
              refine wpAnyH_take (i := 18) (oi := ⟨some 148, _, _, _, _, _⟩) (v := ?_) rfl (by kernel_rfl) (by kernel_rfl) (by kernel_rfl) (fun _ _ _ h => h) (Or.inl ⟨by rfl, ?_⟩) (by assumption) ?_
              rotate_left
              focus
                intro w hSw
                try dsimp only at hSw
                go_simp
                first
                | done
                | with_reducible rfl
              try simp only [Act.put, List.setIfInBounds_toArray, List.set_cons_zero, List.set_cons_succ]
              refine wpAnyH_take (i := 19) (oi := ⟨some 149, _, _, _, _, _⟩) (v := ?_) rfl (by kernel_rfl) (by kernel_rfl) (by kernel_rfl) (fun _ _ _ h => h) (Or.inl ⟨by rfl, ?_⟩) (by assumption) ?_
              rotate_left
              focus
                intro w hSw
                try dsimp only at hSw
                go_simp
                first
                | done
                | with_reducible rfl
              try simp only [Act.put, List.setIfInBounds_toArray, List.set_cons_zero, List.set_cons_succ]
              refine wpAnyH_take (i := 20) (oi := ⟨some 150, _, _, _, _, _⟩) (v := ?_) rfl (by kernel_rfl) (by kernel_rfl) (by kernel_rfl) (fun _ _ _ h => h) (Or.inl ⟨by rfl, ?_⟩) (by assumption) ?_
              rotate_left
              focus
                intro w hSw
                try dsimp only at hSw
                go_simp
                first
                | done
                | with_reducible rfl
              try simp only [Act.put, List.setIfInBounds_toArray, List.set_cons_zero, List.set_cons_succ]
              refine wpAnyH_take (i := 21) (oi := ⟨some 151, _, _, _, _, _⟩) (v := ?_) rfl (by kernel_rfl) (by kernel_rfl) (by kernel_rfl) (fun _ _ _ h => h) (Or.inl ⟨by rfl, ?_⟩) (by assumption) ?_
              rotate_left
              focus
                intro w hSw
                try dsimp only at hSw
                go_simp
                first
                | done
                | with_reducible rfl
              try simp only [Act.put, List.setIfInBounds_toArray, List.set_cons_zero, List.set_cons_succ]
              refine wpAnyH_take (i := 22) (oi := ⟨some 152, _, _, _, _, _⟩) (v := ?_) rfl (by kernel_rfl) (by kernel_rfl) (by kernel_rfl) (fun _ _ _ h => h) (Or.inl ⟨by rfl, ?_⟩) (by assumption) ?_
              rotate_left
              focus
                intro w hSw
                try dsimp only at hSw
                go_simp
                first
                | done
                | with_reducible rfl
              try simp only [Act.put, List.setIfInBounds_toArray, List.set_cons_zero, List.set_cons_succ]
              refine wpAnyH_take (i := 23) (oi := ⟨some 153, _, _, _, _, _⟩) (v := ?_) rfl (by kernel_rfl) (by kernel_rfl) (by kernel_rfl) (fun _ _ _ h => h) (Or.inl ⟨by rfl, ?_⟩) (by assumption) ?_
              rotate_left
              focus
                intro w hSw
                try dsimp only at hSw
                go_simp
                first
                | done
                | with_reducible rfl
              try simp only [Act.put, List.setIfInBounds_toArray, List.set_cons_zero, List.set_cons_succ]
              refine wpAnyH_take (i := 24) (oi := ⟨some 154, _, _, _, _, _⟩) (v := ?_) rfl (by kernel_rfl) (by kernel_rfl) (by kernel_rfl) (fun _ _ _ h => h) (Or.inl ⟨by rfl, ?_⟩) (by assumption) ?_
              rotate_left
              focus
                intro w hSw
                try dsimp only at hSw
                go_simp
                first
                | done
                | with_reducible rfl
              try simp only [Act.put, List.setIfInBounds_toArray, List.set_cons_zero, List.set_cons_succ]
              refine wpAnyH_take (i := 25) (oi := ⟨some 155, _, _, _, _, _⟩) (v := ?_) rfl (by kernel_rfl) (by kernel_rfl) (by kernel_rfl) (fun _ _ _ h => h) (Or.inl ⟨by rfl, ?_⟩) (by assumption) ?_
              rotate_left
              focus
                intro w hSw
                try dsimp only at hSw
                go_simp
                first
                | done
                | with_reducible rfl
              try simp only [Act.put, List.setIfInBounds_toArray, List.set_cons_zero, List.set_cons_succ]
              refine wpAnyH_take (i := 26) (oi := ⟨some 156, _, _, _, _, _⟩) (v := ?_) rfl (by kernel_rfl) (by kernel_rfl) (by kernel_rfl) (fun _ _ _ h => h) (Or.inl ⟨by rfl, ?_⟩) (by assumption) ?_
              rotate_left
              focus
                intro w hSw
                try dsimp only at hSw
                go_simp
                first
                | done
                | with_reducible rfl
              try simp only [Act.put, List.setIfInBounds_toArray, List.set_cons_zero, List.set_cons_succ]
              refine wpAnyH_take (i := 27) (oi := ⟨some 157, _, _, _, _, _⟩) (v := ?_) rfl (by kernel_rfl) (by kernel_rfl) (by kernel_rfl) (fun _ _ _ h => h) (Or.inl ⟨by rfl, ?_⟩) (by assumption) ?_
              rotate_left
              focus
                intro w hSw
                try dsimp only at hSw
                go_simp
                first
                | done
                | with_reducible rfl
              try simp only [Act.put, List.setIfInBounds_toArray, List.set_cons_zero, List.set_cons_succ]
              refine wpAnyH_take (i := 28) (oi := ⟨some 158, _, _, _, _, _⟩) (v := ?_) rfl (by kernel_rfl) (by kernel_rfl) (by kernel_rfl) (fun _ _ _ h => h) (Or.inl ⟨by rfl, ?_⟩) (by assumption) ?_
              rotate_left
              focus
                intro w hSw
                try dsimp only at hSw
                go_simp
                first
                | done
                | with_reducible rfl
              try simp only [Act.put, List.setIfInBounds_toArray, List.set_cons_zero, List.set_cons_succ]
              refine wpAnyH_take (i := 29) (oi := ⟨some 159, _, _, _, _, _⟩) (v := ?_) rfl (by kernel_rfl) (by kernel_rfl) (by kernel_rfl) (fun _ _ _ h => h) (Or.inl ⟨by rfl, ?_⟩) (by assumption) ?_
              rotate_left
              focus
                intro w hSw
                try dsimp only at hSw
                go_simp
                first
                | done
                | with_reducible rfl
              try simp only [Act.put, List.setIfInBounds_toArray, List.set_cons_zero, List.set_cons_succ]
              refine wpAnyH_done (by kernel_rfl) ?_ _
              clear hHeld HSX e1 e2 e3
              go_wp2_with fail
              have KY := hid (KX.out.next (Below.refl w9.heap.size w9).drew)
              have HI10 := hid (HI9.out.next (Below.refl w9.heap.size w9).drew)
              clear KX HI9 HI8 BX
              generalize w9.drew = wb at *
              have KBc := hid (KY.out.next (Below.refl wb.heap.size wb).drew)
              have HI11 := hid (HI10.out.next (Below.refl wb.heap.size wb).drew)
              have cab := HI11.out.arr.int HAI.out
              have fab := HI11.out.arr.free ii
              have HKZ := hid (KBc.out.far (p := ⟨ab, ii, none⟩) (fun e => HNE.out e.symm) (.int .i64 (-1)))
              have HI12 := hid (HI11.out.store ii (-1))
              clear KY HI10 HI11
              refine wp_region_held_drew (S := (fun w' => (w'.cell? ⟨bx, 0, none⟩ = some (.int .i64 xa)) ∧ (w'.cell? ⟨bx, 1, none⟩ = some (.int .i64 xid)) ∧ (w'.cell? ⟨bx, 2, none⟩ = some (.int .i64 (ii : Int))))) (by kernel_rfl) (bk3 KBc.out) (fun hHeld => ?_)
              generalize wb.drew = wc at *
              refine wpAnyH_take (i := 0) (oi := ⟨some 160, _, _, _, _, _⟩) (v := ?_) rfl (by kernel_rfl) (by kernel_rfl) (by kernel_rfl) (fun _ _ _ h => h) (Or.inl ⟨by rfl, ?_⟩) (by assumption) ?_
              rotate_left
              focus
                intro w hSw
                try dsimp only at hSw
                go_simp
                first
                | done
                | with_reducible rfl
              try simp only [Act.put, List.setIfInBounds_toArray, List.set_cons_zero, List.set_cons_succ]
              refine wpAnyH_take (i := 1) (oi := ⟨some 161, _, _, _, _, _⟩) (v := ?_) rfl (by kernel_rfl) (by kernel_rfl) (by kernel_rfl) (fun _ _ _ h => h) (Or.inl ⟨by rfl, ?_⟩) (by assumption) ?_
              rotate_left
              focus
                intro w hSw
                try dsimp only at hSw
                go_simp
                first
                | done
                | with_reducible rfl
              try simp only [Act.put, List.setIfInBounds_toArray, List.set_cons_zero, List.set_cons_succ]
              refine wpAnyH_take (i := 2) (oi := ⟨some 162, _, _, _, _, _⟩) (v := ?_) rfl (by kernel_rfl) (by kernel_rfl) (by kernel_rfl) (fun _ _ _ h => h) (Or.inl ⟨by rfl, ?_⟩) (by assumption) ?_
              rotate_left
              focus
                intro w hSw
                try dsimp only at hSw
                go_simp
                first
                | done
                | with_reducible rfl
              try simp only [Act.put, List.setIfInBounds_toArray, List.set_cons_zero, List.set_cons_succ]
              refine wpAnyH_take (i := 3) (oi := ⟨some 163, _, _, _, _, _⟩) (v := ?_) rfl (by kernel_rfl) (by kernel_rfl) (by kernel_rfl) (fun _ _ _ h => h) (Or.inl ⟨by rfl, ?_⟩) (by assumption) ?_
              rotate_left
              focus
                intro w hSw
                try dsimp only at hSw
                go_simp
                first
                | done
                | with_reducible rfl
              try simp only [Act.put, List.setIfInBounds_toArray, List.set_cons_zero, List.set_cons_succ]
              refine wpAnyH_take (i := 4) (oi := ⟨some 164, _, _, _, _, _⟩) (v := ?_) rfl (by kernel_rfl) (by kernel_rfl) (by kernel_rfl) (fun _ _ _ h => h) (Or.inl ⟨by rfl, ?_⟩) (by assumption) ?_
              rotate_left
              focus
                intro w hSw
                try dsimp only at hSw
                go_simp
                first
                | done
                | with_reducible rfl
              try simp only [Act.put, List.setIfInBounds_toArray, List.set_cons_zero, List.set_cons_succ]
              refine wpAnyH_take (i := 5) (oi := ⟨some 18, _, _, _, _, _⟩) (v := ?_) rfl (by kernel_rfl) (by kernel_rfl) (by kernel_rfl) (fun _ _ _ h => h) (Or.inl ⟨by rfl, ?_⟩) (by assumption) ?_
              rotate_left
              focus
                intro w hSw
                try dsimp only at hSw
                go_simp
                first
                | done
                | with_reducible rfl
              try simp only [Act.put, List.setIfInBounds_toArray, List.set_cons_zero, List.set_cons_succ]
              refine wpAnyH_take (i := 6) (oi := ⟨some 165, _, _, _, _, _⟩) (v := ?_) rfl (by kernel_rfl) (by kernel_rfl) (by kernel_rfl) (fun _ _ _ h => h) (Or.inl ⟨by rfl, ?_⟩) (by assumption) ?_
              rotate_left
              focus
                intro w hSw
                try dsimp only at hSw
                go_simp
                first
                | done
                | with_reducible rfl
              try simp only [Act.put, List.setIfInBounds_toArray, List.set_cons_zero, List.set_cons_succ]
              refine wpAnyH_ready (rs := [7]) (by kernel_rfl) (by simp) ?_
              refine AllReadyH.cons (o := ⟨none, _, _, _, _, _⟩) rfl (fun K hK => ?_) AllReadyH.nil
              go_simp
              refine hK.out _ _ (bk3 HKZ.out) (fun hHeld => ?_)
              clear hK K
              try simp only [Act.put, List.setIfInBounds_toArray, List.set_cons_zero, List.set_cons_succ]
              refine wpAnyH_done (by kernel_rfl) ?_ _
              clear hHeld cab fab e4 KBc
              go_wp2_with fail
              go_roundw
              case rel => exact ⟨i + 1, by omega, by simp, L', ar.set ii (-1), S', N', xa, xa, rfl, HL8.out, by rw [List.length_set]; exact HAr.out, HI12.out, HQ2.out, HH8.out, HM8.out, by omega⟩
              case measure => simp [intOf]; omega
            · have hL0 : L.length = 0 := by omega
              have hLn := List.eq_nil_of_length_eq_zero hL0
              have hmi : (m : Int) = (i : Int) := by omega
              have PO := hid (agPop_nil HI.out.q hLn)
              have HLN := hid hLn
              clear hL0 hLn HQI HH HLA
              go_wp2_with fail
              refine PO.out.mono ?_
              rintro e w8 ⟨rfl, hb8⟩
              have HI9 := hid ((HI.out.next hb8).next ((Below.refl w8.heap.size w8).alloc (Nat.le_refl _) (.cells #[.int .i64 0, .int .i64 0, .int .i64 0] 53)))
              clear PO HI hb8
              go_wp2_with fail
              generalize w8.alloc (.cells #[.int .i64 0, .int .i64 0, .int .i64 0] 53) = w9 at *
              have QL : Hid (Calls Tryd.prog 30 #[pt g] w9 fun e w' => e = .returned (.int .i64 0) ∧ w9 = w') := hid ((quLen_any HI9.out.q).mono fun e w' ⟨h1, h2⟩ => ⟨by rw [h1, HLN.out]; rfl, h2⟩)
              refine QL.out.mono ?_
              rintro e w10 ⟨rfl, rfl⟩
              go_wp2_with fail
              refine (awake8_any w9 (HR.out.next HI9.out.bel)).mono ?_
              rintro e w11 ⟨rfl, hb11⟩
              have HZ := hid (bstep HI9.out.bel hb11)
              go_wp2_with fail
              go_ret
              exact ⟨rfl, HZ.out⟩
end Go.Proofs.YtjeojnlkjecojaaDoor
