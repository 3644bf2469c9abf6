/- The examples of the chapter on hops. -/
import Derived.Test.YtpmndpbaigcaeaaHopC8
namespace Go.Proofs.Ytpmndpbaigcaeaa
open Go Go.RowKit
abbrev ea : List Int := [0, 1, 10]
abbrev es : List Int := [5, 5, 2]
theorem e_err : Pl.errOf Pl.M ea es = 0 := by decide
theorem e_pass : resL Pl.M ea es = [5, 10, 12] := by decide
theorem e_wait : resW ea es = [0, 4, 0] := by decide
theorem e_busy : resB ea es = [(0, 12)] := by decide
theorem e_chain : Pl.chainOf ea [es, es] = ([10, 15, 17], 0) := by decide
theorem e_in4 : Pl.inside ea [5, 10, 12] 4 (min 3 3) = 2 := by decide
theorem e_in10 : Pl.inside ea [5, 10, 12] 10 (min 3 3) = 1 := by decide
set_option maxHeartbeats 2000000 in
theorem awake_any (w : World) : Calls Try.prog 11 #[] w fun e w' => e = .returned (.bool true) ∧ Below w.heap.size w w' := by
  have B1 := (Below.refl w.heap.size w).alloc (Nat.le_refl _) (.cells #[.int .i64 0, .int .i64 1, .int .i64 10] 3)
  have hA := (IsSl.of_bk (k := .i64) ea (Bk.new w 3 #[.int .i64 0, .int .i64 1, .int .i64 10]) rfl).next ((Below.refl _ _).alloc (Nat.le_refl _) (.cells #[.int .i64 5, .int .i64 5, .int .i64 2] 3))
  have hS := IsSl.of_bk (k := .i64) es (Bk.new (w.alloc (.cells #[.int .i64 0, .int .i64 1, .int .i64 10] 3)) 3 #[.int .i64 5, .int .i64 5, .int .i64 2]) rfl
  have B2 := B1.alloc B1.size (.cells #[.int .i64 5, .int .i64 5, .int .i64 2] 3)
  have hg1 : (w.alloc (.cells #[.int .i64 0, .int .i64 1, .int .i64 10] 3)).heap.size = w.heap.size + 1 := by simp
  rw [hg1] at hS
  clear B1 hg1
  have CPass := fun (w' : World) hA hB => Pass_any (some ⟨w.heap.size, 0, none⟩) (some ⟨w.heap.size + 1, 0, none⟩) ea es 3 3 w' hA hB (by decide)
  have CWait := fun (w' : World) hA hB => waits_any (some ⟨w.heap.size, 0, none⟩) (some ⟨w.heap.size + 1, 0, none⟩) ea es 3 3 w' hA hB (by decide)
  have CBusy := fun (w' : World) hA hB => busy_any (some ⟨w.heap.size, 0, none⟩) (some ⟨w.heap.size + 1, 0, none⟩) ea es 3 3 w' hA hB (by decide)
  have CChain := fun (w' : World) B hA hB => chain_any (some ⟨w.heap.size, 0, none⟩) B ea [es, es] 3 2 w' hA hB (by decide) (by decide)
  rw [e_err, e_pass] at CPass
  rw [e_err, e_wait] at CWait
  rw [e_err, e_busy] at CBusy
  rw [e_chain] at CChain
  replace CPass := hid CPass
  replace CWait := hid CWait
  replace CBusy := hid CBusy
  replace CChain := hid CChain
  go_enter Try.func11, Try.ntmps11
  go_wp2_with fail
  generalize (w.alloc (.cells #[.int .i64 0, .int .i64 1, .int .i64 10] 3)).alloc (.cells #[.int .i64 5, .int .i64 5, .int .i64 2] 3) = w0 at *
  refine (CPass.out _ hA hS).mono ?_
  rintro e w1 ⟨v, rfl, hb, hO⟩
  obtain ⟨D1, d1, rfl, hD, _⟩ := hO.slice_
  replace hA := hA.next hb
  replace hS := hS.next hb
  have B3 := bstep B2 hb
  clear CPass hb hO B2
  go_wp2_with fail
  refine (CWait.out _ hA hS).mono ?_
  rintro e w2 ⟨v, rfl, hb, hO⟩
  obtain ⟨D2, d2, rfl, hW, _⟩ := hO.slice_
  replace hA := hA.next hb
  replace hS := hS.next hb
  replace hD := hD.next hb
  have B4 := bstep B3 hb
  clear CWait hb hO B3
  go_wp2_with fail
  refine (CBusy.out _ hA hS).mono ?_
  rintro e w3 ⟨v, rfl, hb, hO⟩
  obtain ⟨D3, d3, rfl, hI, _⟩ := hO.slice_
  replace hA := hA.next hb
  replace hS := hS.next hb
  replace hD := hD.next hb
  replace hW := hW.next hb
  have B5 := bstep B4 hb
  clear CBusy hb hO B4
  have hb := (Below.refl w3.heap.size w3).alloc (Nat.le_refl _) (.cells #[.slice (some ⟨w.heap.size + 1, 0, none⟩) 3 3, .slice (some ⟨w.heap.size + 1, 0, none⟩) 3 3] 22)
  replace hA := hA.next hb
  replace hS := hS.next hb
  replace hD := hD.next hb
  replace hW := hW.next hb
  replace hI := hI.next hb
  have B6 := bstep B5 hb
  have KS := Bk.new w3 22 #[.slice (some ⟨w.heap.size + 1, 0, none⟩) 3 3, .slice (some ⟨w.heap.size + 1, 0, none⟩) 3 3]
  have hSS : IsSS (w3.alloc (.cells #[.slice (some ⟨w.heap.size + 1, 0, none⟩) 3 3, .slice (some ⟨w.heap.size + 1, 0, none⟩) 3 3] 22)) (some ⟨w3.heap.size, 0, none⟩) [es, es] := by
    refine .inr ⟨w3.heap.size, 0, rfl, KS.lt, fun i x hx => ?_⟩
    match i, hx with
    | 0, hx => cases hx; exact ⟨_, _, KS.cell 0, hS⟩
    | 1, hx => cases hx; exact ⟨_, _, KS.cell 1, hS⟩
  clear hb B5 KS
  go_wp2_with fail
  generalize w3.alloc (.cells #[.slice (some ⟨w.heap.size + 1, 0, none⟩) 3 3, .slice (some ⟨w.heap.size + 1, 0, none⟩) 3 3] 22) = w4 at *
  refine (CChain.out _ _ hA hSS).mono ?_
  rintro e w5 ⟨D4, d4, rfl, hb, hC⟩
  replace hA := hA.next hb
  replace hD := hD.next hb
  replace hW := hW.next hb
  replace hI := hI.next hb
  have B7 := bstep B6 hb
  clear CChain hb hS hSS B6
  have hb := (Below.refl w5.heap.size w5).alloc (Nat.le_refl _) (.cells #[.int .i64 5, .int .i64 10, .int .i64 12] 3)
  replace hA := hA.next hb
  replace hD := hD.next hb
  replace hW := hW.next hb
  replace hI := hI.next hb
  replace hC := hC.next hb
  replace B7 := bstep B7 hb
  have hE := IsSl.of_bk (k := .i64) [5, 10, 12] (Bk.new w5 3 #[.int .i64 5, .int .i64 10, .int .i64 12]) rfl
  have CE := hid (equal_same D1 (some ⟨w5.heap.size, 0, none⟩) d1 3 [5, 10, 12] _ hD hE (by decide))
  clear hb hE
  go_wp2_with fail
  refine CE.out.mono ?_
  rintro e w6 ⟨rfl, hb⟩
  clear CE
  replace hA := hA.next hb
  replace hD := hD.next hb
  replace hW := hW.next hb
  replace hI := hI.next hb
  replace hC := hC.next hb
  replace B7 := bstep B7 hb
  clear hb
  have hb := (Below.refl w6.heap.size w6).alloc (Nat.le_refl _) (.cells #[.int .i64 0, .int .i64 4, .int .i64 0] 3)
  replace hA := hA.next hb
  replace hD := hD.next hb
  replace hW := hW.next hb
  replace hI := hI.next hb
  replace hC := hC.next hb
  replace B7 := bstep B7 hb
  have hE := IsSl.of_bk (k := .i64) [0, 4, 0] (Bk.new w6 3 #[.int .i64 0, .int .i64 4, .int .i64 0]) rfl
  have CE := hid (equal_same D2 (some ⟨w6.heap.size, 0, none⟩) d2 3 [0, 4, 0] _ hW hE (by decide))
  clear hb hE
  go_wp2_with fail
  refine CE.out.mono ?_
  rintro e w7 ⟨rfl, hb⟩
  clear CE
  replace hA := hA.next hb
  replace hD := hD.next hb
  replace hW := hW.next hb
  replace hI := hI.next hb
  replace hC := hC.next hb
  replace B7 := bstep B7 hb
  clear hb
  have hb := (Below.refl w7.heap.size w7).alloc (Nat.le_refl _) (.cells #[.int .i64 0, .int .i64 12] 33)
  replace hA := hA.next hb
  replace hD := hD.next hb
  replace hI := hI.next hb
  replace hC := hC.next hb
  replace B7 := bstep B7 hb
  have hE : IsIv (w7.alloc (.cells #[.int .i64 0, .int .i64 12] 33)) (some ⟨w7.heap.size, 0, none⟩) [(0, 12)] := by
    have K := Bk.new w7 33 #[.int .i64 0, .int .i64 12]
    refine .inr ⟨w7.heap.size, 0, rfl, K.lt, fun i x hx => ?_⟩
    match i, hx with
    | 0, hx => cases hx; exact ⟨K.cell 0, K.cell 1⟩
  have CE := hid (equalIv_same D3 (some ⟨w7.heap.size, 0, none⟩) d3 1 [(0, 12)] _ hI hE (by decide))
  clear hb hE
  go_wp2_with fail
  refine CE.out.mono ?_
  rintro e w8 ⟨rfl, hb⟩
  clear CE
  replace hA := hA.next hb
  replace hD := hD.next hb
  replace hI := hI.next hb
  replace hC := hC.next hb
  replace B7 := bstep B7 hb
  clear hb
  have hb := (Below.refl w8.heap.size w8).alloc (Nat.le_refl _) (.cells #[.int .i64 10, .int .i64 15, .int .i64 17] 3)
  replace hA := hA.next hb
  replace hD := hD.next hb
  replace hC := hC.next hb
  replace B7 := bstep B7 hb
  have hE := IsSl.of_bk (k := .i64) [10, 15, 17] (Bk.new w8 3 #[.int .i64 10, .int .i64 15, .int .i64 17]) rfl
  have CE := hid (equal_same D4 (some ⟨w8.heap.size, 0, none⟩) d4 3 [10, 15, 17] _ hC hE (by decide))
  clear hb hE
  go_wp2_with fail
  refine CE.out.mono ?_
  rintro e w9 ⟨rfl, hb⟩
  clear CE
  replace hA := hA.next hb
  replace hD := hD.next hb
  replace hC := hC.next hb
  replace B7 := bstep B7 hb
  clear hb
  have CB := hid ((backlog_any (some ⟨w.heap.size, 0, none⟩) D1 ea [5, 10, 12] 3 d1 4 w9 hA hD (by decide) (by decide)).mono fun e w' h => And.intro (h.1.trans (congrArg (fun x => Ending.returned (.int .i64 x)) e_in4)) h.2)
  have CB2 := hid ((backlog_any (some ⟨w.heap.size, 0, none⟩) D1 ea [5, 10, 12] 3 d1 10 w9 hA hD (by decide) (by decide)).mono fun e w' h => And.intro (h.1.trans (congrArg (fun x => Ending.returned (.int .i64 x)) e_in10)) h.2)
  go_wp2_with fail
  refine CB.out.mono ?_
  rintro e w10 ⟨rfl, rfl⟩
  go_wp2_with fail
  refine CB2.out.mono ?_
  rintro e w10 ⟨rfl, rfl⟩
  go_wp2
  go_ret
  exact ⟨rfl, B7⟩
end Go.Proofs.Ytpmndpbaigcaeaa
