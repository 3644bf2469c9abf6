/- The walk of the law ChainRuns. -/
import Derived.Test.YtmegiodajkeahaaDoorChN5
import Derived.Deep.RegionHeld3
import Derived.Deep.RegionWith
import Derived.Deep.DrawnRows
namespace Go.Proofs.YtmegiodajkeahaaDoor
open Go Go.RowKit
set_option maxHeartbeats 8000000 in
set_option maxRecDepth 100000 in
theorem chainRuns_walk (st sp de co seed : Int) (A : Option Addr) (c : Nat) (l : List Cl) (W : World) (hR : Rnd W) (hG : CfG W) (hP : IsCl W A l) (hmx : l.length ≤ 9223372036854775807) :
    Calls Tryd.prog 4 #[.agg #[.int .i64 st, .int .i64 sp, .int .i64 de, .int .i64 co], .int .u64 seed, .slice A l.length c] W fun e w' => e = .returned (.bool true) ∧ Below W.heap.size W w' := by
  have hW2 : 2 ≤ W.heap.size := hR.lt
  have SM : Hid (∀ w, Below W.heap.size W w → Calls Tryd.prog 22 #[.slice A l.length c] w fun e w' => e = .returned (.bool (smallB l)) ∧ w = w') := hid (fun w h => small_any A c _ l w (hP.next h) rfl hmx)
  have HP := hid hP
  have HG := hid (And.intro hR hG)
  have hsm := hid (smallB_of (l := l))
  generalize hl : l.length = nl at *
  have HL := hid hl
  clear hP hR hG hl
  have CM := hid (fun w => refMake_any seed 64 (by decide) (by decide) w)
  have K0 := hid (Pl.keysL_get (Pl.lastK seed 64) 64 0 (Nat.zero_le _))
  have KL := hid (Pl.keysL_len (Pl.lastK seed 64) 64)
  generalize Pl.keysL (Pl.lastK seed 64) 64 = K at *
  generalize Pl.dnN (Pl.lastK seed 64) (64 - 0) = k0 at *
  have KB := Bk.new W 23 #[.int .i64 st, .int .i64 sp, .int .i64 de, .int .i64 co]
  have BB := (Below.refl W.heap.size W).alloc (Nat.le_refl _) (.cells #[.int .i64 st, .int .i64 sp, .int .i64 de, .int .i64 co] 23)
  have HB0 := hid (And.intro KB BB)
  clear KB BB
  go_enter Tryd.func4, Tryd.ntmps4
  go_wp2_with fail
  generalize W.alloc (.cells #[.int .i64 st, .int .i64 sp, .int .i64 de, .int .i64 co] 23) = w2 at *
  refine (CM.out _).mono ?_
  rintro e w3 ⟨⟨v, rfl, hO⟩, hb3⟩
  obtain ⟨kb, kc, rfl, hkW, hkl, hkK⟩ := hO.row (by rw [KL.out]; decide)
  rw [KL.out]
  have HKW := hid (show W.heap.size < kb by
    have h1 := HB0.out.1.lt
    omega)
  have HKK := hid hkK
  have HB3 := hid (bstep HB0.out.2 hb3)
  have KB3 := hid (HB0.out.1.next hb3)
  have hk01 : w3.cell? ⟨kb, 0, none⟩ = some (.int .u64 k0.1) ∧ w3.cell? ⟨kb, 1, none⟩ = some (.int .u64 k0.2) := by
    rcases hkK with h0 | ⟨b, off, hA, hb, hc⟩
    · have := KL.out; rw [h0] at this; simp at this
    · obtain ⟨rfl, rfl⟩ : b = kb ∧ off = 0 := by cases hA; exact ⟨rfl, rfl⟩
      have := hc 0 _ K0.out
      simpa using this
  have HSX : Hid (∀ w', Below w3.drew.heap.size w3.drew w' → (w'.cell? ⟨W.heap.size, 0, none⟩ = some (.int .i64 st)) ∧ (w'.cell? ⟨W.heap.size, 1, none⟩ = some (.int .i64 sp)) ∧ (w'.cell? ⟨W.heap.size, 2, none⟩ = some (.int .i64 de)) ∧ (w'.cell? ⟨W.heap.size, 3, none⟩ = some (.int .i64 co)) ∧ (w'.cell? ⟨kb, 0, none⟩ = some (.int .u64 k0.1)) ∧ (w'.cell? ⟨kb, 1, none⟩ = some (.int .u64 k0.2))) := hid (fun w' hb => by
    have h1 := KB3.out.next (w' := w') ⟨hb.os, hb.tape, hb.output, hb.size, hb.block⟩
    exact ⟨h1.cell 0, h1.cell 1, h1.cell 2, h1.cell 3, (hb.cell (p := ⟨kb, 0, none⟩) hkl).trans hk01.1, (hb.cell (p := ⟨kb, 1, none⟩) hkl).trans hk01.2⟩)
  clear hb3 hO hkW hkK hk01 HB0 CM K0
  go_wp2_with fail
  by_cases hok : Pl.cfOk st sp de co
  case neg =>
    have NA : Hid (∀ w, Calls Tryd.prog 20 #[.agg #[.int .i64 st, .int .i64 sp, .int .i64 de, .int .i64 co], .agg #[.int .u64 k0.1, .int .u64 k0.2]] w fun e w' => e = .returned (.pointer none) ∧ Below w.heap.size w w') := hid (fun w => new_no st sp de co k0.1 k0.2 hok w)
    have NB : Hid (∀ w, Calls Tryd.prog 21 #[.agg #[.int .i64 st, .int .i64 sp, .int .i64 de, .int .i64 co], .agg #[.int .u64 k0.1, .int .u64 k0.2]] w fun e w' => e = .returned (.pointer none) ∧ Below w.heap.size w w') := hid (fun w => refNew_no st sp de co k0.1 k0.2 hok w)
    clear hok
    refine wp_region_held_drew (S := (fun w' => (w'.cell? ⟨W.heap.size, 0, none⟩ = some (.int .i64 st)) ∧ (w'.cell? ⟨W.heap.size, 1, none⟩ = some (.int .i64 sp)) ∧ (w'.cell? ⟨W.heap.size, 2, none⟩ = some (.int .i64 de)) ∧ (w'.cell? ⟨W.heap.size, 3, none⟩ = some (.int .i64 co)) ∧ (w'.cell? ⟨kb, 0, none⟩ = some (.int .u64 k0.1)) ∧ (w'.cell? ⟨kb, 1, none⟩ = some (.int .u64 k0.2)))) (by kernel_rfl) (HSX.out _ (Below.refl w3.drew.heap.size w3.drew)) (fun hHeld => ?_)
    refine wpAnyH_take (i := 0) (oi := ⟨some 20, _, _, _, _, _⟩) (v := ?_) rfl (by kernel_rfl) (by kernel_rfl) (by kernel_rfl) (fun _ _ _ h => h) (Or.inl ⟨by rfl, ?_⟩) (by assumption) ?_
    rotate_left
    focus
      intro w hSw
      try dsimp only at hSw
      go_simp
      first
      | done
      | with_reducible rfl
    try simp only [Act.put, List.setIfInBounds_toArray, List.set_cons_zero, List.set_cons_succ]
    refine wpAnyH_take (i := 1) (oi := ⟨some 21, _, _, _, _, _⟩) (v := ?_) rfl (by kernel_rfl) (by kernel_rfl) (by kernel_rfl) (fun _ _ _ h => h) (Or.inl ⟨by rfl, ?_⟩) (by assumption) ?_
    rotate_left
    focus
      intro w hSw
      try dsimp only at hSw
      go_simp
      first
      | done
      | with_reducible rfl
    try simp only [Act.put, List.setIfInBounds_toArray, List.set_cons_zero, List.set_cons_succ]
    refine wpAnyH_take (i := 2) (oi := ⟨some 22, _, _, _, _, _⟩) (v := ?_) rfl (by kernel_rfl) (by kernel_rfl) (by kernel_rfl) (fun _ _ _ h => h) (Or.inl ⟨by rfl, ?_⟩) (by assumption) ?_
    rotate_left
    focus
      intro w hSw
      try dsimp only at hSw
      go_simp
      first
      | done
      | with_reducible rfl
    try simp only [Act.put, List.setIfInBounds_toArray, List.set_cons_zero, List.set_cons_succ]
    refine wpAnyH_take (i := 3) (oi := ⟨some 23, _, _, _, _, _⟩) (v := ?_) rfl (by kernel_rfl) (by kernel_rfl) (by kernel_rfl) (fun _ _ _ h => h) (Or.inl ⟨by rfl, ?_⟩) (by assumption) ?_
    rotate_left
    focus
      intro w hSw
      try dsimp only at hSw
      go_simp
      first
      | done
      | with_reducible rfl
    try simp only [Act.put, List.setIfInBounds_toArray, List.set_cons_zero, List.set_cons_succ]
    refine wpAnyH_take (i := 5) (oi := ⟨some 25, _, _, _, _, _⟩) (v := ?_) rfl (by kernel_rfl) (by kernel_rfl) (by kernel_rfl) (fun _ _ _ h => h) (Or.inl ⟨by rfl, ?_⟩) (by assumption) ?_
    rotate_left
    focus
      intro w hSw
      try dsimp only at hSw
      go_simp
      first
      | done
      | with_reducible rfl
    try simp only [Act.put, List.setIfInBounds_toArray, List.set_cons_zero, List.set_cons_succ]
    refine wpAnyH_take (i := 6) (oi := ⟨some 26, _, _, _, _, _⟩) (v := ?_) rfl (by kernel_rfl) (by kernel_rfl) (by kernel_rfl) (fun _ _ _ h => h) (Or.inl ⟨by rfl, ?_⟩) (by assumption) ?_
    rotate_left
    focus
      intro w hSw
      try dsimp only at hSw
      go_simp
      first
      | done
      | with_reducible rfl
    try simp only [Act.put, List.setIfInBounds_toArray, List.set_cons_zero, List.set_cons_succ]
    refine wpAnyH_take (i := 7) (oi := ⟨some 27, _, _, _, _, _⟩) (v := ?_) rfl (by kernel_rfl) (by kernel_rfl) (by kernel_rfl) (fun _ _ _ h => h) (Or.inl ⟨by rfl, ?_⟩) (by assumption) ?_
    rotate_left
    focus
      intro w hSw
      try dsimp only at hSw
      go_simp
      first
      | done
      | with_reducible rfl
    try simp only [Act.put, List.setIfInBounds_toArray, List.set_cons_zero, List.set_cons_succ]
    refine wpAnyH_take (i := 8) (oi := ⟨some 28, _, _, _, _, _⟩) (v := ?_) rfl (by kernel_rfl) (by kernel_rfl) (by kernel_rfl) (fun _ _ _ h => h) (Or.inl ⟨by rfl, ?_⟩) (by assumption) ?_
    rotate_left
    focus
      intro w hSw
      try dsimp only at hSw
      go_simp
      first
      | done
      | with_reducible rfl
    try simp only [Act.put, List.setIfInBounds_toArray, List.set_cons_zero, List.set_cons_succ]
    refine wpAnyH_ready (rs := [4]) (by kernel_rfl) (by simp) ?_
    refine AllReadyH.cons (o := ⟨some 24, _, _, _, _, _⟩) rfl (fun K hK => ?_) AllReadyH.nil
    go_simp
    refine (NA.out _).mono ?_
    rintro e w4 ⟨rfl, hb4⟩
    refine hK.out _ _ (HSX.out _ hb4) (fun hHeld => ?_)
    clear hK K
    try simp only [Act.put, List.setIfInBounds_toArray, List.set_cons_zero, List.set_cons_succ]
    refine wpAnyH_ready (rs := [9]) (by kernel_rfl) (by simp) ?_
    refine AllReadyH.cons (o := ⟨some 29, _, _, _, _, _⟩) rfl (fun K hK => ?_) AllReadyH.nil
    go_simp
    refine (NB.out _).mono ?_
    rintro e w5 ⟨rfl, hb5⟩
    refine hK.out _ _ (HSX.out _ (bstep hb4 hb5)) (fun hHeld => ?_)
    clear hK K
    try simp only [Act.put, List.setIfInBounds_toArray, List.set_cons_zero, List.set_cons_succ]
    refine wpAnyH_take (i := 10) (oi := ⟨some 8, _, _, _, _, _⟩) (v := ?_) rfl (by kernel_rfl) (by kernel_rfl) (by kernel_rfl) (fun _ _ _ h => h) (Or.inl ⟨by rfl, ?_⟩) (by assumption) ?_
    rotate_left
    focus
      intro w hSw
      try dsimp only at hSw
      go_simp
      first
      | done
      | with_reducible rfl
    try simp only [Act.put, List.setIfInBounds_toArray, List.set_cons_zero, List.set_cons_succ]
    refine wpAnyH_take (i := 11) (oi := ⟨some 9, _, _, _, _, _⟩) (v := ?_) rfl (by kernel_rfl) (by kernel_rfl) (by kernel_rfl) (fun _ _ _ h => h) (Or.inl ⟨by rfl, ?_⟩) (by assumption) ?_
    rotate_left
    focus
      intro w hSw
      try dsimp only at hSw
      go_simp
      first
      | done
      | with_reducible rfl
    try simp only [Act.put, List.setIfInBounds_toArray, List.set_cons_zero, List.set_cons_succ]
    refine wpAnyH_done (by kernel_rfl) ?_ _

    have h45 : Below w3.drew.heap.size w3.drew w5 := bstep hb4 hb5
    have HB5 := hid (HB3.out.trans ((show Below w3.heap.size w3 w5 from ⟨h45.os, h45.tape, h45.output, h45.size, h45.block⟩).mono HB3.out.size))
    clear h45
    clear hb4 hb5 hHeld
    go_wp2_with fail
    refine (awake_any _ (HG.out.1.next HB5.out) (HG.out.2.next HB5.out)).mono ?_
    rintro e w6 ⟨rfl, hb6⟩
    go_wp2
    go_ret
    exact ⟨rfl, bstep HB5.out hb6⟩
  have NA : Hid (∀ w, Calls Tryd.prog 20 #[.agg #[.int .i64 st, .int .i64 sp, .int .i64 de, .int .i64 co], .agg #[.int .u64 k0.1, .int .u64 k0.2]] w fun e w' => (∃ g, w.heap.size ≤ g ∧ e = .returned (pt g) ∧ RcvS w' (· = g) g st sp de co ⟨0, (k0.1, k0.2), []⟩) ∧ Below w.heap.size w w') := hid (fun w => new_yes st sp de co k0.1 k0.2 hok w)
  have NB : Hid (∀ w, Calls Tryd.prog 21 #[.agg #[.int .i64 st, .int .i64 sp, .int .i64 de, .int .i64 co], .agg #[.int .u64 k0.1, .int .u64 k0.2]] w fun e w' => (∃ g, w.heap.size ≤ g ∧ e = .returned (pt g) ∧ RefS w' (fun k => w.heap.size ≤ k ∧ k < w'.heap.size) g st sp de co ⟨0, (k0.1, k0.2), []⟩) ∧ Below w.heap.size w w') := hid (fun w => refNew_yes st sp de co k0.1 k0.2 hok w)
  have HOK := hid hok
  have hco : 1 ≤ co ∧ co ≤ 64 := hok.2.2.2
  obtain ⟨hco0, hco1⟩ := hco
  clear hok
  refine wp_region_held_drew (S := (fun w' => (w'.cell? ⟨W.heap.size, 0, none⟩ = some (.int .i64 st)) ∧ (w'.cell? ⟨W.heap.size, 1, none⟩ = some (.int .i64 sp)) ∧ (w'.cell? ⟨W.heap.size, 2, none⟩ = some (.int .i64 de)) ∧ (w'.cell? ⟨W.heap.size, 3, none⟩ = some (.int .i64 co)) ∧ (w'.cell? ⟨kb, 0, none⟩ = some (.int .u64 k0.1)) ∧ (w'.cell? ⟨kb, 1, none⟩ = some (.int .u64 k0.2)))) (by kernel_rfl) (HSX.out _ (Below.refl w3.drew.heap.size w3.drew)) (fun hHeld => ?_)
  refine wpAnyH_take (i := 0) (oi := ⟨some 20, _, _, _, _, _⟩) (v := ?_) rfl (by kernel_rfl) (by kernel_rfl) (by kernel_rfl) (fun _ _ _ h => h) (Or.inl ⟨by rfl, ?_⟩) (by assumption) ?_
  rotate_left
  focus
    intro w hSw
    try dsimp only at hSw
    go_simp
    first
    | done
    | with_reducible rfl
  try simp only [Act.put, List.setIfInBounds_toArray, List.set_cons_zero, List.set_cons_succ]
  refine wpAnyH_take (i := 1) (oi := ⟨some 21, _, _, _, _, _⟩) (v := ?_) rfl (by kernel_rfl) (by kernel_rfl) (by kernel_rfl) (fun _ _ _ h => h) (Or.inl ⟨by rfl, ?_⟩) (by assumption) ?_
  rotate_left
  focus
    intro w hSw
    try dsimp only at hSw
    go_simp
    first
    | done
    | with_reducible rfl
  try simp only [Act.put, List.setIfInBounds_toArray, List.set_cons_zero, List.set_cons_succ]
  refine wpAnyH_take (i := 2) (oi := ⟨some 22, _, _, _, _, _⟩) (v := ?_) rfl (by kernel_rfl) (by kernel_rfl) (by kernel_rfl) (fun _ _ _ h => h) (Or.inl ⟨by rfl, ?_⟩) (by assumption) ?_
  rotate_left
  focus
    intro w hSw
    try dsimp only at hSw
    go_simp
    first
    | done
    | with_reducible rfl
  try simp only [Act.put, List.setIfInBounds_toArray, List.set_cons_zero, List.set_cons_succ]
  refine wpAnyH_take (i := 3) (oi := ⟨some 23, _, _, _, _, _⟩) (v := ?_) rfl (by kernel_rfl) (by kernel_rfl) (by kernel_rfl) (fun _ _ _ h => h) (Or.inl ⟨by rfl, ?_⟩) (by assumption) ?_
  rotate_left
  focus
    intro w hSw
    try dsimp only at hSw
    go_simp
    first
    | done
    | with_reducible rfl
  try simp only [Act.put, List.setIfInBounds_toArray, List.set_cons_zero, List.set_cons_succ]
  refine wpAnyH_take (i := 5) (oi := ⟨some 25, _, _, _, _, _⟩) (v := ?_) rfl (by kernel_rfl) (by kernel_rfl) (by kernel_rfl) (fun _ _ _ h => h) (Or.inl ⟨by rfl, ?_⟩) (by assumption) ?_
  rotate_left
  focus
    intro w hSw
    try dsimp only at hSw
    go_simp
    first
    | done
    | with_reducible rfl
  try simp only [Act.put, List.setIfInBounds_toArray, List.set_cons_zero, List.set_cons_succ]
  refine wpAnyH_take (i := 6) (oi := ⟨some 26, _, _, _, _, _⟩) (v := ?_) rfl (by kernel_rfl) (by kernel_rfl) (by kernel_rfl) (fun _ _ _ h => h) (Or.inl ⟨by rfl, ?_⟩) (by assumption) ?_
  rotate_left
  focus
    intro w hSw
    try dsimp only at hSw
    go_simp
    first
    | done
    | with_reducible rfl
  try simp only [Act.put, List.setIfInBounds_toArray, List.set_cons_zero, List.set_cons_succ]
  refine wpAnyH_take (i := 7) (oi := ⟨some 27, _, _, _, _, _⟩) (v := ?_) rfl (by kernel_rfl) (by kernel_rfl) (by kernel_rfl) (fun _ _ _ h => h) (Or.inl ⟨by rfl, ?_⟩) (by assumption) ?_
  rotate_left
  focus
    intro w hSw
    try dsimp only at hSw
    go_simp
    first
    | done
    | with_reducible rfl
  try simp only [Act.put, List.setIfInBounds_toArray, List.set_cons_zero, List.set_cons_succ]
  refine wpAnyH_take (i := 8) (oi := ⟨some 28, _, _, _, _, _⟩) (v := ?_) rfl (by kernel_rfl) (by kernel_rfl) (by kernel_rfl) (fun _ _ _ h => h) (Or.inl ⟨by rfl, ?_⟩) (by assumption) ?_
  rotate_left
  focus
    intro w hSw
    try dsimp only at hSw
    go_simp
    first
    | done
    | with_reducible rfl
  try simp only [Act.put, List.setIfInBounds_toArray, List.set_cons_zero, List.set_cons_succ]
  refine wpAnyH_ready (rs := [4]) (by kernel_rfl) (by simp) ?_
  refine AllReadyH.cons (o := ⟨some 24, _, _, _, _, _⟩) rfl (fun K hK => ?_) AllReadyH.nil
  go_simp
  refine (NA.out _).mono ?_
  rintro e w4 ⟨⟨ga, hga, rfl, Ra⟩, hb4⟩
  refine hK.out _ _ (HSX.out _ hb4) (fun hHeld => ?_)
  clear hK K
  try simp only [Act.put, List.setIfInBounds_toArray, List.set_cons_zero, List.set_cons_succ]
  refine wpAnyH_ready (rs := [9]) (by kernel_rfl) (by simp) ?_
  refine AllReadyH.cons (o := ⟨some 29, _, _, _, _, _⟩) rfl (fun K hK => ?_) AllReadyH.nil
  go_simp
  refine (NB.out _).mono ?_
  rintro e w5 ⟨⟨gb, hgb, rfl, Rb⟩, hb5⟩
  refine hK.out _ _ (HSX.out _ (bstep hb4 hb5)) (fun hHeld => ?_)
  clear hK K
  try simp only [Act.put, List.setIfInBounds_toArray, List.set_cons_zero, List.set_cons_succ]
  refine wpAnyH_take (i := 10) (oi := ⟨some 8, _, _, _, _, _⟩) (v := ?_) rfl (by kernel_rfl) (by kernel_rfl) (by kernel_rfl) (fun _ _ _ h => h) (Or.inl ⟨by rfl, ?_⟩) (by assumption) ?_
  rotate_left
  focus
    intro w hSw
    try dsimp only at hSw
    go_simp
    first
    | done
    | with_reducible rfl
  try simp only [Act.put, List.setIfInBounds_toArray, List.set_cons_zero, List.set_cons_succ]
  refine wpAnyH_take (i := 11) (oi := ⟨some 9, _, _, _, _, _⟩) (v := ?_) rfl (by kernel_rfl) (by kernel_rfl) (by kernel_rfl) (fun _ _ _ h => h) (Or.inl ⟨by rfl, ?_⟩) (by assumption) ?_
  rotate_left
  focus
    intro w hSw
    try dsimp only at hSw
    go_simp
    first
    | done
    | with_reducible rfl
  try simp only [Act.put, List.setIfInBounds_toArray, List.set_cons_zero, List.set_cons_succ]
  refine wpAnyH_done (by kernel_rfl) ?_ _

  have hgal := rcv_lt Ra ga rfl
  have HI0 : Hid (CrI W kb K st sp de co ga gb ⟨0, (k0.1, k0.2), []⟩ ⟨0, (k0.1, k0.2), []⟩ (· = ga) (fun k => w4.heap.size ≤ k ∧ k < w5.heap.size) w5) := hid (by
    have hs3 := HB3.out.size
    have hs4 : w3.heap.size ≤ w4.heap.size := hb4.size
    have hga' : w3.heap.size ≤ ga := hga
    have h45 : Below w3.drew.heap.size w3.drew w5 := bstep hb4 hb5
    have h5 : Below w3.heap.size w3 w5 := ⟨h45.os, h45.tape, h45.output, h45.size, h45.block⟩
    exact ⟨HB3.out.trans (h5.mono hs3), HKK.out.next h5, Nat.lt_of_lt_of_le hkl (Nat.le_trans hs4 hb5.size), Ra.next hb5, Rb, (fun j hj => by omega), (fun j hj => by omega), (fun e => by omega), (fun e => by omega), (fun j hj h2 => by omega), Pl.okR.new hco0 _, Pl.okR.new hco0 _⟩)
  clear hHeld HSX NA NB hb4 hb5 Ra Rb hga hgb hgal KB3 HKK HB3
  go_wp2_with fail
  refine (SM.out _ HI0.out.bel).mono ?_
  rintro e w6 ⟨rfl, rfl⟩
  cases hs : smallB l
  · clear hs
    go_wp2_with fail
    refine (awake_any _ (HG.out.1.next HI0.out.bel) (HG.out.2.next HI0.out.bel)).mono ?_
    rintro e w6 ⟨rfl, hb6⟩
    go_wp2
    go_ret
    exact ⟨rfl, bstep HI0.out.bel hb6⟩
  · have HSm := hid (hsm.out hs)
    have hnl80 : nl ≤ 80 := HSm.out.1
    clear hs SM
    go_wp2_with fail
    go_loopw [10] (fun iv wr => ∃ k : Nat, k ≤ nl ∧ iv = .int .i64 (k : Int) ∧ ∃ s Sa Sb, CrI W kb K st sp de co ga gb s s Sa Sb wr) (fun iv _ => nl - (intOf iv).toNat)
    case atStart => exact ⟨0, Nat.zero_le _, rfl, _, _, _, HI0.out⟩
    case round =>
      clear HI0
      obtain ⟨k, hk, rfl, s, Sa, Sb, I⟩ := hrel
      have HI := hid I
      clear I
      by_cases hlt : k < nl
      · obtain ⟨p, hp⟩ : ∃ x, l[k]? = some x := ⟨l[k]'(by have := HL.out; omega), List.getElem?_eq_getElem _⟩
        rcases HP.out with h0 | ⟨ob, oo, hA1, hob, hpc⟩
        · rw [h0] at hp; simp at hp
        subst hA1
        obtain ⟨hpc, hSl, hbw, hbl, _, _, hodd⟩ := hpc k p hp
        have hbel := HI.out.bel
        have q0 : wr.cell? ⟨ob, oo + k * 6, none⟩ = some (.int .i64 p.kind) := (hbel.cell (p := ⟨ob, oo + k * 6 + 0, none⟩) hob).trans (hpc 0 _ rfl)
        have q1 : wr.cell? ⟨ob, oo + k * 6 + 1, none⟩ = some (.int .i64 p.i) := (hbel.cell (p := ⟨ob, oo + k * 6 + 1, none⟩) hob).trans (hpc 1 _ rfl)
        have q2 : wr.cell? ⟨ob, oo + k * 6 + 2, none⟩ = some (.slice p.A p.b.length p.c) := (hbel.cell (p := ⟨ob, oo + k * 6 + 2, none⟩) hob).trans (hpc 2 _ rfl)
        have q3 : wr.cell? ⟨ob, oo + k * 6 + 3, none⟩ = some (.int .i64 p.lo) := (hbel.cell (p := ⟨ob, oo + k * 6 + 3, none⟩) hob).trans (hpc 3 _ rfl)
        have q4 : wr.cell? ⟨ob, oo + k * 6 + 4, none⟩ = some (.int .i64 p.hi) := (hbel.cell (p := ⟨ob, oo + k * 6 + 4, none⟩) hob).trans (hpc 4 _ rfl)
        have q5 : wr.cell? ⟨ob, oo + k * 6 + 5, none⟩ = some (.int .u64 p.odd) := (hbel.cell (p := ⟨ob, oo + k * 6 + 5, none⟩) hob).trans (hpc 5 _ rfl)
        have hb100 := HSm.out.2 p (List.mem_of_getElem? hp)
        obtain ⟨kd, i, pA, pc, b, lo, hi, odd⟩ := p
        simp only at q0 q1 q2 q3 q4 q5 hSl hbw hbl hb100 hodd
        have HBy := hid (And.intro hSl (show Pl.okB b from ⟨hbw, by omega⟩))
        obtain ⟨hod0, hod1⟩ := hodd
        generalize hm : b.length = m at *
        have HM := hid hm
        have HBx := hid (And.intro (Bk.new wr 45 #[.int .i64 kd, .int .i64 i, .slice pA m pc, .int .i64 lo, .int .i64 hi, .int .u64 odd]) ((Below.refl wr.heap.size wr).alloc (Nat.le_refl _) (.cells #[.int .i64 kd, .int .i64 i, .slice pA m pc, .int .i64 lo, .int .i64 hi, .int .u64 odd] 45)))
        have HIb := hid (HI.out.next HBx.out.2)
        clear hp hpc hSl hbw hbl hb100 hm hbel
        have b0 := HBx.out.1.cell 0
        simp only [List.getElem?_toArray, List.getElem?_cons_zero] at b0
        by_cases hkd : kd = 0
        · subst hkd
          go_upto_region 12 with (fail)
          generalize hwb : wr.alloc (.cells #[.int .i64 0, .int .i64 i, .slice pA m pc, .int .i64 lo, .int .i64 hi, .int .u64 odd] 45) = wb at *
          generalize hbx : wr.heap.size = bx at *
          have KBx : Hid (Bk wb bx 45 #[.int .i64 0, .int .i64 i, .slice pA m pc, .int .i64 lo, .int .i64 hi, .int .u64 odd]) := hid HBx.out.1
          have HNX : Hid (¬ Sa bx ∧ ¬ Sb bx) := hid (by rw [← hbx]; exact ⟨fun h => Nat.lt_irrefl _ (rcv_lt HI.out.a _ h), fun h => Nat.lt_irrefl _ (HI.out.b.lt _ h)⟩)
          clear q0 q1 q2 q3 q4 q5 b0 hwb hbx HBx HI
          have HSA : Hid (IsSl wb pA .u8 b) := hid (HIb.out.slA HBy.out.1)
          have KY : Hid (∀ w', Below wb.heap.size wb w' → Calls Tryd.prog 25 #[.slice (some ⟨kb, 0, none⟩) (64 + 1) kc, .int .i64 i] w' fun e w'' => e = .returned (.agg #[.int .u64 (keyAt K i).1, .int .u64 (keyAt K i).2]) ∧ Below w'.heap.size w' w'') := hid (fun w' h => key_any kb 65 kc K i w' (HIb.out.keys.next h) KL.out (by decide) (by decide))
          generalize keyAt K i = kk at *
          have DV := hid (fun (w : World) (p : Nat) (h : IsSl w (some ⟨p, 0, none⟩) .u8 kMac) => refDerive_any kk.1 kk.2 (some ⟨p, 0, none⟩) 3 kMac w h (by decide) (by decide))
          have TV : Hid (∀ w : World, IsSl w pA .u8 b → Calls Tryd.prog 23 #[.agg #[.int .u64 (Pl.d1 kk.1 kk.2 kMac), .int .u64 (Pl.d2 kk.1 kk.2 kMac)], .slice pA m pc] w fun e w' => e = .returned (.int .u64 (Pl.tagOf (Pl.d1 kk.1 kk.2 kMac) (Pl.d2 kk.1 kk.2 kMac) b)) ∧ Below w.heap.size w w') := hid (fun w h => by
            have := refTag_any (Pl.d1 kk.1 kk.2 kMac) (Pl.d2 kk.1 kk.2 kMac) pA pc b w h HBy.out.2.1 (by have := HBy.out.2.2; omega)
            rw [HM.out] at this
            exact this)
          generalize Pl.tagOf (Pl.d1 kk.1 kk.2 kMac) (Pl.d2 kk.1 kk.2 kMac) b = tg at *
          have HSX : Hid (∀ w', Below wb.heap.size wb w' → (w'.cell? ⟨bx, 1, none⟩ = some (.int .i64 i)) ∧ (w'.cell? ⟨bx, 2, none⟩ = some (.slice pA m pc)) ∧ (w'.cell? ⟨bx, 5, none⟩ = some (.int .u64 odd))) := hid (fun w' h => ⟨(KBx.out.next h).cell 1, (KBx.out.next h).cell 2, (KBx.out.next h).cell 5⟩)
          go_cut [12] (fun t12 wx => t12 = .int .u64 (IntKind.u64.wrap (tg + odd)) ∧ Below wb.heap.size wb wx)
          case first =>
            refine wp_region_held_drew (S := (fun w' => (w'.cell? ⟨bx, 1, none⟩ = some (.int .i64 i)) ∧ (w'.cell? ⟨bx, 2, none⟩ = some (.slice pA m pc)) ∧ (w'.cell? ⟨bx, 5, none⟩ = some (.int .u64 odd)))) (by kernel_rfl) (HSX.out _ (Below.refl wb.heap.size wb).drew) (fun hHeld => ?_)
            have HBw : Hid (Below wb.heap.size wb wb.drew) := hid ((Below.refl _ _).drew)
            generalize wb.drew = w30 at *
            refine wpAnyH_take (i := 0) (oi := ⟨some 56, _, _, _, _, _⟩) (v := ?_) rfl (by kernel_rfl) (by kernel_rfl) (by kernel_rfl) (fun _ _ _ h => h) (Or.inl ⟨by rfl, ?_⟩) (by assumption) ?_
            rotate_left
            focus
              intro w hSw
              try dsimp only at hSw
              go_simp
              first
              | done
              | with_reducible rfl
            try simp only [Act.put, List.setIfInBounds_toArray, List.set_cons_zero, List.set_cons_succ]
            refine wpAnyH_take (i := 1) (oi := ⟨some 57, _, _, _, _, _⟩) (v := ?_) rfl (by kernel_rfl) (by kernel_rfl) (by kernel_rfl) (fun _ _ _ h => h) (Or.inl ⟨by rfl, ?_⟩) (by assumption) ?_
            rotate_left
            focus
              intro w hSw
              try dsimp only at hSw
              go_simp
              first
              | done
              | with_reducible rfl
            try simp only [Act.put, List.setIfInBounds_toArray, List.set_cons_zero, List.set_cons_succ]
            refine wpAnyH_take (i := 2) (oi := ⟨some 58, _, _, _, _, _⟩) (v := ?_) rfl (by kernel_rfl) (by kernel_rfl) (by kernel_rfl) (fun _ _ _ h => h) (Or.inl ⟨by rfl, ?_⟩) (by assumption) ?_
            rotate_left
            focus
              intro w hSw
              try dsimp only at hSw
              go_simp
              first
              | done
              | with_reducible rfl
            try simp only [Act.put, List.setIfInBounds_toArray, List.set_cons_zero, List.set_cons_succ]
            refine wpAnyH_take (i := 7) (oi := ⟨some 63, _, _, _, _, _⟩) (v := ?_) rfl (by kernel_rfl) (by kernel_rfl) (by kernel_rfl) (fun _ _ _ h => h) (Or.inl ⟨by rfl, ?_⟩) (by assumption) ?_
            rotate_left
            focus
              intro w hSw
              try dsimp only at hSw
              go_simp
              first
              | done
              | with_reducible rfl
            try simp only [Act.put, List.setIfInBounds_toArray, List.set_cons_zero, List.set_cons_succ]
            refine wpAnyH_take (i := 8) (oi := ⟨some 64, _, _, _, _, _⟩) (v := ?_) rfl (by kernel_rfl) (by kernel_rfl) (by kernel_rfl) (fun _ _ _ h => h) (Or.inl ⟨by rfl, ?_⟩) (by assumption) ?_
            rotate_left
            focus
              intro w hSw
              try dsimp only at hSw
              go_simp
              first
              | done
              | with_reducible rfl
            try simp only [Act.put, List.setIfInBounds_toArray, List.set_cons_zero, List.set_cons_succ]
            refine wpAnyH_take (i := 10) (oi := ⟨some 66, _, _, _, _, _⟩) (v := ?_) rfl (by kernel_rfl) (by kernel_rfl) (by kernel_rfl) (fun _ _ _ h => h) (Or.inl ⟨by rfl, ?_⟩) (by assumption) ?_
            rotate_left
            focus
              intro w hSw
              try dsimp only at hSw
              go_simp
              first
              | done
              | with_reducible rfl
            try simp only [Act.put, List.setIfInBounds_toArray, List.set_cons_zero, List.set_cons_succ]
            refine wpAnyH_take (i := 11) (oi := ⟨some 67, _, _, _, _, _⟩) (v := ?_) rfl (by kernel_rfl) (by kernel_rfl) (by kernel_rfl) (fun _ _ _ h => h) (Or.inl ⟨by rfl, ?_⟩) (by assumption) ?_
            rotate_left
            focus
              intro w hSw
              try dsimp only at hSw
              go_simp
              first
              | done
              | with_reducible rfl
            try simp only [Act.put, List.setIfInBounds_toArray, List.set_cons_zero, List.set_cons_succ]
            refine wpAnyH_ready (rs := [3, 4]) (by kernel_rfl) (by simp) ?_
            refine AllReadyH.cons (o := ⟨some 59, _, _, _, _, _⟩) rfl (fun K hK => ?_) (AllReadyH.cons (o := ⟨some 60, _, _, _, _, _⟩) rfl (fun K hK => ?_) AllReadyH.nil)
            · go_simp
              refine (KY.out _ HBw.out).mono ?_
              rintro e wq0 ⟨rfl, hbk⟩
              replace HBw := hid (HBw.out.trans (hbk.mono HBw.out.size))
              clear hbk
              refine hK.out _ _ (HSX.out _ HBw.out) (fun hHeld => ?_)
              clear hK K
              try simp only [Act.put, List.setIfInBounds_toArray, List.set_cons_zero, List.set_cons_succ]
              refine wpAnyH_ready (rs := [4]) (by kernel_rfl) (by simp) ?_
              refine AllReadyH.cons (o := ⟨some 60, _, _, _, _, _⟩) rfl (fun K hK => ?_) AllReadyH.nil
              go_simp
              have KB3 := hid (Bk.new wq0 5 #[.int .u8 109, .int .u8 97, .int .u8 99])
              have HP3 := hid HBw.out.size
              replace HBw := hid (HBw.out.alloc HBw.out.size (.cells #[.int .u8 109, .int .u8 97, .int .u8 99] 5))
              generalize wq0.alloc (.cells #[.int .u8 109, .int .u8 97, .int .u8 99] 5) = wq1 at *
              generalize wq0.heap.size = p3 at *
              refine hK.out _ _ (HSX.out _ HBw.out) (fun hHeld => ?_)
              clear hK K
              try simp only [Act.put, List.setIfInBounds_toArray, List.set_cons_zero, List.set_cons_succ]
              refine wpAnyH_ready (rs := [5]) (by kernel_rfl) (by simp) ?_
              refine AllReadyH.cons (o := ⟨some 61, _, _, _, _, _⟩) rfl (fun K hK => ?_) AllReadyH.nil
              obtain ⟨wq2, hcv, hS3, hB3⟩ := run_conv_mac _ _ KB3.out
              go_simp
              have HS3 := hid hS3
              replace HBw := hid (HBw.out.trans (hB3 _ HP3.out))
              clear hcv hS3 hB3 KB3 HP3
              refine hK.out _ _ (HSX.out _ HBw.out) (fun hHeld => ?_)
              clear hK K
              try simp only [Act.put, List.setIfInBounds_toArray, List.set_cons_zero, List.set_cons_succ]
              refine wpAnyH_ready (rs := [6]) (by kernel_rfl) (by simp) ?_
              refine AllReadyH.cons (o := ⟨some 62, _, _, _, _, _⟩) rfl (fun K hK => ?_) AllReadyH.nil
              go_simp
              refine (DV.out _ _ HS3.out).mono ?_
              rintro e wq3 ⟨rfl, hbd⟩
              replace HBw := hid (HBw.out.trans (hbd.mono HBw.out.size))
              clear hbd HS3
              refine hK.out _ _ (HSX.out _ HBw.out) (fun hHeld => ?_)
              clear hK K
              try simp only [Act.put, List.setIfInBounds_toArray, List.set_cons_zero, List.set_cons_succ]
              refine wpAnyH_ready (rs := [9]) (by kernel_rfl) (by simp) ?_
              refine AllReadyH.cons (o := ⟨some 65, _, _, _, _, _⟩) rfl (fun K hK => ?_) AllReadyH.nil
              go_simp
              refine (TV.out _ (HSA.out.next HBw.out)).mono ?_
              rintro e wq4 ⟨rfl, hbt⟩
              replace HBw := hid (HBw.out.trans (hbt.mono HBw.out.size))
              clear hbt
              refine hK.out _ _ (HSX.out _ HBw.out) (fun hHeld => ?_)
              clear hK K
              try simp only [Act.put, List.setIfInBounds_toArray, List.set_cons_zero, List.set_cons_succ]
              refine wpAnyH_take (i := 12) (oi := ⟨some 68, _, _, _, _, _⟩) (v := ?_) rfl (by kernel_rfl) (by kernel_rfl) (by kernel_rfl) (fun _ _ _ h => h) (Or.inl ⟨by rfl, ?_⟩) (by assumption) ?_
              rotate_left
              focus
                intro w hSw
                try dsimp only at hSw
                go_simp
                first
                | done
                | with_reducible rfl
              try simp only [Act.put, List.setIfInBounds_toArray, List.set_cons_zero, List.set_cons_succ]
              refine wpAnyH_take (i := 13) (oi := ⟨some 12, _, _, _, _, _⟩) (v := ?_) rfl (by kernel_rfl) (by kernel_rfl) (by kernel_rfl) (fun _ _ _ h => h) (Or.inl ⟨by rfl, ?_⟩) (by assumption) ?_
              rotate_left
              focus
                intro w hSw
                try dsimp only at hSw
                go_simp
                first
                | done
                | with_reducible rfl
              try simp only [Act.put, List.setIfInBounds_toArray, List.set_cons_zero, List.set_cons_succ]
              refine wpAnyH_done (by kernel_rfl) ?_ _
              go_wp2_with fail
              go_meet
              exact ⟨rfl, HBw.out⟩
            · go_simp
              have KB3 := hid (Bk.new w30 5 #[.int .u8 109, .int .u8 97, .int .u8 99])
              have HP3 := hid HBw.out.size
              replace HBw := hid (HBw.out.alloc HBw.out.size (.cells #[.int .u8 109, .int .u8 97, .int .u8 99] 5))
              generalize w30.alloc (.cells #[.int .u8 109, .int .u8 97, .int .u8 99] 5) = wq0 at *
              generalize w30.heap.size = p3 at *
              refine hK.out _ _ (HSX.out _ HBw.out) (fun hHeld => ?_)
              clear hK K
              try simp only [Act.put, List.setIfInBounds_toArray, List.set_cons_zero, List.set_cons_succ]
              refine wpAnyH_ready (rs := [3, 5]) (by kernel_rfl) (by simp) ?_
              refine AllReadyH.cons (o := ⟨some 59, _, _, _, _, _⟩) rfl (fun K hK => ?_) (AllReadyH.cons (o := ⟨some 61, _, _, _, _, _⟩) rfl (fun K hK => ?_) AllReadyH.nil)
              · go_simp
                refine (KY.out _ HBw.out).mono ?_
                rintro e wq1 ⟨rfl, hbk⟩
                replace KB3 := hid (KB3.out.next hbk)
                replace HBw := hid (HBw.out.trans (hbk.mono HBw.out.size))
                clear hbk
                refine hK.out _ _ (HSX.out _ HBw.out) (fun hHeld => ?_)
                clear hK K
                try simp only [Act.put, List.setIfInBounds_toArray, List.set_cons_zero, List.set_cons_succ]
                refine wpAnyH_ready (rs := [5]) (by kernel_rfl) (by simp) ?_
                refine AllReadyH.cons (o := ⟨some 61, _, _, _, _, _⟩) rfl (fun K hK => ?_) AllReadyH.nil
                obtain ⟨wq2, hcv, hS3, hB3⟩ := run_conv_mac _ _ KB3.out
                go_simp
                have HS3 := hid hS3
                replace HBw := hid (HBw.out.trans (hB3 _ HP3.out))
                clear hcv hS3 hB3 KB3 HP3
                refine hK.out _ _ (HSX.out _ HBw.out) (fun hHeld => ?_)
                clear hK K
                try simp only [Act.put, List.setIfInBounds_toArray, List.set_cons_zero, List.set_cons_succ]
                refine wpAnyH_ready (rs := [6]) (by kernel_rfl) (by simp) ?_
                refine AllReadyH.cons (o := ⟨some 62, _, _, _, _, _⟩) rfl (fun K hK => ?_) AllReadyH.nil
                go_simp
                refine (DV.out _ _ HS3.out).mono ?_
                rintro e wq3 ⟨rfl, hbd⟩
                replace HBw := hid (HBw.out.trans (hbd.mono HBw.out.size))
                clear hbd HS3
                refine hK.out _ _ (HSX.out _ HBw.out) (fun hHeld => ?_)
                clear hK K
                try simp only [Act.put, List.setIfInBounds_toArray, List.set_cons_zero, List.set_cons_succ]
                refine wpAnyH_ready (rs := [9]) (by kernel_rfl) (by simp) ?_
                refine AllReadyH.cons (o := ⟨some 65, _, _, _, _, _⟩) rfl (fun K hK => ?_) AllReadyH.nil
                go_simp
                refine (TV.out _ (HSA.out.next HBw.out)).mono ?_
                rintro e wq4 ⟨rfl, hbt⟩
                replace HBw := hid (HBw.out.trans (hbt.mono HBw.out.size))
                clear hbt
                refine hK.out _ _ (HSX.out _ HBw.out) (fun hHeld => ?_)
                clear hK K
                try simp only [Act.put, List.setIfInBounds_toArray, List.set_cons_zero, List.set_cons_succ]
                refine wpAnyH_take (i := 12) (oi := ⟨some 68, _, _, _, _, _⟩) (v := ?_) rfl (by kernel_rfl) (by kernel_rfl) (by kernel_rfl) (fun _ _ _ h => h) (Or.inl ⟨by rfl, ?_⟩) (by assumption) ?_
                rotate_left
                focus
                  intro w hSw
                  try dsimp only at hSw
                  go_simp
                  first
                  | done
                  | with_reducible rfl
                try simp only [Act.put, List.setIfInBounds_toArray, List.set_cons_zero, List.set_cons_succ]
                refine wpAnyH_take (i := 13) (oi := ⟨some 12, _, _, _, _, _⟩) (v := ?_) rfl (by kernel_rfl) (by kernel_rfl) (by kernel_rfl) (fun _ _ _ h => h) (Or.inl ⟨by rfl, ?_⟩) (by assumption) ?_
                rotate_left
                focus
                  intro w hSw
                  try dsimp only at hSw
                  go_simp
                  first
                  | done
                  | with_reducible rfl
                try simp only [Act.put, List.setIfInBounds_toArray, List.set_cons_zero, List.set_cons_succ]
                refine wpAnyH_done (by kernel_rfl) ?_ _
                go_wp2_with fail
                go_meet
                exact ⟨rfl, HBw.out⟩
              · obtain ⟨wq1, hcv, hS3, hB3⟩ := run_conv_mac _ _ KB3.out
                go_simp
                have HS3 := hid hS3
                replace HBw := hid (HBw.out.trans (hB3 _ HP3.out))
                clear hcv hS3 hB3 KB3 HP3
                refine hK.out _ _ (HSX.out _ HBw.out) (fun hHeld => ?_)
                clear hK K
                try simp only [Act.put, List.setIfInBounds_toArray, List.set_cons_zero, List.set_cons_succ]
                refine wpAnyH_ready (rs := [3]) (by kernel_rfl) (by simp) ?_
                refine AllReadyH.cons (o := ⟨some 59, _, _, _, _, _⟩) rfl (fun K hK => ?_) AllReadyH.nil
                go_simp
                refine (KY.out _ HBw.out).mono ?_
                rintro e wq2 ⟨rfl, hbk⟩
                replace HS3 := hid (HS3.out.next hbk)
                replace HBw := hid (HBw.out.trans (hbk.mono HBw.out.size))
                clear hbk
                refine hK.out _ _ (HSX.out _ HBw.out) (fun hHeld => ?_)
                clear hK K
                try simp only [Act.put, List.setIfInBounds_toArray, List.set_cons_zero, List.set_cons_succ]
                refine wpAnyH_ready (rs := [6]) (by kernel_rfl) (by simp) ?_
                refine AllReadyH.cons (o := ⟨some 62, _, _, _, _, _⟩) rfl (fun K hK => ?_) AllReadyH.nil
                go_simp
                refine (DV.out _ _ HS3.out).mono ?_
                rintro e wq3 ⟨rfl, hbd⟩
                replace HBw := hid (HBw.out.trans (hbd.mono HBw.out.size))
                clear hbd HS3
                refine hK.out _ _ (HSX.out _ HBw.out) (fun hHeld => ?_)
                clear hK K
                try simp only [Act.put, List.setIfInBounds_toArray, List.set_cons_zero, List.set_cons_succ]
                refine wpAnyH_ready (rs := [9]) (by kernel_rfl) (by simp) ?_
                refine AllReadyH.cons (o := ⟨some 65, _, _, _, _, _⟩) rfl (fun K hK => ?_) AllReadyH.nil
                go_simp
                refine (TV.out _ (HSA.out.next HBw.out)).mono ?_
                rintro e wq4 ⟨rfl, hbt⟩
                replace HBw := hid (HBw.out.trans (hbt.mono HBw.out.size))
                clear hbt
                refine hK.out _ _ (HSX.out _ HBw.out) (fun hHeld => ?_)
                clear hK K
                try simp only [Act.put, List.setIfInBounds_toArray, List.set_cons_zero, List.set_cons_succ]
                refine wpAnyH_take (i := 12) (oi := ⟨some 68, _, _, _, _, _⟩) (v := ?_) rfl (by kernel_rfl) (by kernel_rfl) (by kernel_rfl) (fun _ _ _ h => h) (Or.inl ⟨by rfl, ?_⟩) (by assumption) ?_
                rotate_left
                focus
                  intro w hSw
                  try dsimp only at hSw
                  go_simp
                  first
                  | done
                  | with_reducible rfl
                try simp only [Act.put, List.setIfInBounds_toArray, List.set_cons_zero, List.set_cons_succ]
                refine wpAnyH_take (i := 13) (oi := ⟨some 12, _, _, _, _, _⟩) (v := ?_) rfl (by kernel_rfl) (by kernel_rfl) (by kernel_rfl) (fun _ _ _ h => h) (Or.inl ⟨by rfl, ?_⟩) (by assumption) ?_
                rotate_left
                focus
                  intro w hSw
                  try dsimp only at hSw
                  go_simp
                  first
                  | done
                  | with_reducible rfl
                try simp only [Act.put, List.setIfInBounds_toArray, List.set_cons_zero, List.set_cons_succ]
                refine wpAnyH_done (by kernel_rfl) ?_ _
                go_wp2_with fail
                go_meet
                exact ⟨rfl, HBw.out⟩
          case rest =>
            obtain ⟨rfl, hbc⟩ := hcut
            have HIc := hid (HIb.out.next hbc)
            have KBc := hid (KBx.out.next hbc)
            have HSc := hid (HSA.out.next hbc)
            clear hbc HIb KBx HSA HSX KY DV TV
            generalize IntKind.u64.wrap (tg + odd) = tt at *
            have HId := hid (HIc.out.next (Below.refl wc.heap.size wc).drew)
            have HA := hid (hear_all (g := ga) (i := i) (A := pA) (c := pc) (t := tt) (lo := lo) (hi := hi) HOK.out HId.out.oka HBy.out.2 (HSc.out.next (Below.refl wc.heap.size wc).drew) HId.out.a HM.out)
            have HB : Hid (∀ w4 S', RcvS w4 S' ga st sp de co (Pl.hNx st sp de co s i b tt lo hi) → Fr Sa S' wc.drew w4 → Calls Tryd.prog 27 #[pt gb, .int .i64 i, .slice pA m pc, .int .u64 tt, .agg #[.int .i64 lo, .int .i64 hi]] w4 fun e w' => e = .returned (.int .i64 (Pl.hErr st sp de co s i lo hi)) ∧ ∃ S', RefS w' S' gb st sp de co (Pl.hNx st sp de co s i b tt lo hi) ∧ Fr Sb S' w4 w') := hid (fun w4 S' Ra Fa => by
              have h4 := HId.out.stepA Ra Fa (HId.out.oka.hNx HBy.out.2)
              exact refHear_all HOK.out h4.okb HBy.out.2 (h4.slA HBy.out.1) h4.b HM.out)
            have HSY0 : Hid ((wc.drew.cell? ⟨bx, 1, none⟩ = some (.int .i64 i)) ∧ (wc.drew.cell? ⟨bx, 2, none⟩ = some (.slice pA m pc)) ∧ (wc.drew.cell? ⟨bx, 3, none⟩ = some (.int .i64 lo)) ∧ (wc.drew.cell? ⟨bx, 4, none⟩ = some (.int .i64 hi))) := hid ⟨KBc.out.cell 1, KBc.out.cell 2, KBc.out.cell 3, KBc.out.cell 4⟩
            have HSY : Hid (∀ w4 S', Fr Sa S' wc.drew w4 → (w4.cell? ⟨bx, 1, none⟩ = some (.int .i64 i)) ∧ (w4.cell? ⟨bx, 2, none⟩ = some (.slice pA m pc)) ∧ (w4.cell? ⟨bx, 3, none⟩ = some (.int .i64 lo)) ∧ (w4.cell? ⟨bx, 4, none⟩ = some (.int .i64 hi))) := hid (fun w4 S' F => by
              have h1 := F.bk (Bk.drew KBc.out) HNX.out.1
              exact ⟨h1.cell 1, h1.cell 2, h1.cell 3, h1.cell 4⟩)
            have HSZ : Hid (∀ w4 w5 S' S'', Fr Sa S' wc.drew w4 → Fr Sb S'' w4 w5 → (w5.cell? ⟨bx, 1, none⟩ = some (.int .i64 i)) ∧ (w5.cell? ⟨bx, 2, none⟩ = some (.slice pA m pc)) ∧ (w5.cell? ⟨bx, 3, none⟩ = some (.int .i64 lo)) ∧ (w5.cell? ⟨bx, 4, none⟩ = some (.int .i64 hi))) := hid (fun w4 w5 S' S'' F F' => by
              have h1 := F'.bk (F.bk (Bk.drew KBc.out) HNX.out.1) HNX.out.2
              exact ⟨h1.cell 1, h1.cell 2, h1.cell 3, h1.cell 4⟩)
            go_wp2_with fail
            refine wp_region_held_drew (S := (fun w' => (w'.cell? ⟨bx, 1, none⟩ = some (.int .i64 i)) ∧ (w'.cell? ⟨bx, 2, none⟩ = some (.slice pA m pc)) ∧ (w'.cell? ⟨bx, 3, none⟩ = some (.int .i64 lo)) ∧ (w'.cell? ⟨bx, 4, none⟩ = some (.int .i64 hi)))) (by kernel_rfl) HSY0.out (fun hHeld => ?_)
            refine wpAnyH_take (i := 0) (oi := ⟨some 69, _, _, _, _, _⟩) (v := ?_) rfl (by kernel_rfl) (by kernel_rfl) (by kernel_rfl) (fun _ _ _ h => h) (Or.inl ⟨by rfl, ?_⟩) (by assumption) ?_
            rotate_left
            focus
              intro w hSw
              try dsimp only at hSw
              go_simp
              first
              | done
              | with_reducible rfl
            try simp only [Act.put, List.setIfInBounds_toArray, List.set_cons_zero, List.set_cons_succ]
            refine wpAnyH_take (i := 1) (oi := ⟨some 70, _, _, _, _, _⟩) (v := ?_) rfl (by kernel_rfl) (by kernel_rfl) (by kernel_rfl) (fun _ _ _ h => h) (Or.inl ⟨by rfl, ?_⟩) (by assumption) ?_
            rotate_left
            focus
              intro w hSw
              try dsimp only at hSw
              go_simp
              first
              | done
              | with_reducible rfl
            try simp only [Act.put, List.setIfInBounds_toArray, List.set_cons_zero, List.set_cons_succ]
            refine wpAnyH_take (i := 2) (oi := ⟨some 71, _, _, _, _, _⟩) (v := ?_) rfl (by kernel_rfl) (by kernel_rfl) (by kernel_rfl) (fun _ _ _ h => h) (Or.inl ⟨by rfl, ?_⟩) (by assumption) ?_
            rotate_left
            focus
              intro w hSw
              try dsimp only at hSw
              go_simp
              first
              | done
              | with_reducible rfl
            try simp only [Act.put, List.setIfInBounds_toArray, List.set_cons_zero, List.set_cons_succ]
            refine wpAnyH_take (i := 3) (oi := ⟨some 72, _, _, _, _, _⟩) (v := ?_) rfl (by kernel_rfl) (by kernel_rfl) (by kernel_rfl) (fun _ _ _ h => h) (Or.inl ⟨by rfl, ?_⟩) (by assumption) ?_
            rotate_left
            focus
              intro w hSw
              try dsimp only at hSw
              go_simp
              first
              | done
              | with_reducible rfl
            try simp only [Act.put, List.setIfInBounds_toArray, List.set_cons_zero, List.set_cons_succ]
            refine wpAnyH_take (i := 4) (oi := ⟨some 73, _, _, _, _, _⟩) (v := ?_) rfl (by kernel_rfl) (by kernel_rfl) (by kernel_rfl) (fun _ _ _ h => h) (Or.inl ⟨by rfl, ?_⟩) (by assumption) ?_
            rotate_left
            focus
              intro w hSw
              try dsimp only at hSw
              go_simp
              first
              | done
              | with_reducible rfl
            try simp only [Act.put, List.setIfInBounds_toArray, List.set_cons_zero, List.set_cons_succ]
            refine wpAnyH_take (i := 5) (oi := ⟨some 74, _, _, _, _, _⟩) (v := ?_) rfl (by kernel_rfl) (by kernel_rfl) (by kernel_rfl) (fun _ _ _ h => h) (Or.inl ⟨by rfl, ?_⟩) (by assumption) ?_
            rotate_left
            focus
              intro w hSw
              try dsimp only at hSw
              go_simp
              first
              | done
              | with_reducible rfl
            try simp only [Act.put, List.setIfInBounds_toArray, List.set_cons_zero, List.set_cons_succ]
            refine wpAnyH_take (i := 6) (oi := ⟨some 75, _, _, _, _, _⟩) (v := ?_) rfl (by kernel_rfl) (by kernel_rfl) (by kernel_rfl) (fun _ _ _ h => h) (Or.inl ⟨by rfl, ?_⟩) (by assumption) ?_
            rotate_left
            focus
              intro w hSw
              try dsimp only at hSw
              go_simp
              first
              | done
              | with_reducible rfl
            try simp only [Act.put, List.setIfInBounds_toArray, List.set_cons_zero, List.set_cons_succ]
            refine wpAnyH_take (i := 7) (oi := ⟨some 76, _, _, _, _, _⟩) (v := ?_) rfl (by kernel_rfl) (by kernel_rfl) (by kernel_rfl) (fun _ _ _ h => h) (Or.inl ⟨by rfl, ?_⟩) (by assumption) ?_
            rotate_left
            focus
              intro w hSw
              try dsimp only at hSw
              go_simp
              first
              | done
              | with_reducible rfl
            try simp only [Act.put, List.setIfInBounds_toArray, List.set_cons_zero, List.set_cons_succ]
            refine wpAnyH_take (i := 9) (oi := ⟨some 78, _, _, _, _, _⟩) (v := ?_) rfl (by kernel_rfl) (by kernel_rfl) (by kernel_rfl) (fun _ _ _ h => h) (Or.inl ⟨by rfl, ?_⟩) (by assumption) ?_
            rotate_left
            focus
              intro w hSw
              try dsimp only at hSw
              go_simp
              first
              | done
              | with_reducible rfl
            try simp only [Act.put, List.setIfInBounds_toArray, List.set_cons_zero, List.set_cons_succ]
            refine wpAnyH_take (i := 10) (oi := ⟨some 79, _, _, _, _, _⟩) (v := ?_) rfl (by kernel_rfl) (by kernel_rfl) (by kernel_rfl) (fun _ _ _ h => h) (Or.inl ⟨by rfl, ?_⟩) (by assumption) ?_
            rotate_left
            focus
              intro w hSw
              try dsimp only at hSw
              go_simp
              first
              | done
              | with_reducible rfl
            try simp only [Act.put, List.setIfInBounds_toArray, List.set_cons_zero, List.set_cons_succ]
            refine wpAnyH_take (i := 11) (oi := ⟨some 80, _, _, _, _, _⟩) (v := ?_) rfl (by kernel_rfl) (by kernel_rfl) (by kernel_rfl) (fun _ _ _ h => h) (Or.inl ⟨by rfl, ?_⟩) (by assumption) ?_
            rotate_left
            focus
              intro w hSw
              try dsimp only at hSw
              go_simp
              first
              | done
              | with_reducible rfl
            try simp only [Act.put, List.setIfInBounds_toArray, List.set_cons_zero, List.set_cons_succ]
            refine wpAnyH_take (i := 12) (oi := ⟨some 81, _, _, _, _, _⟩) (v := ?_) rfl (by kernel_rfl) (by kernel_rfl) (by kernel_rfl) (fun _ _ _ h => h) (Or.inl ⟨by rfl, ?_⟩) (by assumption) ?_
            rotate_left
            focus
              intro w hSw
              try dsimp only at hSw
              go_simp
              first
              | done
              | with_reducible rfl
            try simp only [Act.put, List.setIfInBounds_toArray, List.set_cons_zero, List.set_cons_succ]
            refine wpAnyH_take (i := 13) (oi := ⟨some 82, _, _, _, _, _⟩) (v := ?_) rfl (by kernel_rfl) (by kernel_rfl) (by kernel_rfl) (fun _ _ _ h => h) (Or.inl ⟨by rfl, ?_⟩) (by assumption) ?_
            rotate_left
            focus
              intro w hSw
              try dsimp only at hSw
              go_simp
              first
              | done
              | with_reducible rfl
            try simp only [Act.put, List.setIfInBounds_toArray, List.set_cons_zero, List.set_cons_succ]
            refine wpAnyH_take (i := 14) (oi := ⟨some 83, _, _, _, _, _⟩) (v := ?_) rfl (by kernel_rfl) (by kernel_rfl) (by kernel_rfl) (fun _ _ _ h => h) (Or.inl ⟨by rfl, ?_⟩) (by assumption) ?_
            rotate_left
            focus
              intro w hSw
              try dsimp only at hSw
              go_simp
              first
              | done
              | with_reducible rfl
            try simp only [Act.put, List.setIfInBounds_toArray, List.set_cons_zero, List.set_cons_succ]
            refine wpAnyH_take (i := 15) (oi := ⟨some 84, _, _, _, _, _⟩) (v := ?_) rfl (by kernel_rfl) (by kernel_rfl) (by kernel_rfl) (fun _ _ _ h => h) (Or.inl ⟨by rfl, ?_⟩) (by assumption) ?_
            rotate_left
            focus
              intro w hSw
              try dsimp only at hSw
              go_simp
              first
              | done
              | with_reducible rfl
            try simp only [Act.put, List.setIfInBounds_toArray, List.set_cons_zero, List.set_cons_succ]
            refine wpAnyH_take (i := 16) (oi := ⟨some 85, _, _, _, _, _⟩) (v := ?_) rfl (by kernel_rfl) (by kernel_rfl) (by kernel_rfl) (fun _ _ _ h => h) (Or.inl ⟨by rfl, ?_⟩) (by assumption) ?_
            rotate_left
            focus
              intro w hSw
              try dsimp only at hSw
              go_simp
              first
              | done
              | with_reducible rfl
            try simp only [Act.put, List.setIfInBounds_toArray, List.set_cons_zero, List.set_cons_succ]
            refine wpAnyH_ready (rs := [8]) (by kernel_rfl) (by simp) ?_
            refine AllReadyH.cons (o := ⟨some 77, _, _, _, _, _⟩) rfl (fun K hK => ?_) AllReadyH.nil
            go_simp
            refine HA.out.mono ?_
            rintro e w4 ⟨rfl, Sa', Ra, Fa⟩
            refine hK.out _ _ (HSY.out _ _ Fa) (fun hHeld => ?_)
            clear hK K
            try simp only [Act.put, List.setIfInBounds_toArray, List.set_cons_zero, List.set_cons_succ]
            refine wpAnyH_ready (rs := [17]) (by kernel_rfl) (by simp) ?_
            refine AllReadyH.cons (o := ⟨some 86, _, _, _, _, _⟩) rfl (fun K hK => ?_) AllReadyH.nil
            go_simp
            refine (HB.out _ _ Ra Fa).mono ?_
            rintro e w5 ⟨rfl, Sb', Rb, Fb⟩
            refine hK.out _ _ (HSZ.out _ _ _ _ Fa Fb) (fun hHeld => ?_)
            clear hK K
            try simp only [Act.put, List.setIfInBounds_toArray, List.set_cons_zero, List.set_cons_succ]
            refine wpAnyH_take (i := 18) (oi := ⟨some 87, _, _, _, _, _⟩) (v := ?_) rfl (by kernel_rfl) (by kernel_rfl) (by kernel_rfl) (fun _ _ _ h => h) (Or.inl ⟨by rfl, ?_⟩) (by assumption) ?_
            rotate_left
            focus
              intro w hSw
              try dsimp only at hSw
              go_simp
              first
              | done
              | with_reducible rfl
            try simp only [Act.put, List.setIfInBounds_toArray, List.set_cons_zero, List.set_cons_succ]
            refine wpAnyH_done (by kernel_rfl) ?_ _
            have HI5 := hid ((HId.out.stepA Ra Fa (HId.out.oka.hNx HBy.out.2)).stepB Rb Fb (HId.out.okb.hNx HBy.out.2))
            clear hHeld HSY0 HSY HSZ HA HB Ra Fa Rb Fb HId HIc KBc HSc HNX
            generalize Pl.hNx st sp de co s i b tt lo hi = s5 at *
            go_wp2_with fail
            refine (known_of HI5.out.a).mono ?_
            rintro e w10 ⟨rfl, rfl⟩
            go_wp2_with fail
            refine (refKnown_of HI5.out.okb hco1 HI5.out.b).mono ?_
            rintro e w10 ⟨rfl, rfl⟩
            go_wp2_with fail
            refine (held_of HI5.out.a).mono ?_
            rintro e w10 ⟨rfl, rfl⟩
            go_wp2_with fail
            refine (refHeld_of HI5.out.b).mono ?_
            rintro e w10 ⟨rfl, rfl⟩
            go_wp2_with fail
            go_roundw
            case rel => exact ⟨k + 1, by omega, by simp, _, _, _, HI5.out⟩
            case measure => simp [intOf]; omega
        · have e0 : (kd == 0) = false := by simpa using hkd
          have KY : Hid (∀ w', CrI W kb K st sp de co ga gb s s Sa Sb w' → Calls Tryd.prog 25 #[.slice (some ⟨kb, 0, none⟩) (64 + 1) kc, .int .i64 i] w' fun e w'' => e = .returned (.agg #[.int .u64 (keyAt K i).1, .int .u64 (keyAt K i).2]) ∧ Below w'.heap.size w' w'') := hid (fun w' h => key_any kb 65 kc K i w' h.keys KL.out (by decide) (by decide))
          generalize keyAt K i = kk at *
          have b1 := HBx.out.1.cell 1
          simp only [List.getElem?_toArray, List.getElem?_cons_zero, List.getElem?_cons_succ] at b1
          have HNX : Hid (¬ Sa wr.heap.size ∧ ¬ Sb wr.heap.size) := hid ⟨fun h => Nat.lt_irrefl _ (rcv_lt HI.out.a _ h), fun h => Nat.lt_irrefl _ (HI.out.b.lt _ h)⟩
          go_wp2_with fail
          refine (KY.out _ HIb.out).mono ?_
          rintro e w4 ⟨rfl, hbk⟩
          have HI4 := hid (HIb.out.next hbk)
          have KB4 := hid (HBx.out.1.next hbk)
          have KX := hid (Bk.new w4 37 #[.int .u64 (IntKind.u64.wrap (kk.1 + odd)), .int .u64 kk.2])
          have BX := hid ((Below.refl w4.heap.size w4).alloc (Nat.le_refl _) (.cells #[.int .u64 (IntKind.u64.wrap (kk.1 + odd)), .int .u64 kk.2] 37))
          have KX0 := hid (Bk.new w4 37 #[.int .u64 kk.1, .int .u64 kk.2])
          have BX0 := hid ((Below.refl w4.heap.size w4).alloc (Nat.le_refl _) (.cells #[.int .u64 kk.1, .int .u64 kk.2] 37))
          obtain ⟨x0, x1⟩ := KX0.out.two
          have fx := KX0.out.free 0
          have d1 := (KB4.out.next BX0.out).cell 1
          have d5 := (KB4.out.next BX0.out).cell 5
          obtain ⟨x0', x1'⟩ := KX.out.two
          have d1' := (KB4.out.next BX.out).cell 1
          simp only [List.getElem?_toArray, List.getElem?_cons_zero, List.getElem?_cons_succ] at d1 d5 d1'
          clear q0 q1 q2 q3 q4 q5 b0 b1 hbk HBx HI KY hkd
          go_wp2_with fail
          generalize IntKind.u64.wrap (kk.1 + odd) = z0 at *
          have HI5 := hid (HI4.out.next BX.out)
          have KB5 := hid (KB4.out.next BX.out)
          have HNK : Hid (¬ Sa w4.heap.size ∧ ¬ Sb w4.heap.size) := hid ⟨fun h => Nat.lt_irrefl _ (rcv_lt HI4.out.a _ h), fun h => Nat.lt_irrefl _ (HI4.out.b.lt _ h)⟩
          clear x0 x1 fx d1 d5 x0' x1' d1' KX0 BX0 BX HI4 KB4 HIb
          generalize w4.alloc (.cells #[.int .u64 z0, .int .u64 kk.2] 37) = w5 at *
          generalize w4.heap.size = kx at *
          generalize wr.heap.size = bx at *
          refine (disc_all (g := ga) (i := i) (key := (z0, kk.2)) HI5.out.a HI5.out.oka hco1 (HG.out.1.next HI5.out.bel) (fun j hj => Nat.le_trans hW2 (HI5.out.la j hj))).mono ?_
          rintro e w6 ⟨rv, Sa', rfl, Ra, BBa, Fa⟩
          have HI6 := hid (HI5.out.stepA Ra Fa HI5.out.oka.dNx)
          have KB6 := hid (Fa.bk KB5.out HNX.out.1)
          have KX6 := hid (Fa.bk KX.out HNK.out.1)
          have HBBa := hid BBa
          have e1 := KB6.out.cell 1
          obtain ⟨x0, x1⟩ := KX6.out.two
          simp only [List.getElem?_toArray, List.getElem?_cons_zero, List.getElem?_cons_succ] at e1
          clear Ra BBa Fa KB5 KX
          go_wp2_with fail
          refine (refDisc_all (g := gb) (i := i) (key := (z0, kk.2)) HI6.out.b HI6.out.okb hco1).mono ?_
          rintro e w7 ⟨rv2, Sb', rfl, Rb, BBb, Fb⟩
          have HI7 := hid (HI6.out.stepB Rb Fb HI6.out.okb.dNx)
          have HAL := hid (alike_same Sa' Sb' rv rv2 _ w7 (HBBa.out.fr Fb (fun j h1 => HI6.out.dj j h1)) BBb (HI5.out.oka.dO i (z0, kk.2)).1 (HI5.out.oka.dO i (z0, kk.2)).2)
          clear Rb BBb Fb e1 x0 x1 KB6 KX6 HBBa HI6 HNX HNK
          generalize Pl.dNx co s i (z0, kk.2) = s5 at *
          generalize Pl.dErr co s i (z0, kk.2) = er at *
          go_wp2_with fail
          refine HAL.out.mono ?_
          rintro e w8 ⟨rfl, hb8⟩
          have HI8 := hid (HI7.out.next hb8)
          clear hb8 HAL HI7 HI5
          go_wp2_with fail
          refine (known_of HI8.out.a).mono ?_
          rintro e w10 ⟨rfl, rfl⟩
          go_wp2_with fail
          refine (refKnown_of HI8.out.okb hco1 HI8.out.b).mono ?_
          rintro e w10 ⟨rfl, rfl⟩
          go_wp2_with fail
          refine (held_of HI8.out.a).mono ?_
          rintro e w10 ⟨rfl, rfl⟩
          go_wp2_with fail
          refine (refHeld_of HI8.out.b).mono ?_
          rintro e w10 ⟨rfl, rfl⟩
          go_wp2_with fail
          go_roundw
          case rel => exact ⟨k + 1, by omega, by simp, _, _, _, HI8.out⟩
          case measure => simp [intOf]; omega
      · clear HP
        go_wp2_with fail
        refine (awake_any _ (HG.out.1.next HI.out.bel) (HG.out.2.next HI.out.bel)).mono ?_
        rintro e w6 ⟨rfl, hb6⟩
        go_wp2
        go_ret
        exact ⟨rfl, bstep HI.out.bel hb6⟩
end Go.Proofs.YtmegiodajkeahaaDoor
