/- swap of package agenda. -/
import Derived.Test.YtjeojnlkjecojaaDoorLinkH2
import Derived.Deep.RegionWith
import Derived.Deep.DrawnRows
namespace Go.Proofs.YtjeojnlkjecojaaDoor
open Go Go.RowKit
open Hp
theorem bk3 {w : World} {g : Nat} {t : TypeId} {x y z : Value} (h : Bk w g t #[x, y, z]) : w.cell? ⟨g, 0, none⟩ = some x ∧ w.cell? ⟨g, 1, none⟩ = some y ∧ w.cell? ⟨g, 2, none⟩ = some z := ⟨h.cell 0, h.cell 1, h.cell 2⟩
theorem bk3set {w : World} {g : Nat} {t : TypeId} {a c d : Value} (h : Bk w g t #[a, c, d]) (x : Ev) : Bk (((w.setCell ⟨g, 0, none⟩ (.int .i64 x.at_)).setCell ⟨g, 1, none⟩ (.int .i64 x.id)).setCell ⟨g, 2, none⟩ (.int .i64 x.item)) g t #[.int .i64 x.at_, .int .i64 x.id, .int .i64 x.item] :=
  ((h.put 0 _).put 1 _).put 2 _
theorem HpM.lts {w : World} {g b m cap : Nat} {L : List Ev} {Y : List Value} {N : Nat} {lim tm pu : Int} (h : HpM w g b m cap L Y N lim tm pu) : g < w.heap.size ∧ b < w.heap.size ∧ m < w.heap.size := by
  obtain ⟨D, hD⟩ := h.mp
  exact ⟨h.q.lt, h.l.lt, hD.lt⟩
set_option maxHeartbeats 4000000 in
theorem swap_any (g b m cap i j : Nat) (L : List Ev) (Y : List Value) (N : Nat) (lim tm pu : Int) (w : World) (H : HpM w g b m cap L Y N lim tm pu) (hi : i < L.length) (hj : j < L.length) (hL : L.length ≤ 1000) (hid_ : ∀ x ∈ L, 0 ≤ x.id ∧ x.id ≤ 1000000) (hN : N + 1 ≤ 1000000) :
    Calls Tryd.prog 44 #[pt g, .int .i64 (i : Int), .int .i64 (j : Int)] w fun e w' => e = .returned (.tuple #[]) ∧ HpM w' g b m cap (swp L i j) Y (N + 2) lim tm pu ∧ Fr (Qs g b m) w w' := by
  obtain ⟨x, hx⟩ : ∃ x, L[i]? = some x := ⟨_, List.getElem?_eq_getElem hi⟩
  obtain ⟨y, hy⟩ : ∃ y, L[j]? = some y := ⟨_, List.getElem?_eq_getElem hj⟩
  have hxi := hid_ x (List.mem_of_getElem? hx)
  have hyi := hid_ y (List.mem_of_getElem? hy)
  have HSW : Hid ((L.set i y).set j x = swp L i j) := hid (by
    unfold swp
    rw [show L.getD j ev0 = y by simp [List.getD, hy], show L.getD i ev0 = x by simp [List.getD, hx]])
  obtain ⟨hgl, hbl, hml⟩ := H.lts
  have hcap : L.length ≤ cap := by
    have := H.sz
    rw [List.length_append, ecells_len] at this
    omega
  have HQ := hid H
  have HXY := hid (And.intro hx hy)
  have HII := hid (And.intro hxi hyi)
  clear H hx hy hxi hyi hid_
  generalize hn : L.length = n at *
  have HNn := hid hn
  clear hn
  have HSX : Hid (∀ w', Below w.heap.size w w' → (w'.cell? ⟨g, 0, none⟩ = some (.slice (some ⟨b, 0, none⟩) n cap)) ∧ (w'.cell? ⟨b, i * 3, none⟩ = some (.int .i64 x.at_)) ∧ (w'.cell? ⟨b, i * 3 + 1, none⟩ = some (.int .i64 x.id)) ∧ (w'.cell? ⟨b, i * 3 + 2, none⟩ = some (.int .i64 x.item)) ∧ (w'.cell? ⟨b, j * 3, none⟩ = some (.int .i64 y.at_)) ∧ (w'.cell? ⟨b, j * 3 + 1, none⟩ = some (.int .i64 y.id)) ∧ (w'.cell? ⟨b, j * 3 + 2, none⟩ = some (.int .i64 y.item))) := hid (fun w' hb => by
    have h1 := HQ.out.next hb
    obtain ⟨a1, a2, a3⟩ := h1.elem HXY.out.1
    obtain ⟨b1, b2, b3⟩ := h1.elem HXY.out.2
    have h2 := h1.q
    rw [HNn.out] at h2
    exact ⟨h2.cell 0, a1, a2, a3, b1, b2, b3⟩)
  go_enter Tryd.func44, Tryd.ntmps44
  go_wp2_with fail
  go_cut [6, 7] (fun t6 t7 wx => ∃ s6 s7, t6 = pt s6 ∧ t7 = pt s7 ∧ Bk wx s6 76 #[.int .i64 x.at_, .int .i64 x.id, .int .i64 x.item] ∧ Bk wx s7 76 #[.int .i64 y.at_, .int .i64 y.id, .int .i64 y.item] ∧ Below w.heap.size w wx ∧ w.heap.size ≤ s6 ∧ w.heap.size ≤ s7)
  case first =>
    refine wp_region_held_drew (S := (fun w' => (w'.cell? ⟨g, 0, none⟩ = some (.slice (some ⟨b, 0, none⟩) n cap)) ∧ (w'.cell? ⟨b, i * 3, none⟩ = some (.int .i64 x.at_)) ∧ (w'.cell? ⟨b, i * 3 + 1, none⟩ = some (.int .i64 x.id)) ∧ (w'.cell? ⟨b, i * 3 + 2, none⟩ = some (.int .i64 x.item)) ∧ (w'.cell? ⟨b, j * 3, none⟩ = some (.int .i64 y.at_)) ∧ (w'.cell? ⟨b, j * 3 + 1, none⟩ = some (.int .i64 y.id)) ∧ (w'.cell? ⟨b, j * 3 + 2, none⟩ = some (.int .i64 y.item)))) (by kernel_rfl) (HSX.out _ (Below.refl w.heap.size w).drew) (fun hHeld => ?_)
    have HBq : Hid (Below w.heap.size w w.drew) := hid ((Below.refl _ _).drew)
    have HZq : Hid (w.drew.heap.size = w.heap.size) := hid rfl
    generalize w.drew = wd0 at *
    refine wpAnyH_take (i := 0) (oi := ⟨some 8, _, _, _, _, _⟩) (v := ?_) rfl (by kernel_rfl) (by kernel_rfl) (by kernel_rfl) (fun _ _ _ h => h) (Or.inl ⟨by rfl, ?_⟩) (by assumption) ?_
    rotate_left
    focus
      intro w hSw
      try dsimp only at hSw
      go_simp
      first
      | done
      | with_reducible rfl
    try simp only [Act.put, List.setIfInBounds_toArray, List.set_cons_zero, List.set_cons_succ]
    refine wpAnyH_take (i := 1) (oi := ⟨some 9, _, _, _, _, _⟩) (v := ?_) rfl (by kernel_rfl) (by kernel_rfl) (by kernel_rfl) (fun _ _ _ h => h) (Or.inl ⟨by rfl, ?_⟩) (by assumption) ?_
    rotate_left
    focus
      intro w hSw
      try dsimp only at hSw
      go_simp
      first
      | done
      | with_reducible rfl
    try simp only [Act.put, List.setIfInBounds_toArray, List.set_cons_zero, List.set_cons_succ]
    refine wpAnyH_take (i := 2) (oi := ⟨some 10, _, _, _, _, _⟩) (v := ?_) rfl (by kernel_rfl) (by kernel_rfl) (by kernel_rfl) (fun _ _ _ h => h) (Or.inl ⟨by rfl, ?_⟩) (by assumption) ?_
    rotate_left
    focus
      intro w hSw
      try dsimp only at hSw
      go_simp
      first
      | done
      | with_reducible rfl
    try simp only [Act.put, List.setIfInBounds_toArray, List.set_cons_zero, List.set_cons_succ]
    refine wpAnyH_take (i := 3) (oi := ⟨some 11, _, _, _, _, _⟩) (v := ?_) rfl (by kernel_rfl) (by kernel_rfl) (by kernel_rfl) (fun _ _ _ h => h) (Or.inl ⟨by rfl, ?_⟩) (by assumption) ?_
    rotate_left
    focus
      intro w hSw
      try dsimp only at hSw
      go_simp
      first
      | done
      | with_reducible rfl
    try simp only [Act.put, List.setIfInBounds_toArray, List.set_cons_zero, List.set_cons_succ]
    refine wpAnyH_take (i := 4) (oi := ⟨some 12, _, _, _, _, _⟩) (v := ?_) rfl (by kernel_rfl) (by kernel_rfl) (by kernel_rfl) (fun _ _ _ h => h) (Or.inl ⟨by rfl, ?_⟩) (by assumption) ?_
    rotate_left
    focus
      intro w hSw
      try dsimp only at hSw
      go_simp
      first
      | done
      | with_reducible rfl
    try simp only [Act.put, List.setIfInBounds_toArray, List.set_cons_zero, List.set_cons_succ]
    refine wpAnyH_take (i := 5) (oi := ⟨some 13, _, _, _, _, _⟩) (v := ?_) rfl (by kernel_rfl) (by kernel_rfl) (by kernel_rfl) (fun _ _ _ h => h) (Or.inl ⟨by rfl, ?_⟩) (by assumption) ?_
    rotate_left
    focus
      intro w hSw
      try dsimp only at hSw
      go_simp
      first
      | done
      | with_reducible rfl
    try simp only [Act.put, List.setIfInBounds_toArray, List.set_cons_zero, List.set_cons_succ]
    refine wpAnyH_take (i := 6) (oi := ⟨some 14, _, _, _, _, _⟩) (v := ?_) rfl (by kernel_rfl) (by kernel_rfl) (by kernel_rfl) (fun _ _ _ h => h) (Or.inl ⟨by rfl, ?_⟩) (by assumption) ?_
    rotate_left
    focus
      intro w hSw
      try dsimp only at hSw
      go_simp
      first
      | done
      | with_reducible rfl
    try simp only [Act.put, List.setIfInBounds_toArray, List.set_cons_zero, List.set_cons_succ]
    refine wpAnyH_take (i := 7) (oi := ⟨some 15, _, _, _, _, _⟩) (v := ?_) rfl (by kernel_rfl) (by kernel_rfl) (by kernel_rfl) (fun _ _ _ h => h) (Or.inl ⟨by rfl, ?_⟩) (by assumption) ?_
    rotate_left
    focus
      intro w hSw
      try dsimp only at hSw
      go_simp
      first
      | done
      | with_reducible rfl
    try simp only [Act.put, List.setIfInBounds_toArray, List.set_cons_zero, List.set_cons_succ]
    refine wpAnyH_take (i := 8) (oi := ⟨some 16, _, _, _, _, _⟩) (v := ?_) rfl (by kernel_rfl) (by kernel_rfl) (by kernel_rfl) (fun _ _ _ h => h) (Or.inl ⟨by rfl, ?_⟩) (by assumption) ?_
    rotate_left
    focus
      intro w hSw
      try dsimp only at hSw
      go_simp
      first
      | done
      | with_reducible rfl
    try simp only [Act.put, List.setIfInBounds_toArray, List.set_cons_zero, List.set_cons_succ]
    refine wpAnyH_take (i := 9) (oi := ⟨some 17, _, _, _, _, _⟩) (v := ?_) rfl (by kernel_rfl) (by kernel_rfl) (by kernel_rfl) (fun _ _ _ h => h) (Or.inl ⟨by rfl, ?_⟩) (by assumption) ?_
    rotate_left
    focus
      intro w hSw
      try dsimp only at hSw
      go_simp
      first
      | done
      | with_reducible rfl
    try simp only [Act.put, List.setIfInBounds_toArray, List.set_cons_zero, List.set_cons_succ]
    refine wpAnyH_take (i := 10) (oi := ⟨some 18, _, _, _, _, _⟩) (v := ?_) rfl (by kernel_rfl) (by kernel_rfl) (by kernel_rfl) (fun _ _ _ h => h) (Or.inl ⟨by rfl, ?_⟩) (by assumption) ?_
    rotate_left
    focus
      intro w hSw
      try dsimp only at hSw
      go_simp
      first
      | done
      | with_reducible rfl
    try simp only [Act.put, List.setIfInBounds_toArray, List.set_cons_zero, List.set_cons_succ]
    refine wpAnyH_take (i := 11) (oi := ⟨some 19, _, _, _, _, _⟩) (v := ?_) rfl (by kernel_rfl) (by kernel_rfl) (by kernel_rfl) (fun _ _ _ h => h) (Or.inl ⟨by rfl, ?_⟩) (by assumption) ?_
    rotate_left
    focus
      intro w hSw
      try dsimp only at hSw
      go_simp
      first
      | done
      | with_reducible rfl
    try simp only [Act.put, List.setIfInBounds_toArray, List.set_cons_zero, List.set_cons_succ]
    refine wpAnyH_take (i := 12) (oi := ⟨some 20, _, _, _, _, _⟩) (v := ?_) rfl (by kernel_rfl) (by kernel_rfl) (by kernel_rfl) (fun _ _ _ h => h) (Or.inl ⟨by rfl, ?_⟩) (by assumption) ?_
    rotate_left
    focus
      intro w hSw
      try dsimp only at hSw
      go_simp
      first
      | done
      | with_reducible rfl
    try simp only [Act.put, List.setIfInBounds_toArray, List.set_cons_zero, List.set_cons_succ]
    refine wpAnyH_take (i := 13) (oi := ⟨some 21, _, _, _, _, _⟩) (v := ?_) rfl (by kernel_rfl) (by kernel_rfl) (by kernel_rfl) (fun _ _ _ h => h) (Or.inl ⟨by rfl, ?_⟩) (by assumption) ?_
    rotate_left
    focus
      intro w hSw
      try dsimp only at hSw
      go_simp
      first
      | done
      | with_reducible rfl
    try simp only [Act.put, List.setIfInBounds_toArray, List.set_cons_zero, List.set_cons_succ]
    refine wpAnyH_ready (rs := [14, 15]) (by kernel_rfl) (by simp) ?_
    refine AllReadyH.cons (o := ⟨some 6, _, _, _, _, _⟩) rfl (fun K hK => ?_) (AllReadyH.cons (o := ⟨some 7, _, _, _, _, _⟩) rfl (fun K hK => ?_) AllReadyH.nil)
    · go_simp
      have KA6 := hid (Bk.new wd0 76 #[.int .i64 0, .int .i64 0, .int .i64 0])
      have HS6 := hid (show w.heap.size ≤ wd0.heap.size from HBq.out.size)
      replace HBq := hid (HBq.out.alloc HBq.out.size (.cells #[.int .i64 0, .int .i64 0, .int .i64 0] 76))
      generalize wd0.alloc (.cells #[.int .i64 0, .int .i64 0, .int .i64 0] 76) = wq0 at *
      generalize wd0.heap.size = s6 at *
      have HL6 := hid KA6.out.lt
      refine hK.out _ _ (HSX.out _ HBq.out) (fun hHeld => ?_)
      clear hK K
      try simp only [Act.put, List.setIfInBounds_toArray, List.set_cons_zero, List.set_cons_succ]
      refine wpAnyH_ready (rs := [15]) (by kernel_rfl) (by simp) ?_
      refine AllReadyH.cons (o := ⟨some 7, _, _, _, _, _⟩) rfl (fun K hK => ?_) AllReadyH.nil
      go_simp
      have KA7 := hid (Bk.new wq0 76 #[.int .i64 0, .int .i64 0, .int .i64 0])
      have HS7 := hid (show w.heap.size ≤ wq0.heap.size from HBq.out.size)
      replace KA6 := hid (KA6.out.alloc (.cells #[.int .i64 0, .int .i64 0, .int .i64 0] 76))
      have HD := hid (show s6 ≠ wq0.heap.size from Nat.ne_of_lt HL6.out)
      replace HBq := hid (HBq.out.alloc HBq.out.size (.cells #[.int .i64 0, .int .i64 0, .int .i64 0] 76))
      generalize wq0.alloc (.cells #[.int .i64 0, .int .i64 0, .int .i64 0] 76) = wq1 at *
      generalize wq0.heap.size = s7 at *
      have HL7 := hid KA7.out.lt
      refine hK.out _ _ (HSX.out _ HBq.out) (fun hHeld => ?_)
      clear hK K
      try simp only [Act.put, List.setIfInBounds_toArray, List.set_cons_zero, List.set_cons_succ]
      refine wpAnyH_ready (rs := [16]) (by kernel_rfl) (by simp) ?_
      refine AllReadyH.cons (o := ⟨none, _, _, _, _, _⟩) rfl (fun K hK => ?_) AllReadyH.nil
      obtain ⟨z0, z1, z2⟩ := bk3 KA6.out
      have f0 := KA6.out.free 0
      have f1 := KA6.out.free 1
      have f2 := KA6.out.free 2
      go_simp
      replace KA6 := hid (bk3set KA6.out x)
      replace HBq := hid (((HBq.out.setCell (p := ⟨s6, 0, none⟩) HS6.out (.int .i64 x.at_)).setCell (p := ⟨s6, 1, none⟩) HS6.out (.int .i64 x.id)).setCell (p := ⟨s6, 2, none⟩) HS6.out (.int .i64 x.item))
      replace KA7 := hid (((KA7.out.far (p := ⟨s6, 0, none⟩) (by have := HD.out; dsimp only; omega) (.int .i64 x.at_)).far (p := ⟨s6, 1, none⟩) (by have := HD.out; dsimp only; omega) (.int .i64 x.id)).far (p := ⟨s6, 2, none⟩) (by have := HD.out; dsimp only; omega) (.int .i64 x.item))
      clear z0 z1 z2 f0 f1 f2
      generalize (((wq1.setCell ⟨s6, 0, none⟩ (.int .i64 x.at_)).setCell ⟨s6, 1, none⟩ (.int .i64 x.id)).setCell ⟨s6, 2, none⟩ (.int .i64 x.item)) = wq2 at *
      refine hK.out _ _ (HSX.out _ HBq.out) (fun hHeld => ?_)
      clear hK K
      try simp only [Act.put, List.setIfInBounds_toArray, List.set_cons_zero, List.set_cons_succ]
      refine wpAnyH_ready (rs := [17]) (by kernel_rfl) (by simp) ?_
      refine AllReadyH.cons (o := ⟨none, _, _, _, _, _⟩) rfl (fun K hK => ?_) AllReadyH.nil
      obtain ⟨z0, z1, z2⟩ := bk3 KA7.out
      have f0 := KA7.out.free 0
      have f1 := KA7.out.free 1
      have f2 := KA7.out.free 2
      go_simp
      replace KA7 := hid (bk3set KA7.out y)
      replace HBq := hid (((HBq.out.setCell (p := ⟨s7, 0, none⟩) HS7.out (.int .i64 y.at_)).setCell (p := ⟨s7, 1, none⟩) HS7.out (.int .i64 y.id)).setCell (p := ⟨s7, 2, none⟩) HS7.out (.int .i64 y.item))
      replace KA6 := hid (((KA6.out.far (p := ⟨s7, 0, none⟩) (by have := HD.out; dsimp only; omega) (.int .i64 y.at_)).far (p := ⟨s7, 1, none⟩) (by have := HD.out; dsimp only; omega) (.int .i64 y.id)).far (p := ⟨s7, 2, none⟩) (by have := HD.out; dsimp only; omega) (.int .i64 y.item))
      clear z0 z1 z2 f0 f1 f2
      generalize (((wq2.setCell ⟨s7, 0, none⟩ (.int .i64 y.at_)).setCell ⟨s7, 1, none⟩ (.int .i64 y.id)).setCell ⟨s7, 2, none⟩ (.int .i64 y.item)) = wq3 at *
      refine hK.out _ _ (HSX.out _ HBq.out) (fun hHeld => ?_)
      clear hK K
      try simp only [Act.put, List.setIfInBounds_toArray, List.set_cons_zero, List.set_cons_succ]
      refine wpAnyH_done (by kernel_rfl) ?_ _
      go_wp2_with fail
      go_meet
      exact ⟨s6, s7, rfl, rfl, KA6.out, KA7.out, HBq.out, HS6.out, HS7.out⟩
    · go_simp
      have KA7 := hid (Bk.new wd0 76 #[.int .i64 0, .int .i64 0, .int .i64 0])
      have HS7 := hid (show w.heap.size ≤ wd0.heap.size from HBq.out.size)
      replace HBq := hid (HBq.out.alloc HBq.out.size (.cells #[.int .i64 0, .int .i64 0, .int .i64 0] 76))
      generalize wd0.alloc (.cells #[.int .i64 0, .int .i64 0, .int .i64 0] 76) = wq0 at *
      generalize wd0.heap.size = s7 at *
      have HL7 := hid KA7.out.lt
      refine hK.out _ _ (HSX.out _ HBq.out) (fun hHeld => ?_)
      clear hK K
      try simp only [Act.put, List.setIfInBounds_toArray, List.set_cons_zero, List.set_cons_succ]
      refine wpAnyH_ready (rs := [14]) (by kernel_rfl) (by simp) ?_
      refine AllReadyH.cons (o := ⟨some 6, _, _, _, _, _⟩) rfl (fun K hK => ?_) AllReadyH.nil
      go_simp
      have KA6 := hid (Bk.new wq0 76 #[.int .i64 0, .int .i64 0, .int .i64 0])
      have HS6 := hid (show w.heap.size ≤ wq0.heap.size from HBq.out.size)
      replace KA7 := hid (KA7.out.alloc (.cells #[.int .i64 0, .int .i64 0, .int .i64 0] 76))
      have HD := hid (show s7 ≠ wq0.heap.size from Nat.ne_of_lt HL7.out)
      replace HBq := hid (HBq.out.alloc HBq.out.size (.cells #[.int .i64 0, .int .i64 0, .int .i64 0] 76))
      generalize wq0.alloc (.cells #[.int .i64 0, .int .i64 0, .int .i64 0] 76) = wq1 at *
      generalize wq0.heap.size = s6 at *
      have HL6 := hid KA6.out.lt
      refine hK.out _ _ (HSX.out _ HBq.out) (fun hHeld => ?_)
      clear hK K
      try simp only [Act.put, List.setIfInBounds_toArray, List.set_cons_zero, List.set_cons_succ]
      refine wpAnyH_ready (rs := [16]) (by kernel_rfl) (by simp) ?_
      refine AllReadyH.cons (o := ⟨none, _, _, _, _, _⟩) rfl (fun K hK => ?_) AllReadyH.nil
      obtain ⟨z0, z1, z2⟩ := bk3 KA6.out
      have f0 := KA6.out.free 0
      have f1 := KA6.out.free 1
      have f2 := KA6.out.free 2
      go_simp
      replace KA6 := hid (bk3set KA6.out x)
      replace HBq := hid (((HBq.out.setCell (p := ⟨s6, 0, none⟩) HS6.out (.int .i64 x.at_)).setCell (p := ⟨s6, 1, none⟩) HS6.out (.int .i64 x.id)).setCell (p := ⟨s6, 2, none⟩) HS6.out (.int .i64 x.item))
      replace KA7 := hid (((KA7.out.far (p := ⟨s6, 0, none⟩) (by have := HD.out; dsimp only; omega) (.int .i64 x.at_)).far (p := ⟨s6, 1, none⟩) (by have := HD.out; dsimp only; omega) (.int .i64 x.id)).far (p := ⟨s6, 2, none⟩) (by have := HD.out; dsimp only; omega) (.int .i64 x.item))
      clear z0 z1 z2 f0 f1 f2
      generalize (((wq1.setCell ⟨s6, 0, none⟩ (.int .i64 x.at_)).setCell ⟨s6, 1, none⟩ (.int .i64 x.id)).setCell ⟨s6, 2, none⟩ (.int .i64 x.item)) = wq2 at *
      refine hK.out _ _ (HSX.out _ HBq.out) (fun hHeld => ?_)
      clear hK K
      try simp only [Act.put, List.setIfInBounds_toArray, List.set_cons_zero, List.set_cons_succ]
      refine wpAnyH_ready (rs := [17]) (by kernel_rfl) (by simp) ?_
      refine AllReadyH.cons (o := ⟨none, _, _, _, _, _⟩) rfl (fun K hK => ?_) AllReadyH.nil
      obtain ⟨z0, z1, z2⟩ := bk3 KA7.out
      have f0 := KA7.out.free 0
      have f1 := KA7.out.free 1
      have f2 := KA7.out.free 2
      go_simp
      replace KA7 := hid (bk3set KA7.out y)
      replace HBq := hid (((HBq.out.setCell (p := ⟨s7, 0, none⟩) HS7.out (.int .i64 y.at_)).setCell (p := ⟨s7, 1, none⟩) HS7.out (.int .i64 y.id)).setCell (p := ⟨s7, 2, none⟩) HS7.out (.int .i64 y.item))
      replace KA6 := hid (((KA6.out.far (p := ⟨s7, 0, none⟩) (by have := HD.out; dsimp only; omega) (.int .i64 y.at_)).far (p := ⟨s7, 1, none⟩) (by have := HD.out; dsimp only; omega) (.int .i64 y.id)).far (p := ⟨s7, 2, none⟩) (by have := HD.out; dsimp only; omega) (.int .i64 y.item))
      clear z0 z1 z2 f0 f1 f2
      generalize (((wq2.setCell ⟨s7, 0, none⟩ (.int .i64 y.at_)).setCell ⟨s7, 1, none⟩ (.int .i64 y.id)).setCell ⟨s7, 2, none⟩ (.int .i64 y.item)) = wq3 at *
      refine hK.out _ _ (HSX.out _ HBq.out) (fun hHeld => ?_)
      clear hK K
      try simp only [Act.put, List.setIfInBounds_toArray, List.set_cons_zero, List.set_cons_succ]
      refine wpAnyH_done (by kernel_rfl) ?_ _
      go_wp2_with fail
      go_meet
      exact ⟨s6, s7, rfl, rfl, KA6.out, KA7.out, HBq.out, HS6.out, HS7.out⟩
  case rest =>
    obtain ⟨s6, s7, rfl, rfl, K6, K7, hb, hs6, hs7⟩ := hcut
    have HM0 := hid (HQ.out.next hb)
    have HB0 := hid hb
    obtain ⟨y0, y1, y2⟩ := bk3 K7
    have HK6 := hid K6
    clear hb K6 K7 HSX
    go_wp2_with fail
    have P1 := hid (put_any g b m cap i y L Y N lim tm pu wc HM0.out (by rw [HNn.out]; exact hi) (by rw [HNn.out]; exact hL) HII.out.2 (by omega))
    refine P1.out.mono ?_
    rintro e w1 ⟨rfl, M1, F1⟩
    have HM1 := hid M1
    have HF1 := hid F1
    have HK1 := hid (F1.bk HK6.out (by rintro (h | h | h) <;> omega))
    obtain ⟨x0, x1, x2⟩ := bk3 HK1.out
    clear M1 F1 P1 y0 y1 y2
    go_wp2_with fail
    have P2 := hid (put_any g b m cap j x (L.set i y) Y (N + 1) lim tm pu w1 HM1.out (by rw [List.length_set, HNn.out]; exact hj) (by rw [List.length_set, HNn.out]; exact hL) HII.out.1 (by omega))
    refine P2.out.mono ?_
    rintro e w2 ⟨rfl, M2, F2⟩
    have HM2 := hid M2
    have HF2 := hid F2
    clear M2 F2 P2 x0 x1 x2
    go_wp2_with fail
    go_end0
    exact ⟨rfl, HSW.out ▸ HM2.out, ((Fr.of_below HB0.out).trans HF1.out).trans HF2.out⟩
end Go.Proofs.YtjeojnlkjecojaaDoor
