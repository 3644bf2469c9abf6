/- remove of package agenda. -/
import Derived.Test.YtjeojnlkjecojaaDoorLinkH6
namespace Go.Proofs.YtjeojnlkjecojaaDoor
open Go Go.RowKit Go.WideElems Go.Maps
open Hp
theorem HpM.cut {w : World} {g b m cap n N : Nat} {L : List Ev} {Y : List Value} {lim tm pu : Int} (h : HpM w g b m cap L Y N lim tm pu) (hl : L.length = n + 1) :
    HpM (w.setCell ⟨g, 0, none⟩ (.slice (some ⟨b, 0, none⟩) n cap)) g b m cap (L.take n) ((ecells L).drop (n * 3) ++ Y) N lim tm pu := by
  obtain ⟨D, hD⟩ := h.mp
  have e : ecells (L.take n) ++ ((ecells L).drop (n * 3) ++ Y) = ecells L ++ Y := by
    rw [← ecells_take, ← List.append_assoc, List.take_append_drop]
  refine ⟨?_, ?_, by rw [e]; exact h.sz, ⟨D, hD.setCell (fun e => h.gm e.symm) _⟩, h.gb, h.gm, h.bm, h.cm⟩
  · have := h.q.put 0 (.slice (some ⟨b, 0, none⟩) n cap)
    rw [List.length_take, hl, Nat.min_eq_left (by omega)]
    exact this
  · rw [e]
    exact h.l.far (fun e => h.gb e.symm) _
def RmP (w : World) (g b m cap n : Nat) (L : List Ev) (N : Nat) (lim tm pu : Int) (e : Ending) (w' : World) : Prop :=
  e = .returned (.tuple #[]) ∧ ∃ L' Y' N', HpM w' g b m cap L' Y' N' lim tm pu ∧ (L' ++ [L.getD 0 ev0]).Perm L ∧ HeapF (ats L') L'.length ∧ N' ≤ N + 2 + 2 * n ∧ Fr (Qs g b m) w w'
set_option maxHeartbeats 4000000 in
theorem remove_any (g b m cap n : Nat) (L : List Ev) (Y : List Value) (N : Nat) (lim tm pu : Int) (w : World) (H : HpM w g b m cap L Y N lim tm pu) (hl : L.length = n + 1) (hh : HeapF (ats L) L.length) (hL : n + 1 ≤ 1000) (hid_ : ∀ x ∈ L, 0 ≤ x.id ∧ x.id ≤ 1000000) (hN : N + 2 * n + 10 ≤ 900000) :
    Calls Tryd.prog 41 #[pt g, .int .i64 0] w (RmP w g b m cap n L N lim tm pu) := by
  have HQ := hid H
  have HL := hid hl
  have HID := hid hid_
  have HH := hid (show HeapF (ats L) (n + 1) by rw [← hl]; exact hh)
  have hcap : n + 1 ≤ cap := by
    have := H.sz
    rw [List.length_append, ecells_len] at this
    omega
  have SW := hid (swap_any g b m cap 0 n L Y N lim tm pu w H (by omega) (by omega) (by omega) hid_ (by omega))
  have c0 := H.q.cell 0
  simp only [List.getElem?_toArray, List.getElem?_cons_zero] at c0
  rw [hl] at c0
  have hs2 : (swp L 0 n).length = n + 1 := by rw [swp_len]; exact hl
  obtain ⟨z, hz⟩ : ∃ z, (swp L 0 n)[n]? = some z := ⟨_, List.getElem?_eq_getElem (by omega)⟩
  have HS2 := hid hs2
  have HPS := hid (swp_perm (L := L) (i := 0) (j := n) (by omega) (by omega))
  have HZ := hid hz
  have HWz := hid (wfI (HID.out z (HPS.out.mem_iff.1 (List.mem_of_getElem? hz))).1 (HID.out z (HPS.out.mem_iff.1 (List.mem_of_getElem? hz))).2)
  have KY := hid (fun w => key_any z w)
  clear H hl hid_ hh hs2 hz
  go_enter Tryd.func41, Tryd.ntmps41
  go_wp2_with fail
  refine SW.out.mono ?_
  rintro e w1 ⟨rfl, M1, F1⟩
  have HM1 := hid M1
  have HF1 := hid F1
  clear M1 F1 SW c0
  have HSX : Hid (∀ w2, Below w1.heap.size w1 w2 → ∀ {w' : World}, Fr (· = m) w2 w' → (w'.cell? ⟨g, 0, none⟩ = some (.slice (some ⟨b, 0, none⟩) (n + 1) cap)) ∧ (w'.cell? ⟨g, 1, none⟩ = some (.map (some m))) ∧ (w'.cell? ⟨b, n * 3, none⟩ = some (.int .i64 z.at_)) ∧ (w'.cell? ⟨b, n * 3 + 1, none⟩ = some (.int .i64 z.id)) ∧ (w'.cell? ⟨b, n * 3 + 2, none⟩ = some (.int .i64 z.item))) := hid (fun w2 hb w' F => by
    have h1 := HM1.out.next hb
    have h2 := F.bk h1.q h1.gm
    have h3 := F.bk h1.l h1.bm
    obtain ⟨a1, a2, a3⟩ := h1.elem HZ.out
    rw [h1.l.cell] at a1 a2 a3
    rw [HS2.out] at h2
    exact ⟨h2.cell 0, h2.cell 1, by rw [h3.cell]; exact a1, by rw [h3.cell]; exact a2, by rw [h3.cell]; exact a3⟩)
  have MK := mkI76
  have MC := key76
  go_wp2_with fail
  have hnn1 : ((n : Int) < (n : Int) + 1) = True := eq_true (by omega)
  have HD0 : Hid (Below w1.heap.size w1 w1.drew) := hid ((Below.refl _ _).drew)
  refine wp_region_held_drew (S := (fun w' => (w'.cell? ⟨g, 0, none⟩ = some (.slice (some ⟨b, 0, none⟩) (n + 1) cap)) ∧ (w'.cell? ⟨g, 1, none⟩ = some (.map (some m))) ∧ (w'.cell? ⟨b, n * 3, none⟩ = some (.int .i64 z.at_)) ∧ (w'.cell? ⟨b, n * 3 + 1, none⟩ = some (.int .i64 z.id)) ∧ (w'.cell? ⟨b, n * 3 + 2, none⟩ = some (.int .i64 z.item)))) (by kernel_rfl) (HSX.out _ HD0.out (Fr.refl _ _)) (fun hHeld => ?_)
  generalize w1.drew = wd0 at *
  refine wpAnyH_take (i := 0) (oi := ⟨some 15, _, _, _, _, _⟩) (v := ?_) rfl (by kernel_rfl) (by kernel_rfl) (by kernel_rfl) (fun _ _ _ h => h) (Or.inl ⟨by rfl, ?_⟩) (by assumption) ?_
  rotate_left
  focus
    intro w hSw
    try dsimp only at hSw
    go_simp
    first
    | done
    | with_reducible rfl
  try simp only [Act.put, List.setIfInBounds_toArray, List.set_cons_zero, List.set_cons_succ]
  refine wpAnyH_take (i := 1) (oi := ⟨some 16, _, _, _, _, _⟩) (v := ?_) rfl (by kernel_rfl) (by kernel_rfl) (by kernel_rfl) (fun _ _ _ h => h) (Or.inl ⟨by rfl, ?_⟩) (by assumption) ?_
  rotate_left
  focus
    intro w hSw
    try dsimp only at hSw
    go_simp
    first
    | done
    | with_reducible rfl
  try simp only [Act.put, List.setIfInBounds_toArray, List.set_cons_zero, List.set_cons_succ]
  refine wpAnyH_take (i := 2) (oi := ⟨some 17, _, _, _, _, _⟩) (v := ?_) rfl (by kernel_rfl) (by kernel_rfl) (by kernel_rfl) (fun _ _ _ h => h) (Or.inl ⟨by rfl, ?_⟩) (by assumption) ?_
  rotate_left
  focus
    intro w hSw
    try dsimp only at hSw
    go_simp
    first
    | done
    | with_reducible rfl
  try simp only [Act.put, List.setIfInBounds_toArray, List.set_cons_zero, List.set_cons_succ]
  refine wpAnyH_take (i := 3) (oi := ⟨some 18, _, _, _, _, _⟩) (v := ?_) rfl (by kernel_rfl) (by kernel_rfl) (by kernel_rfl) (fun _ _ _ h => h) (Or.inl ⟨by rfl, ?_⟩) (by assumption) ?_
  rotate_left
  focus
    intro w hSw
    try dsimp only at hSw
    go_simp
    first
    | done
    | with_reducible rfl
  try simp only [Act.put, List.setIfInBounds_toArray, List.set_cons_zero, List.set_cons_succ]
  refine wpAnyH_take (i := 4) (oi := ⟨some 19, _, _, _, _, _⟩) (v := ?_) rfl (by kernel_rfl) (by kernel_rfl) (by kernel_rfl) (fun _ _ _ h => h) (Or.inl ⟨by rfl, ?_⟩) (by assumption) ?_
  rotate_left
  focus
    intro w hSw
    try dsimp only at hSw
    go_simp
    first
    | done
    | with_reducible rfl
  try simp only [Act.put, List.setIfInBounds_toArray, List.set_cons_zero, List.set_cons_succ]
  refine wpAnyH_take (i := 5) (oi := ⟨some 20, _, _, _, _, _⟩) (v := ?_) rfl (by kernel_rfl) (by kernel_rfl) (by kernel_rfl) (fun _ _ _ h => h) (Or.inl ⟨by rfl, ?_⟩) (by assumption) ?_
  rotate_left
  focus
    intro w hSw
    try dsimp only at hSw
    go_simp
    first
    | done
    | with_reducible rfl
  try simp only [Act.put, List.setIfInBounds_toArray, List.set_cons_zero, List.set_cons_succ]
  refine wpAnyH_take (i := 6) (oi := ⟨some 21, _, _, _, _, _⟩) (v := ?_) rfl (by kernel_rfl) (by kernel_rfl) (by kernel_rfl) (fun _ _ _ h => h) (Or.inl ⟨by rfl, ?_⟩) (by assumption) ?_
  rotate_left
  focus
    intro w hSw
    try dsimp only at hSw
    go_simp
    first
    | done
    | with_reducible rfl
  try simp only [Act.put, List.setIfInBounds_toArray, List.set_cons_zero, List.set_cons_succ]
  refine wpAnyH_take (i := 7) (oi := ⟨some 22, _, _, _, _, _⟩) (v := ?_) rfl (by kernel_rfl) (by kernel_rfl) (by kernel_rfl) (fun _ _ _ h => h) (Or.inl ⟨by rfl, ?_⟩) (by assumption) ?_
  rotate_left
  focus
    intro w hSw
    try dsimp only at hSw
    go_simp
    first
    | done
    | with_reducible rfl
  try simp only [Act.put, List.setIfInBounds_toArray, List.set_cons_zero, List.set_cons_succ]
  refine wpAnyH_take (i := 8) (oi := ⟨some 23, _, _, _, _, _⟩) (v := ?_) rfl (by kernel_rfl) (by kernel_rfl) (by kernel_rfl) (fun _ _ _ h => h) (Or.inl ⟨by rfl, ?_⟩) (by assumption) ?_
  rotate_left
  focus
    intro w hSw
    try dsimp only at hSw
    go_simp
    first
    | done
    | with_reducible rfl
  try simp only [Act.put, List.setIfInBounds_toArray, List.set_cons_zero, List.set_cons_succ]
  refine wpAnyH_take (i := 9) (oi := ⟨some 24, _, _, _, _, _⟩) (v := ?_) rfl (by kernel_rfl) (by kernel_rfl) (by kernel_rfl) (fun _ _ _ h => h) (Or.inl ⟨by rfl, ?_⟩) (by assumption) ?_
  rotate_left
  focus
    intro w hSw
    try dsimp only at hSw
    go_simp
    first
    | done
    | with_reducible rfl
  try simp only [Act.put, List.setIfInBounds_toArray, List.set_cons_zero, List.set_cons_succ]
  refine wpAnyH_take (i := 10) (oi := ⟨some 25, _, _, _, _, _⟩) (v := ?_) rfl (by kernel_rfl) (by kernel_rfl) (by kernel_rfl) (fun _ _ _ h => h) (Or.inl ⟨by rfl, ?_⟩) (by assumption) ?_
  rotate_left
  focus
    intro w hSw
    try dsimp only at hSw
    go_simp
    first
    | done
    | with_reducible rfl
  try simp only [Act.put, List.setIfInBounds_toArray, List.set_cons_zero, List.set_cons_succ]
  refine wpAnyH_take (i := 11) (oi := ⟨some 26, _, _, _, _, _⟩) (v := ?_) rfl (by kernel_rfl) (by kernel_rfl) (by kernel_rfl) (fun _ _ _ h => h) (Or.inl ⟨by rfl, ?_⟩) (by assumption) ?_
  rotate_left
  focus
    intro w hSw
    try dsimp only at hSw
    go_simp
    first
    | done
    | with_reducible rfl
  try simp only [Act.put, List.setIfInBounds_toArray, List.set_cons_zero, List.set_cons_succ]
  refine wpAnyH_ready (rs := [12]) (by kernel_rfl) (by simp) ?_
  refine AllReadyH.cons (o := ⟨some 27, _, _, _, _, _⟩) rfl (fun K hK => ?_) AllReadyH.nil
  go_simp
  refine (KY.out _).mono ?_
  rintro e wq ⟨rfl, hbq⟩
  have HBq := hid (HD0.out.trans (hbq.mono HD0.out.size))
  clear hbq
  refine hK.out _ _ (HSX.out _ HBq.out (Fr.refl _ _)) (fun hHeld => ?_)
  clear hK K
  try simp only [Act.put, List.setIfInBounds_toArray, List.set_cons_zero, List.set_cons_succ]
  refine wpAnyH_ready (rs := [13]) (by kernel_rfl) (by simp) ?_
  refine AllReadyH.cons (o := ⟨none, _, _, _, _, _⟩) rfl (fun K hK => ?_) AllReadyH.nil
  obtain ⟨D, hD⟩ := (HM1.out.next HBq.out).mp
  obtain ⟨we, hrun, hown, htn⟩ := hD.drop (key := .int .i64 z.id) (int_keyed Tryd.underlying3) Tryd.underlying69 (keyOf_int_mk Tryd.underlying3 HWz.out) 0
  have HFe := hid (Fr.grown (S := (· = m)) htn.grown rfl)
  have HOe := hid hown
  clear hown htn hD
  go_simp
  clear hrun
  refine hK.out _ _ (HSX.out _ HBq.out HFe.out) (fun hHeld => ?_)
  clear hK K
  try simp only [Act.put, List.setIfInBounds_toArray, List.set_cons_zero, List.set_cons_succ]
  refine wpAnyH_done (by kernel_rfl) ?_ _
  clear hHeld HSX MK MC KY HD0 hnn1
  have HM2 : Hid (HpM we g b m cap (swp L 0 n) Y (N + 2) lim tm pu) := hid (by
    have HMd := HM1.out.next HBq.out
    exact ⟨HFe.out.bk HMd.q HMd.gm, HFe.out.bk HMd.l HMd.bm, HMd.sz, ⟨_, HOe.out⟩, HMd.gb, HMd.gm, HMd.bm, HMd.cm⟩)
  have HF2 : Hid (Fr (Qs g b m) w we) := hid ((HF1.out.trans (Fr.of_below HBq.out)).trans (HFe.out.sub (fun k e => .inr (.inr e))))
  have HM3 := hid (HM2.out.cut HS2.out)
  have HF3 := hid (HF2.out.trans (Fr.put (S := Qs g b m) (p := ⟨g, 0, none⟩) (.inl rfl) (.slice (some ⟨b, 0, none⟩) n cap)))
  have c0 := HM2.out.q.cell 0
  simp only [List.getElem?_toArray, List.getElem?_cons_zero] at c0
  rw [HS2.out] at c0
  have f0 := HM2.out.q.free 0
  have hncap : n ≤ cap := by omega
  have HLt : Hid (((swp L 0 n).take n).length = n) := hid (by rw [List.length_take, HS2.out]; omega)
  have HCP := hid (cut_perm (L := L) (n := n) HL.out)
  have HDn := hid (cut_down (L := L) (n := n) HL.out HH.out)
  have HI2 := hid (show ∀ x ∈ (swp L 0 n).take n, 0 ≤ x.id ∧ x.id ≤ 1000000 from fun x hx => HID.out x (HPS.out.mem_iff.1 (List.mem_of_mem_take hx)))
  clear HBq HFe HOe HM1 HF1
  by_cases hn0 : n = 0
  · subst hn0
    go_wp2_with fail
    go_end0
    exact ⟨rfl, _, _, N + 2, HM3.out, HCP.out, fun j h1 h2 => by rw [HLt.out] at h2; omega, by omega, HF3.out⟩
  · have hn1 : 0 < (n : Int) := by omega
    go_wp2_with fail
    generalize we.setCell ⟨g, 0, none⟩ (.slice (some ⟨b, 0, none⟩) n cap) = wf at *
    have DN := hid (down_any g b m cap ((swp L 0 n).take n) _ (N + 2) lim tm pu wf HM3.out (by rw [HLt.out]; omega) (by rw [HLt.out]; omega) HI2.out (by rw [HLt.out]; omega) (by rw [HLt.out]; exact HDn.out))
    refine DN.out.mono ?_
    rintro e w5 ⟨rfl, L5, N5, P5, hh5, hN5, M5, F5⟩
    rw [HLt.out] at hN5
    have hl5 : L5.length = n := by rw [P5.length_eq, HLt.out]
    have H5 := hid (And.intro P5 (And.intro hh5 (And.intro M5 F5)))
    have UPC := hid (up_any g b m cap 0 L5 _ N5 lim tm pu w5 M5 (by omega) (by omega) (fun x hx => HI2.out x (P5.mem_iff.1 hx)) (by omega) ⟨fun j h1 h2 _ => hh5 j h1 h2, fun h => by omega⟩)
    clear P5 hh5 M5 F5 DN c0 f0
    go_wp2_with fail
    refine UPC.out.mono ?_
    rintro e w6 ⟨rfl, L6, N6, P6, hh6, hN6, M6, F6⟩
    have H6 := hid (And.intro P6 (And.intro hh6 (And.intro M6 F6)))
    clear P6 hh6 M6 F6 UPC
    go_wp2_with fail
    go_end0
    obtain ⟨P5, _, _, F5⟩ := H5.out
    obtain ⟨P6, hh6, M6, F6⟩ := H6.out
    exact ⟨rfl, L6, _, N6, M6, ((P6.trans P5).append_right _).trans HCP.out, hh6, by omega, (HF3.out.trans F5).trans F6⟩
end Go.Proofs.YtjeojnlkjecojaaDoor
