/- put of package agenda. -/
import Derived.Test.YtjeojnlkjecojaaDoorLinkH1
import Derived.Deep.RegionHeld3
namespace Go.Proofs.YtjeojnlkjecojaaDoor
open Go Go.RowKit Go.WideElems Go.Maps
open Hp
theorem wfI {a : Int} (h0 : 0 ≤ a) (h1 : a ≤ 1000000) : (Lit.int .i64 a).wf = true := by
  unfold Lit.wf
  rw [Bool.and_eq_true]
  refine ⟨decide_eq_true ?_, decide_eq_true ?_⟩
  · show (-9223372036854775808 : Int) ≤ a
    omega
  · show a ≤ (9223372036854775807 : Int)
    omega
theorem fr_put3 (w : World) (b i : Nat) (x : Ev) : Fr (· = b) w (((w.setCell ⟨b, i * 3, none⟩ (.int .i64 x.at_)).setCell ⟨b, i * 3 + 1, none⟩ (.int .i64 x.id)).setCell ⟨b, i * 3 + 2, none⟩ (.int .i64 x.item)) :=
  ((Fr.put (S := (· = b)) (p := ⟨b, i * 3, none⟩) rfl _).trans (Fr.put (S := (· = b)) (p := ⟨b, i * 3 + 1, none⟩) rfl _)).trans (Fr.put (S := (· = b)) (p := ⟨b, i * 3 + 2, none⟩) rfl _)
theorem Fr.sub {S T : Nat → Prop} {w w' : World} (h : Fr S w w') (hs : ∀ k, S k → T k) : Fr T w w' := ⟨h.os, h.tape, h.output, h.size, fun k hk hn => h.block k hk (fun e => hn (hs k e))⟩
set_option maxHeartbeats 2000000 in
theorem put_any (g b m cap i : Nat) (x : Ev) (L : List Ev) (Y : List Value) (N : Nat) (lim tm pu : Int) (w : World) (H : HpM w g b m cap L Y N lim tm pu) (hi : i < L.length) (hL : L.length ≤ 1000) (hx : 0 ≤ x.id ∧ x.id ≤ 1000000) (hN : N ≤ 1000000) :
    Calls Tryd.prog 42 #[pt g, .int .i64 (i : Int), evV x] w fun e w' => e = .returned (.tuple #[]) ∧ HpM w' g b m cap (L.set i x) Y (N + 1) lim tm pu ∧ Fr (Qs g b m) w w' := by
  have HWx := hid (wfI hx.1 hx.2)
  have HWi := hid (wfI (a := (i : Int)) (by omega) (by omega))
  have HNm : Hid (N < maxLen) := hid (by unfold maxLen; omega)
  have HLi := hid hi
  have hcap : L.length ≤ cap := by
    have := H.sz
    rw [List.length_append, ecells_len] at this
    omega
  have HB1 := hid ((Below.refl w.heap.size w).alloc (Nat.le_refl _) (.cells #[.int .i64 x.at_, .int .i64 x.id, .int .i64 x.item] 76))
  have KB1 := hid (Bk.new w 76 #[.int .i64 x.at_, .int .i64 x.id, .int .i64 x.item])
  have HMb := hid (H.next HB1.out)
  have hgl := H.q.lt
  have hbl := H.l.lt
  have hml : m < w.heap.size := by
    obtain ⟨D, hD⟩ := H.mp
    exact hD.lt
  have HQ := hid H
  have KY := hid (fun w => key_any x w)
  generalize hn : L.length = n at *
  have HNn := hid hn
  clear hx H hn
  go_enter Tryd.func42, Tryd.ntmps42
  go_wp2_with fail
  generalize hwb : w.alloc (.cells #[.int .i64 x.at_, .int .i64 x.id, .int .i64 x.item] 76) = wb at *
  generalize hbx : w.heap.size = bx at *
  have KX : Hid (Bk wb bx 76 #[.int .i64 x.at_, .int .i64 x.id, .int .i64 x.item]) := KB1
  have HNb : Hid (bx ≠ b ∧ bx ≠ m ∧ bx ≠ g) := hid (by omega)
  have HSX : Hid (∀ w', Fr (· = b) wb w' → (w'.cell? ⟨g, 0, none⟩ = some (.slice (some ⟨b, 0, none⟩) n cap)) ∧ (w'.cell? ⟨bx, 0, none⟩ = some (.int .i64 x.at_)) ∧ (w'.cell? ⟨bx, 1, none⟩ = some (.int .i64 x.id)) ∧ (w'.cell? ⟨bx, 2, none⟩ = some (.int .i64 x.item))) := hid (fun w' F => by
    have h1 := F.bk HMb.out.q HMb.out.gb
    have h2 := F.bk KX.out HNb.out.1
    rw [HNn.out] at h1
    exact ⟨h1.cell 0, h2.cell 0, h2.cell 1, h2.cell 2⟩)
  refine wp_region_held_drew (S := (fun w' => (w'.cell? ⟨g, 0, none⟩ = some (.slice (some ⟨b, 0, none⟩) n cap)) ∧ (w'.cell? ⟨bx, 0, none⟩ = some (.int .i64 x.at_)) ∧ (w'.cell? ⟨bx, 1, none⟩ = some (.int .i64 x.id)) ∧ (w'.cell? ⟨bx, 2, none⟩ = some (.int .i64 x.item)))) (by kernel_rfl) (HSX.out _ (Fr.of_below (Below.refl wb.heap.size wb).drew)) (fun hHeld => ?_)
  have HBd0 : Hid (Below wb.heap.size wb wb.drew) := hid ((Below.refl _ _).drew)
  generalize wb.drew = wd0 at *
  refine wpAnyH_take (i := 0) (oi := ⟨some 6, _, _, _, _, _⟩) (v := ?_) rfl (by kernel_rfl) (by kernel_rfl) (by kernel_rfl) (fun _ _ _ h => h) (Or.inl ⟨by rfl, ?_⟩) (by assumption) ?_
  rotate_left
  focus
    intro w hSw
    try dsimp only at hSw
    go_simp
    first
    | done
    | with_reducible rfl
  try simp only [Act.put, List.setIfInBounds_toArray, List.set_cons_zero, List.set_cons_succ]
  refine wpAnyH_take (i := 1) (oi := ⟨some 7, _, _, _, _, _⟩) (v := ?_) rfl (by kernel_rfl) (by kernel_rfl) (by kernel_rfl) (fun _ _ _ h => h) (Or.inl ⟨by rfl, ?_⟩) (by assumption) ?_
  rotate_left
  focus
    intro w hSw
    try dsimp only at hSw
    go_simp
    first
    | done
    | with_reducible rfl
  try simp only [Act.put, List.setIfInBounds_toArray, List.set_cons_zero, List.set_cons_succ]
  refine wpAnyH_take (i := 2) (oi := ⟨some 8, _, _, _, _, _⟩) (v := ?_) rfl (by kernel_rfl) (by kernel_rfl) (by kernel_rfl) (fun _ _ _ h => h) (Or.inl ⟨by rfl, ?_⟩) (by assumption) ?_
  rotate_left
  focus
    intro w hSw
    try dsimp only at hSw
    go_simp
    first
    | done
    | with_reducible rfl
  try simp only [Act.put, List.setIfInBounds_toArray, List.set_cons_zero, List.set_cons_succ]
  refine wpAnyH_take (i := 3) (oi := ⟨some 9, _, _, _, _, _⟩) (v := ?_) rfl (by kernel_rfl) (by kernel_rfl) (by kernel_rfl) (fun _ _ _ h => h) (Or.inl ⟨by rfl, ?_⟩) (by assumption) ?_
  rotate_left
  focus
    intro w hSw
    try dsimp only at hSw
    go_simp
    first
    | done
    | with_reducible rfl
  try simp only [Act.put, List.setIfInBounds_toArray, List.set_cons_zero, List.set_cons_succ]
  refine wpAnyH_take (i := 4) (oi := ⟨some 10, _, _, _, _, _⟩) (v := ?_) rfl (by kernel_rfl) (by kernel_rfl) (by kernel_rfl) (fun _ _ _ h => h) (Or.inl ⟨by rfl, ?_⟩) (by assumption) ?_
  rotate_left
  focus
    intro w hSw
    try dsimp only at hSw
    go_simp
    first
    | done
    | with_reducible rfl
  try simp only [Act.put, List.setIfInBounds_toArray, List.set_cons_zero, List.set_cons_succ]
  refine wpAnyH_take (i := 5) (oi := ⟨some 11, _, _, _, _, _⟩) (v := ?_) rfl (by kernel_rfl) (by kernel_rfl) (by kernel_rfl) (fun _ _ _ h => h) (Or.inl ⟨by rfl, ?_⟩) (by assumption) ?_
  rotate_left
  focus
    intro w hSw
    try dsimp only at hSw
    go_simp
    first
    | done
    | with_reducible rfl
  try simp only [Act.put, List.setIfInBounds_toArray, List.set_cons_zero, List.set_cons_succ]
  refine wpAnyH_take (i := 6) (oi := ⟨some 12, _, _, _, _, _⟩) (v := ?_) rfl (by kernel_rfl) (by kernel_rfl) (by kernel_rfl) (fun _ _ _ h => h) (Or.inl ⟨by rfl, ?_⟩) (by assumption) ?_
  rotate_left
  focus
    intro w hSw
    try dsimp only at hSw
    go_simp
    first
    | done
    | with_reducible rfl
  try simp only [Act.put, List.setIfInBounds_toArray, List.set_cons_zero, List.set_cons_succ]
  refine wpAnyH_ready (rs := [7]) (by kernel_rfl) (by simp) ?_
  refine AllReadyH.cons (o := ⟨none, _, _, _, _, _⟩) rfl (fun K hK => ?_) AllReadyH.nil
  obtain ⟨y, hy⟩ : ∃ y, L[i]? = some y := ⟨_, List.getElem?_eq_getElem (by rw [HNn.out]; exact HLi.out)⟩
  have HWd := HMb.out.next HBd0.out
  obtain ⟨l0, l1, l2⟩ := HWd.elem hy
  have f0 := HWd.l.free (i * 3)
  have f1 := HWd.l.free (i * 3 + 1)
  have f2 := HWd.l.free (i * 3 + 2)
  have HWs := hid (HWd.store i x (by rw [HNn.out]; exact HLi.out))
  have HFs := hid ((Fr.of_below (S := (· = b)) HBd0.out).trans (fr_put3 wd0 b i x))
  clear hy HWd
  go_simp
  refine hK.out _ _ (HSX.out _ HFs.out) (fun hHeld => ?_)
  clear hK K
  try simp only [Act.put, List.setIfInBounds_toArray, List.set_cons_zero, List.set_cons_succ]
  refine wpAnyH_done (by kernel_rfl) ?_ _
  replace HWs := HWs
  clear hHeld l0 l1 l2 f0 f1 f2 HSX
  go_wp2_with fail
  generalize hwc : (((wd0.setCell ⟨b, i * 3, none⟩ (.int .i64 x.at_)).setCell ⟨b, i * 3 + 1, none⟩ (.int .i64 x.id)).setCell ⟨b, i * 3 + 2, none⟩ (.int .i64 x.item)) = wc at *
  have HMc : Hid (HpM wc g b m cap (L.set i x) Y N lim tm pu) := HWs
  have KXc : Hid (Bk wc bx 76 #[.int .i64 x.at_, .int .i64 x.id, .int .i64 x.item]) := hid (HFs.out.bk KX.out HNb.out.1)
  have HSY : Hid (∀ w', Fr (· = m) wc w' → (w'.cell? ⟨g, 1, none⟩ = some (.map (some m))) ∧ (w'.cell? ⟨bx, 0, none⟩ = some (.int .i64 x.at_)) ∧ (w'.cell? ⟨bx, 1, none⟩ = some (.int .i64 x.id)) ∧ (w'.cell? ⟨bx, 2, none⟩ = some (.int .i64 x.item))) := hid (fun w' F => by
    have h1 := F.bk HMc.out.q HMc.out.gm
    have h2 := F.bk KXc.out HNb.out.2.1
    exact ⟨h1.cell 1, h2.cell 0, h2.cell 1, h2.cell 2⟩)
  have MK := mkI76
  have MC := key76
  clear HWs hwc
  refine wp_region_held_drew (S := (fun w' => (w'.cell? ⟨g, 1, none⟩ = some (.map (some m))) ∧ (w'.cell? ⟨bx, 0, none⟩ = some (.int .i64 x.at_)) ∧ (w'.cell? ⟨bx, 1, none⟩ = some (.int .i64 x.id)) ∧ (w'.cell? ⟨bx, 2, none⟩ = some (.int .i64 x.item)))) (by kernel_rfl) (HSY.out _ (Fr.of_below (Below.refl wc.heap.size wc).drew)) (fun hHeld => ?_)
  have HBe0 : Hid (Below wc.heap.size wc wc.drew) := hid ((Below.refl _ _).drew)
  generalize wc.drew = we0 at *
  refine wpAnyH_take (i := 0) (oi := ⟨some 13, _, _, _, _, _⟩) (v := ?_) rfl (by kernel_rfl) (by kernel_rfl) (by kernel_rfl) (fun _ _ _ h => h) (Or.inl ⟨by rfl, ?_⟩) (by assumption) ?_
  rotate_left
  focus
    intro w hSw
    try dsimp only at hSw
    go_simp
    first
    | done
    | with_reducible rfl
  try simp only [Act.put, List.setIfInBounds_toArray, List.set_cons_zero, List.set_cons_succ]
  refine wpAnyH_take (i := 1) (oi := ⟨some 14, _, _, _, _, _⟩) (v := ?_) rfl (by kernel_rfl) (by kernel_rfl) (by kernel_rfl) (fun _ _ _ h => h) (Or.inl ⟨by rfl, ?_⟩) (by assumption) ?_
  rotate_left
  focus
    intro w hSw
    try dsimp only at hSw
    go_simp
    first
    | done
    | with_reducible rfl
  try simp only [Act.put, List.setIfInBounds_toArray, List.set_cons_zero, List.set_cons_succ]
  refine wpAnyH_take (i := 2) (oi := ⟨some 15, _, _, _, _, _⟩) (v := ?_) rfl (by kernel_rfl) (by kernel_rfl) (by kernel_rfl) (fun _ _ _ h => h) (Or.inl ⟨by rfl, ?_⟩) (by assumption) ?_
  rotate_left
  focus
    intro w hSw
    try dsimp only at hSw
    go_simp
    first
    | done
    | with_reducible rfl
  try simp only [Act.put, List.setIfInBounds_toArray, List.set_cons_zero, List.set_cons_succ]
  refine wpAnyH_take (i := 3) (oi := ⟨some 16, _, _, _, _, _⟩) (v := ?_) rfl (by kernel_rfl) (by kernel_rfl) (by kernel_rfl) (fun _ _ _ h => h) (Or.inl ⟨by rfl, ?_⟩) (by assumption) ?_
  rotate_left
  focus
    intro w hSw
    try dsimp only at hSw
    go_simp
    first
    | done
    | with_reducible rfl
  try simp only [Act.put, List.setIfInBounds_toArray, List.set_cons_zero, List.set_cons_succ]
  refine wpAnyH_take (i := 4) (oi := ⟨some 17, _, _, _, _, _⟩) (v := ?_) rfl (by kernel_rfl) (by kernel_rfl) (by kernel_rfl) (fun _ _ _ h => h) (Or.inl ⟨by rfl, ?_⟩) (by assumption) ?_
  rotate_left
  focus
    intro w hSw
    try dsimp only at hSw
    go_simp
    first
    | done
    | with_reducible rfl
  try simp only [Act.put, List.setIfInBounds_toArray, List.set_cons_zero, List.set_cons_succ]
  refine wpAnyH_take (i := 5) (oi := ⟨some 18, _, _, _, _, _⟩) (v := ?_) rfl (by kernel_rfl) (by kernel_rfl) (by kernel_rfl) (fun _ _ _ h => h) (Or.inl ⟨by rfl, ?_⟩) (by assumption) ?_
  rotate_left
  focus
    intro w hSw
    try dsimp only at hSw
    go_simp
    first
    | done
    | with_reducible rfl
  try simp only [Act.put, List.setIfInBounds_toArray, List.set_cons_zero, List.set_cons_succ]
  refine wpAnyH_take (i := 7) (oi := ⟨some 20, _, _, _, _, _⟩) (v := ?_) rfl (by kernel_rfl) (by kernel_rfl) (by kernel_rfl) (fun _ _ _ h => h) (Or.inl ⟨by rfl, ?_⟩) (by assumption) ?_
  rotate_left
  focus
    intro w hSw
    try dsimp only at hSw
    go_simp
    first
    | done
    | with_reducible rfl
  try simp only [Act.put, List.setIfInBounds_toArray, List.set_cons_zero, List.set_cons_succ]
  refine wpAnyH_ready (rs := [6]) (by kernel_rfl) (by simp) ?_
  refine AllReadyH.cons (o := ⟨some 19, _, _, _, _, _⟩) rfl (fun K hK => ?_) AllReadyH.nil
  go_simp
  refine (KY.out _).mono ?_
  rintro e wd ⟨rfl, hbd⟩
  have HBd := hid (HBe0.out.trans (hbd.mono HBe0.out.size))
  clear hbd
  refine hK.out _ _ (HSY.out _ (Fr.of_below HBd.out)) (fun hHeld => ?_)
  clear hK K
  try simp only [Act.put, List.setIfInBounds_toArray, List.set_cons_zero, List.set_cons_succ]
  refine wpAnyH_ready (rs := [8]) (by kernel_rfl) (by simp) ?_
  refine AllReadyH.cons (o := ⟨none, _, _, _, _, _⟩) rfl (fun K hK => ?_) AllReadyH.nil
  obtain ⟨D, hD⟩ := (HMc.out.next HBd.out).mp
  obtain ⟨we, hrun, hown, hgr⟩ := hD.update (key := .int .i64 x.id) (val := .int .i64 (i : Int)) (int_keyed Tryd.underlying3) Tryd.underlying69 HNm.out (keyOf_int_mk Tryd.underlying3 HWx.out) (plainElem_int Tryd.underlying3 HWi.out)
  have HFe := hid (Fr.grown (S := (· = m)) hgr rfl)
  have HOe := hid hown
  clear hown hgr hD
  go_simp
  clear hrun
  refine hK.out _ _ (HSY.out _ ((Fr.of_below HBd.out).trans HFe.out)) (fun hHeld => ?_)
  clear hK K
  try simp only [Act.put, List.setIfInBounds_toArray, List.set_cons_zero, List.set_cons_succ]
  refine wpAnyH_done (by kernel_rfl) ?_ _
  clear hHeld HSY MK MC
  go_wp2_with fail
  go_end0
  refine ⟨rfl, ?_, ?_⟩
  · have HMd := HMc.out.next HBd.out
    exact ⟨HFe.out.bk HMd.q HMd.gm, HFe.out.bk HMd.l HMd.bm, HMd.sz, ⟨_, HOe.out⟩, HMd.gb, HMd.gm, HMd.bm, HMd.cm⟩
  · exact (((Fr.of_below (hbx ▸ HB1.out)).trans (HFs.out.sub (fun k e => .inr (.inl e)))).trans (Fr.of_below HBd.out)).trans (HFe.out.sub (fun k e => .inr (.inr e)))
end Go.Proofs.YtjeojnlkjecojaaDoor
