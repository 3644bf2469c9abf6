/- up of package agenda. -/
import Derived.Test.YtjeojnlkjecojaaDoorLinkH3
namespace Go.Proofs.YtjeojnlkjecojaaDoor
open Go Go.RowKit
open Hp
theorem ats_get {L : List Ev} {i : Nat} {x : Ev} (h : L[i]? = some x) : ats L i = x.at_ := by unfold ats; simp [List.getD, h]
def UpP (w : World) (g b m cap : Nat) (L : List Ev) (Y : List Value) (N : Nat) (lim tm pu : Int) (e : Ending) (w' : World) : Prop :=
  e = .returned (.tuple #[]) ∧ ∃ L' N', L'.Perm L ∧ HeapF (ats L') L'.length ∧ N' ≤ N ∧ HpM w' g b m cap L' Y N' lim tm pu ∧ Fr (Qs g b m) w w'
set_option maxHeartbeats 4000000 in
theorem up_any (g b m cap i : Nat) (L : List Ev) (Y : List Value) (N : Nat) (lim tm pu : Int) (w : World) (H : HpM w g b m cap L Y N lim tm pu) (hi : i < L.length) (hL : L.length ≤ 1000) (hid_ : ∀ x ∈ L, 0 ≤ x.id ∧ x.id ≤ 1000000) (hN : N + 2 * i ≤ 900000) (hU : UpF (ats L) L.length i) :
    Calls Tryd.prog 43 #[pt g, .int .i64 (i : Int)] w (UpP w g b m cap L Y (N + 2 * i) lim tm pu) := by
  have HQ := hid H
  have HU := hid hU
  have HID := hid hid_
  have hcap : L.length ≤ cap := by
    have := H.sz
    rw [List.length_append, ecells_len] at this
    omega
  generalize hn : L.length = n at *
  have HNn := hid hn
  clear H hU hid_ hn
  go_enter Tryd.func43, Tryd.ntmps43
  go_wp2_with fail
  go_loopw [1] (fun iv wr => ∃ (k : Nat) (L' : List Ev) (N' : Nat), iv = .int .i64 (k : Int) ∧ k ≤ i ∧ k < n ∧ N' ≤ N + 2 * (i - k) ∧ L'.Perm L ∧ L'.length = n ∧ UpF (ats L') n k ∧ HpM wr g b m cap L' Y N' lim tm pu ∧ Fr (Qs g b m) w wr) (fun iv _ => (intOf iv).toNat)
  case atStart => exact ⟨i, L, N, rfl, Nat.le_refl _, hi, by omega, List.Perm.refl _, HNn.out, HU.out, HQ.out, Fr.refl _ _⟩
  case round =>
    clear HQ HU
    obtain ⟨k, L', N', rfl, hk1, hk2, hN', P, hl, U, M, F⟩ := hrel
    have HP := hid P
    have HLn := hid hl
    have HUk := hid U
    have HMr := hid M
    have HF := hid F
    clear P hl U M F
    by_cases h0 : k = 0
    · subst h0
      go_wp2_with fail
      go_end0
      exact ⟨rfl, L', N', HP.out, by rw [HLn.out]; exact up_done0 HUk.out, by omega, HMr.out, HF.out⟩
    · obtain ⟨p, hp⟩ : ∃ p : Nat, p = (k - 1) / 2 := ⟨_, rfl⟩
      have hpk : p < k := by omega
      have hpn : p < n := by omega
      have hd1 : ((k : Int) - 1) / 2 = (p : Int) := by omega
      have hd2 : ((k : Int) - 1).tdiv 2 = (p : Int) := by rw [Int.tdiv_eq_ediv_of_nonneg (by omega)]; exact hd1
      have hk3 : 0 < (k : Int) := by omega
      have hk4 : (0 : Int) ≤ (k : Int) - 1 := by omega
      have HPk := hid hp
      obtain ⟨x, hx⟩ : ∃ x, L'[k]? = some x := ⟨L'[k]'(by have := HLn.out; omega), List.getElem?_eq_getElem _⟩
      obtain ⟨y, hy⟩ : ∃ y, L'[p]? = some y := ⟨L'[p]'(by have := HLn.out; omega), List.getElem?_eq_getElem _⟩
      have HXY := hid (And.intro hx hy)
      have BF := hid (fun w => before_any x y w)
      have HBT := hid (show bf x y = bf x y from rfl)
      clear hx hy hp
      have HSX : Hid (∀ w', Below wr.heap.size wr w' → (w'.cell? ⟨g, 0, none⟩ = some (.slice (some ⟨b, 0, none⟩) n cap)) ∧ (w'.cell? ⟨b, k * 3, none⟩ = some (.int .i64 x.at_)) ∧ (w'.cell? ⟨b, k * 3 + 1, none⟩ = some (.int .i64 x.id)) ∧ (w'.cell? ⟨b, k * 3 + 2, none⟩ = some (.int .i64 x.item)) ∧ (w'.cell? ⟨b, p * 3, none⟩ = some (.int .i64 y.at_)) ∧ (w'.cell? ⟨b, p * 3 + 1, none⟩ = some (.int .i64 y.id)) ∧ (w'.cell? ⟨b, p * 3 + 2, none⟩ = some (.int .i64 y.item))) := hid (fun w' hb => by
        have h1 := HMr.out.next hb
        obtain ⟨a1, a2, a3⟩ := h1.elem HXY.out.1
        obtain ⟨b1, b2, b3⟩ := h1.elem HXY.out.2
        have h2 := h1.q
        rw [HLn.out] at h2
        exact ⟨h2.cell 0, a1, a2, a3, b1, b2, b3⟩)
      have MK := mkI76
      have MC := before76
      generalize hbt : bf x y = bt at *
      have HBt := hid hbt
      clear hbt HBT
      go_wp2_with fail
      refine wp_region_held_drew (S := (fun w' => (w'.cell? ⟨g, 0, none⟩ = some (.slice (some ⟨b, 0, none⟩) n cap)) ∧ (w'.cell? ⟨b, k * 3, none⟩ = some (.int .i64 x.at_)) ∧ (w'.cell? ⟨b, k * 3 + 1, none⟩ = some (.int .i64 x.id)) ∧ (w'.cell? ⟨b, k * 3 + 2, none⟩ = some (.int .i64 x.item)) ∧ (w'.cell? ⟨b, p * 3, none⟩ = some (.int .i64 y.at_)) ∧ (w'.cell? ⟨b, p * 3 + 1, none⟩ = some (.int .i64 y.id)) ∧ (w'.cell? ⟨b, p * 3 + 2, none⟩ = some (.int .i64 y.item)))) (by kernel_rfl) (HSX.out _ (Below.refl wr.heap.size wr).drew) (fun hHeld => ?_)
      have HD0 : Hid (Below wr.heap.size wr wr.drew) := hid ((Below.refl _ _).drew)
      generalize wr.drew = wdd at *
      refine wpAnyH_take (i := 0) (oi := ⟨some 10, _, _, _, _, _⟩) (v := ?_) rfl (by kernel_rfl) (by kernel_rfl) (by kernel_rfl) (fun _ _ _ h => h) (Or.inl ⟨by rfl, ?_⟩) (by assumption) ?_
      rotate_left
      focus
        intro w hSw
        try dsimp only at hSw
        go_simp
        first
        | done
        | with_reducible rfl
      try simp only [Act.put, List.setIfInBounds_toArray, List.set_cons_zero, List.set_cons_succ]
      refine wpAnyH_take (i := 1) (oi := ⟨some 11, _, _, _, _, _⟩) (v := ?_) rfl (by kernel_rfl) (by kernel_rfl) (by kernel_rfl) (fun _ _ _ h => h) (Or.inl ⟨by rfl, ?_⟩) (by assumption) ?_
      rotate_left
      focus
        intro w hSw
        try dsimp only at hSw
        go_simp
        first
        | done
        | with_reducible rfl
      try simp only [Act.put, List.setIfInBounds_toArray, List.set_cons_zero, List.set_cons_succ]
      refine wpAnyH_take (i := 2) (oi := ⟨some 12, _, _, _, _, _⟩) (v := ?_) rfl (by kernel_rfl) (by kernel_rfl) (by kernel_rfl) (fun _ _ _ h => h) (Or.inl ⟨by rfl, ?_⟩) (by assumption) ?_
      rotate_left
      focus
        intro w hSw
        try dsimp only at hSw
        go_simp
        first
        | done
        | with_reducible rfl
      try simp only [Act.put, List.setIfInBounds_toArray, List.set_cons_zero, List.set_cons_succ]
      refine wpAnyH_take (i := 3) (oi := ⟨some 13, _, _, _, _, _⟩) (v := ?_) rfl (by kernel_rfl) (by kernel_rfl) (by kernel_rfl) (fun _ _ _ h => h) (Or.inl ⟨by rfl, ?_⟩) (by assumption) ?_
      rotate_left
      focus
        intro w hSw
        try dsimp only at hSw
        go_simp
        first
        | done
        | with_reducible rfl
      try simp only [Act.put, List.setIfInBounds_toArray, List.set_cons_zero, List.set_cons_succ]
      refine wpAnyH_take (i := 4) (oi := ⟨some 14, _, _, _, _, _⟩) (v := ?_) rfl (by kernel_rfl) (by kernel_rfl) (by kernel_rfl) (fun _ _ _ h => h) (Or.inl ⟨by rfl, ?_⟩) (by assumption) ?_
      rotate_left
      focus
        intro w hSw
        try dsimp only at hSw
        go_simp
        first
        | done
        | with_reducible rfl
      try simp only [Act.put, List.setIfInBounds_toArray, List.set_cons_zero, List.set_cons_succ]
      refine wpAnyH_take (i := 5) (oi := ⟨some 15, _, _, _, _, _⟩) (v := ?_) rfl (by kernel_rfl) (by kernel_rfl) (by kernel_rfl) (fun _ _ _ h => h) (Or.inl ⟨by rfl, ?_⟩) (by assumption) ?_
      rotate_left
      focus
        intro w hSw
        try dsimp only at hSw
        go_simp
        first
        | done
        | with_reducible rfl
      try simp only [Act.put, List.setIfInBounds_toArray, List.set_cons_zero, List.set_cons_succ]
      refine wpAnyH_take (i := 6) (oi := ⟨some 16, _, _, _, _, _⟩) (v := ?_) rfl (by kernel_rfl) (by kernel_rfl) (by kernel_rfl) (fun _ _ _ h => h) (Or.inl ⟨by rfl, ?_⟩) (by assumption) ?_
      rotate_left
      focus
        intro w hSw
        try dsimp only at hSw
        go_simp
        first
        | done
        | with_reducible rfl
      try simp only [Act.put, List.setIfInBounds_toArray, List.set_cons_zero, List.set_cons_succ]
      refine wpAnyH_take (i := 7) (oi := ⟨some 17, _, _, _, _, _⟩) (v := ?_) rfl (by kernel_rfl) (by kernel_rfl) (by kernel_rfl) (fun _ _ _ h => h) (Or.inl ⟨by rfl, ?_⟩) (by assumption) ?_
      rotate_left
      focus
        intro w hSw
        try dsimp only at hSw
        go_simp
        first
        | done
        | with_reducible rfl
      try simp only [Act.put, List.setIfInBounds_toArray, List.set_cons_zero, List.set_cons_succ]
      refine wpAnyH_take (i := 8) (oi := ⟨some 18, _, _, _, _, _⟩) (v := ?_) rfl (by kernel_rfl) (by kernel_rfl) (by kernel_rfl) (fun _ _ _ h => h) (Or.inl ⟨by rfl, ?_⟩) (by assumption) ?_
      rotate_left
      focus
        intro w hSw
        try dsimp only at hSw
        go_simp
        first
        | done
        | with_reducible rfl
      try simp only [Act.put, List.setIfInBounds_toArray, List.set_cons_zero, List.set_cons_succ]
      refine wpAnyH_take (i := 9) (oi := ⟨some 19, _, _, _, _, _⟩) (v := ?_) rfl (by kernel_rfl) (by kernel_rfl) (by kernel_rfl) (fun _ _ _ h => h) (Or.inl ⟨by rfl, ?_⟩) (by assumption) ?_
      rotate_left
      focus
        intro w hSw
        try dsimp only at hSw
        go_simp
        first
        | done
        | with_reducible rfl
      try simp only [Act.put, List.setIfInBounds_toArray, List.set_cons_zero, List.set_cons_succ]
      refine wpAnyH_take (i := 10) (oi := ⟨some 20, _, _, _, _, _⟩) (v := ?_) rfl (by kernel_rfl) (by kernel_rfl) (by kernel_rfl) (fun _ _ _ h => h) (Or.inl ⟨by rfl, ?_⟩) (by assumption) ?_
      rotate_left
      focus
        intro w hSw
        try dsimp only at hSw
        go_simp
        first
        | done
        | with_reducible rfl
      try simp only [Act.put, List.setIfInBounds_toArray, List.set_cons_zero, List.set_cons_succ]
      refine wpAnyH_take (i := 11) (oi := ⟨some 21, _, _, _, _, _⟩) (v := ?_) rfl (by kernel_rfl) (by kernel_rfl) (by kernel_rfl) (fun _ _ _ h => h) (Or.inl ⟨by rfl, ?_⟩) (by assumption) ?_
      rotate_left
      focus
        intro w hSw
        try dsimp only at hSw
        go_simp
        first
        | done
        | with_reducible rfl
      try simp only [Act.put, List.setIfInBounds_toArray, List.set_cons_zero, List.set_cons_succ]
      refine wpAnyH_take (i := 12) (oi := ⟨some 22, _, _, _, _, _⟩) (v := ?_) rfl (by kernel_rfl) (by kernel_rfl) (by kernel_rfl) (fun _ _ _ h => h) (Or.inl ⟨by rfl, ?_⟩) (by assumption) ?_
      rotate_left
      focus
        intro w hSw
        try dsimp only at hSw
        go_simp
        first
        | done
        | with_reducible rfl
      try simp only [Act.put, List.setIfInBounds_toArray, List.set_cons_zero, List.set_cons_succ]
      refine wpAnyH_take (i := 13) (oi := ⟨some 23, _, _, _, _, _⟩) (v := ?_) rfl (by kernel_rfl) (by kernel_rfl) (by kernel_rfl) (fun _ _ _ h => h) (Or.inl ⟨by rfl, ?_⟩) (by assumption) ?_
      rotate_left
      focus
        intro w hSw
        try dsimp only at hSw
        go_simp
        first
        | done
        | with_reducible rfl
      try simp only [Act.put, List.setIfInBounds_toArray, List.set_cons_zero, List.set_cons_succ]
      refine wpAnyH_take (i := 14) (oi := ⟨some 24, _, _, _, _, _⟩) (v := ?_) rfl (by kernel_rfl) (by kernel_rfl) (by kernel_rfl) (fun _ _ _ h => h) (Or.inl ⟨by rfl, ?_⟩) (by assumption) ?_
      rotate_left
      focus
        intro w hSw
        try dsimp only at hSw
        go_simp
        first
        | done
        | with_reducible rfl
      try simp only [Act.put, List.setIfInBounds_toArray, List.set_cons_zero, List.set_cons_succ]
      refine wpAnyH_ready (rs := [15]) (by kernel_rfl) (by simp) ?_
      refine AllReadyH.cons (o := ⟨some 25, _, _, _, _, _⟩) rfl (fun K hK => ?_) AllReadyH.nil
      go_simp
      refine (BF.out _).mono ?_
      rintro e wq ⟨rfl, hbq⟩
      have HBq := hid (HD0.out.trans (hbq.mono HD0.out.size))
      clear hbq
      refine hK.out _ _ (HSX.out _ HBq.out) (fun hHeld => ?_)
      clear hK K
      try simp only [Act.put, List.setIfInBounds_toArray, List.set_cons_zero, List.set_cons_succ]
      refine wpAnyH_take (i := 16) (oi := ⟨some 26, _, _, _, _, _⟩) (v := ?_) rfl (by kernel_rfl) (by kernel_rfl) (by kernel_rfl) (fun _ _ _ h => h) (Or.inl ⟨by rfl, ?_⟩) (by assumption) ?_
      rotate_left
      focus
        intro w hSw
        try dsimp only at hSw
        go_simp
        first
        | done
        | with_reducible rfl
      try simp only [Act.put, List.setIfInBounds_toArray, List.set_cons_zero, List.set_cons_succ]
      refine wpAnyH_done (by kernel_rfl) ?_ _
      clear hHeld HSX BF HD0 MK MC
      have HMq := hid (HMr.out.next HBq.out)
      have HFq := hid (HF.out.trans (Fr.of_below HBq.out))
      cases bt
      · go_wp2_with fail
        first | go_end0 | (refine bodyPost_ret (results_none rfl _ _ _) rfl ?_)
        exact ⟨rfl, L', N', HP.out, by rw [HLn.out]; exact up_done HUk.out (by rw [← HPk.out, ats_get HXY.out.1, ats_get HXY.out.2]; exact bf_false HBt.out), by omega, HMq.out, HFq.out⟩
      · go_wp2_with fail
        have SW := hid (swap_any g b m cap k p L' Y N' lim tm pu wq HMq.out (by rw [HLn.out]; exact hk2) (by rw [HLn.out]; exact hpn) (by rw [HLn.out]; exact hL) (fun z hz => HID.out z (HP.out.mem_iff.1 hz)) (by omega))
        refine SW.out.mono ?_
        rintro e w2 ⟨rfl, M2, F2⟩
        have HM2 := hid M2
        have HF2 := hid F2
        clear M2 F2 SW hd1 hd2
        go_wp2_with fail
        go_roundw
        case rel =>
          have e1 : k < L'.length := by rw [HLn.out]; exact hk2
          have e2 : p < L'.length := by rw [HLn.out]; exact hpn
          have hU2 : UpF (ats (swp L' k p)) n p := by
            have hle : ats L' k ≤ ats L' p := by rw [ats_get HXY.out.1, ats_get HXY.out.2]; exact bf_true HBt.out
            have := up_step (b := ats (swp L' k p)) (by omega) hk2 HUk.out (by rw [← HPk.out]; exact hle) (by rw [← HPk.out]; exact swp_j e2) (by rw [← HPk.out]; exact swp_i e1 e2) (fun q h1 h2 => swp_k e1 e2 h1 (by rw [HPk.out]; exact h2))
            rw [← HPk.out] at this
            exact this
          exact ⟨p, swp L' k p, N' + 2, rfl, by omega, hpn, by omega, (swp_perm e1 e2).trans HP.out, by rw [swp_len, HLn.out], hU2, HM2.out, HFq.out.trans HF2.out⟩
        case measure => simp [intOf]; omega
end Go.Proofs.YtjeojnlkjecojaaDoor
