/- down of package agenda. -/
import Derived.Test.YtjeojnlkjecojaaDoorLinkH4
namespace Go.Proofs.YtjeojnlkjecojaaDoor
open Go Go.RowKit
open Hp
set_option maxHeartbeats 8000000 in
theorem down_any (g b m cap : Nat) (L : List Ev) (Y : List Value) (N : Nat) (lim tm pu : Int) (w : World) (H : HpM w g b m cap L Y N lim tm pu) (hi : 0 < L.length) (hL : L.length ≤ 1000) (hid_ : ∀ x ∈ L, 0 ≤ x.id ∧ x.id ≤ 1000000) (hN : N + 2 * L.length ≤ 900000) (hU : DownF (ats L) L.length 0) :
    Calls Tryd.prog 45 #[pt g, .int .i64 0] w (UpP w g b m cap L Y (N + 2 * L.length) lim tm pu) := by
  have HQ := hid H
  have HU := hid hU
  have HID := hid hid_
  have hcap : L.length ≤ cap := by
    have := H.sz
    rw [List.length_append, ecells_len] at this
    omega
  generalize hn : L.length = n at *
  have HNn := hid hn
  clear H hU hid_ hn
  go_enter Tryd.func45, Tryd.ntmps45
  go_wp2_with fail
  go_loopw [1] (fun iv wr => ∃ (k : Nat) (L' : List Ev) (N' : Nat), iv = .int .i64 (k : Int) ∧ k < n ∧ N' ≤ N + 2 * k ∧ L'.Perm L ∧ L'.length = n ∧ DownF (ats L') n k ∧ HpM wr g b m cap L' Y N' lim tm pu ∧ Fr (Qs g b m) w wr) (fun iv _ => n - (intOf iv).toNat)
  case atStart => exact ⟨0, L, N, rfl, hi, by omega, List.Perm.refl _, HNn.out, HU.out, HQ.out, Fr.refl _ _⟩
  case round =>
    clear HQ HU
    obtain ⟨k, L', N', rfl, hk2, hN', P, hl, U, M, F⟩ := hrel
    have HP := hid P
    have HLn := hid hl
    have HDk := hid U
    have HMr := hid M
    have HF := hid F
    clear P hl U M F
    go_wp2_with fail
    go_loopw [4, 5] (fun fv bv wx => ∃ (f c : Nat), fv = .int .i64 (f : Int) ∧ bv = .int .i64 (c : Int) ∧ f < n ∧ 2 * k + 1 ≤ c ∧ c ≤ 2 * k + 3 ∧ (f = k ∨ ((f - 1) / 2 = k ∧ 0 < f)) ∧ ats L' f ≤ ats L' k ∧ (∀ d, 0 < d → d < n → (d - 1) / 2 = k → d < c → ats L' f ≤ ats L' d) ∧ HpM wx g b m cap L' Y N' lim tm pu ∧ Fr (Qs g b m) w wx) (fun _ bv _ => 2 * k + 3 - (intOf bv).toNat)
    case atStart => exact ⟨k, 2 * k + 1, rfl, by rw [show ((2 * k + 1 : Nat) : Int) = 2 * (k : Int) + 1 from by omega], hk2, Nat.le_refl _, by omega, .inl rfl, Int.le_refl _, fun d h1 h2 h3 h4 => by omega, HMr.out, HF.out⟩
    case round =>
      clear HMr HF
      obtain ⟨f, c, rfl, rfl, hf0, hc1, hc2, hf1, hle, hmin, M, F⟩ := hrel
      have HLe := hid hle
      have HMin0 := hid hmin
      have HMx := hid M
      have HFx := hid F
      have c0 := M.q.cell 0
      simp only [List.getElem?_toArray, List.getElem?_cons_zero] at c0
      rw [HLn.out] at c0
      clear hle hmin M F
      by_cases hc3 : c ≤ 2 * k + 2
      · have hc3' : (c : Int) ≤ 2 * (k : Int) + 2 := by omega
        by_cases hcn : c < n
        · have hcn' : (c : Int) < (n : Int) := by omega
          obtain ⟨x, hx⟩ : ∃ x, L'[c]? = some x := ⟨L'[c]'(by have := HLn.out; omega), List.getElem?_eq_getElem _⟩
          obtain ⟨y, hy⟩ : ∃ y, L'[f]? = some y := ⟨L'[f]'(by have := HLn.out; omega), List.getElem?_eq_getElem _⟩
          have HXY := hid (And.intro hx hy)
          have BF := hid (fun w => before_any x y w)
          clear hx hy
          have HSX : Hid (∀ w', Below wr.heap.size wr w' → (w'.cell? ⟨g, 0, none⟩ = some (.slice (some ⟨b, 0, none⟩) n cap)) ∧ (w'.cell? ⟨b, c * 3, none⟩ = some (.int .i64 x.at_)) ∧ (w'.cell? ⟨b, c * 3 + 1, none⟩ = some (.int .i64 x.id)) ∧ (w'.cell? ⟨b, c * 3 + 2, none⟩ = some (.int .i64 x.item)) ∧ (w'.cell? ⟨b, f * 3, none⟩ = some (.int .i64 y.at_)) ∧ (w'.cell? ⟨b, f * 3 + 1, none⟩ = some (.int .i64 y.id)) ∧ (w'.cell? ⟨b, f * 3 + 2, none⟩ = some (.int .i64 y.item))) := hid (fun w' hb => by
            have h1 := HMx.out.next hb
            obtain ⟨a1, a2, a3⟩ := h1.elem HXY.out.1
            obtain ⟨b1, b2, b3⟩ := h1.elem HXY.out.2
            have h2 := h1.q
            rw [HLn.out] at h2
            exact ⟨h2.cell 0, a1, a2, a3, b1, b2, b3⟩)
          have MK := mkI76
          have MC := before76
          generalize hbt : bf x y = bt at *
          have HBt := hid hbt
          clear hbt
          go_wp2_with fail
          refine wp_region_held_drew (S := (fun w' => (w'.cell? ⟨g, 0, none⟩ = some (.slice (some ⟨b, 0, none⟩) n cap)) ∧ (w'.cell? ⟨b, c * 3, none⟩ = some (.int .i64 x.at_)) ∧ (w'.cell? ⟨b, c * 3 + 1, none⟩ = some (.int .i64 x.id)) ∧ (w'.cell? ⟨b, c * 3 + 2, none⟩ = some (.int .i64 x.item)) ∧ (w'.cell? ⟨b, f * 3, none⟩ = some (.int .i64 y.at_)) ∧ (w'.cell? ⟨b, f * 3 + 1, none⟩ = some (.int .i64 y.id)) ∧ (w'.cell? ⟨b, f * 3 + 2, none⟩ = some (.int .i64 y.item)))) (by kernel_rfl) (HSX.out _ (Below.refl wr.heap.size wr).drew) (fun hHeld => ?_)
          have HD0 : Hid (Below wr.heap.size wr wr.drew) := hid ((Below.refl _ _).drew)
          generalize wr.drew = wdd at *
          refine wpAnyH_take (i := 0) (oi := ⟨some 26, _, _, _, _, _⟩) (v := ?_) rfl (by kernel_rfl) (by kernel_rfl) (by kernel_rfl) (fun _ _ _ h => h) (Or.inl ⟨by rfl, ?_⟩) (by assumption) ?_
          rotate_left
          focus
            intro w hSw
            try dsimp only at hSw
            go_simp
            first
            | done
            | with_reducible rfl
          try simp only [Act.put, List.setIfInBounds_toArray, List.set_cons_zero, List.set_cons_succ]
          refine wpAnyH_take (i := 1) (oi := ⟨some 27, _, _, _, _, _⟩) (v := ?_) rfl (by kernel_rfl) (by kernel_rfl) (by kernel_rfl) (fun _ _ _ h => h) (Or.inl ⟨by rfl, ?_⟩) (by assumption) ?_
          rotate_left
          focus
            intro w hSw
            try dsimp only at hSw
            go_simp
            first
            | done
            | with_reducible rfl
          try simp only [Act.put, List.setIfInBounds_toArray, List.set_cons_zero, List.set_cons_succ]
          refine wpAnyH_take (i := 2) (oi := ⟨some 28, _, _, _, _, _⟩) (v := ?_) rfl (by kernel_rfl) (by kernel_rfl) (by kernel_rfl) (fun _ _ _ h => h) (Or.inl ⟨by rfl, ?_⟩) (by assumption) ?_
          rotate_left
          focus
            intro w hSw
            try dsimp only at hSw
            go_simp
            first
            | done
            | with_reducible rfl
          try simp only [Act.put, List.setIfInBounds_toArray, List.set_cons_zero, List.set_cons_succ]
          refine wpAnyH_take (i := 3) (oi := ⟨some 29, _, _, _, _, _⟩) (v := ?_) rfl (by kernel_rfl) (by kernel_rfl) (by kernel_rfl) (fun _ _ _ h => h) (Or.inl ⟨by rfl, ?_⟩) (by assumption) ?_
          rotate_left
          focus
            intro w hSw
            try dsimp only at hSw
            go_simp
            first
            | done
            | with_reducible rfl
          try simp only [Act.put, List.setIfInBounds_toArray, List.set_cons_zero, List.set_cons_succ]
          refine wpAnyH_take (i := 4) (oi := ⟨some 30, _, _, _, _, _⟩) (v := ?_) rfl (by kernel_rfl) (by kernel_rfl) (by kernel_rfl) (fun _ _ _ h => h) (Or.inl ⟨by rfl, ?_⟩) (by assumption) ?_
          rotate_left
          focus
            intro w hSw
            try dsimp only at hSw
            go_simp
            first
            | done
            | with_reducible rfl
          try simp only [Act.put, List.setIfInBounds_toArray, List.set_cons_zero, List.set_cons_succ]
          refine wpAnyH_take (i := 5) (oi := ⟨some 31, _, _, _, _, _⟩) (v := ?_) rfl (by kernel_rfl) (by kernel_rfl) (by kernel_rfl) (fun _ _ _ h => h) (Or.inl ⟨by rfl, ?_⟩) (by assumption) ?_
          rotate_left
          focus
            intro w hSw
            try dsimp only at hSw
            go_simp
            first
            | done
            | with_reducible rfl
          try simp only [Act.put, List.setIfInBounds_toArray, List.set_cons_zero, List.set_cons_succ]
          refine wpAnyH_take (i := 6) (oi := ⟨some 32, _, _, _, _, _⟩) (v := ?_) rfl (by kernel_rfl) (by kernel_rfl) (by kernel_rfl) (fun _ _ _ h => h) (Or.inl ⟨by rfl, ?_⟩) (by assumption) ?_
          rotate_left
          focus
            intro w hSw
            try dsimp only at hSw
            go_simp
            first
            | done
            | with_reducible rfl
          try simp only [Act.put, List.setIfInBounds_toArray, List.set_cons_zero, List.set_cons_succ]
          refine wpAnyH_take (i := 7) (oi := ⟨some 33, _, _, _, _, _⟩) (v := ?_) rfl (by kernel_rfl) (by kernel_rfl) (by kernel_rfl) (fun _ _ _ h => h) (Or.inl ⟨by rfl, ?_⟩) (by assumption) ?_
          rotate_left
          focus
            intro w hSw
            try dsimp only at hSw
            go_simp
            first
            | done
            | with_reducible rfl
          try simp only [Act.put, List.setIfInBounds_toArray, List.set_cons_zero, List.set_cons_succ]
          refine wpAnyH_take (i := 8) (oi := ⟨some 34, _, _, _, _, _⟩) (v := ?_) rfl (by kernel_rfl) (by kernel_rfl) (by kernel_rfl) (fun _ _ _ h => h) (Or.inl ⟨by rfl, ?_⟩) (by assumption) ?_
          rotate_left
          focus
            intro w hSw
            try dsimp only at hSw
            go_simp
            first
            | done
            | with_reducible rfl
          try simp only [Act.put, List.setIfInBounds_toArray, List.set_cons_zero, List.set_cons_succ]
          refine wpAnyH_take (i := 9) (oi := ⟨some 35, _, _, _, _, _⟩) (v := ?_) rfl (by kernel_rfl) (by kernel_rfl) (by kernel_rfl) (fun _ _ _ h => h) (Or.inl ⟨by rfl, ?_⟩) (by assumption) ?_
          rotate_left
          focus
            intro w hSw
            try dsimp only at hSw
            go_simp
            first
            | done
            | with_reducible rfl
          try simp only [Act.put, List.setIfInBounds_toArray, List.set_cons_zero, List.set_cons_succ]
          refine wpAnyH_take (i := 10) (oi := ⟨some 36, _, _, _, _, _⟩) (v := ?_) rfl (by kernel_rfl) (by kernel_rfl) (by kernel_rfl) (fun _ _ _ h => h) (Or.inl ⟨by rfl, ?_⟩) (by assumption) ?_
          rotate_left
          focus
            intro w hSw
            try dsimp only at hSw
            go_simp
            first
            | done
            | with_reducible rfl
          try simp only [Act.put, List.setIfInBounds_toArray, List.set_cons_zero, List.set_cons_succ]
          refine wpAnyH_take (i := 11) (oi := ⟨some 37, _, _, _, _, _⟩) (v := ?_) rfl (by kernel_rfl) (by kernel_rfl) (by kernel_rfl) (fun _ _ _ h => h) (Or.inl ⟨by rfl, ?_⟩) (by assumption) ?_
          rotate_left
          focus
            intro w hSw
            try dsimp only at hSw
            go_simp
            first
            | done
            | with_reducible rfl
          try simp only [Act.put, List.setIfInBounds_toArray, List.set_cons_zero, List.set_cons_succ]
          refine wpAnyH_take (i := 12) (oi := ⟨some 38, _, _, _, _, _⟩) (v := ?_) rfl (by kernel_rfl) (by kernel_rfl) (by kernel_rfl) (fun _ _ _ h => h) (Or.inl ⟨by rfl, ?_⟩) (by assumption) ?_
          rotate_left
          focus
            intro w hSw
            try dsimp only at hSw
            go_simp
            first
            | done
            | with_reducible rfl
          try simp only [Act.put, List.setIfInBounds_toArray, List.set_cons_zero, List.set_cons_succ]
          refine wpAnyH_take (i := 13) (oi := ⟨some 39, _, _, _, _, _⟩) (v := ?_) rfl (by kernel_rfl) (by kernel_rfl) (by kernel_rfl) (fun _ _ _ h => h) (Or.inl ⟨by rfl, ?_⟩) (by assumption) ?_
          rotate_left
          focus
            intro w hSw
            try dsimp only at hSw
            go_simp
            first
            | done
            | with_reducible rfl
          try simp only [Act.put, List.setIfInBounds_toArray, List.set_cons_zero, List.set_cons_succ]
          refine wpAnyH_take (i := 14) (oi := ⟨some 40, _, _, _, _, _⟩) (v := ?_) rfl (by kernel_rfl) (by kernel_rfl) (by kernel_rfl) (fun _ _ _ h => h) (Or.inl ⟨by rfl, ?_⟩) (by assumption) ?_
          rotate_left
          focus
            intro w hSw
            try dsimp only at hSw
            go_simp
            first
            | done
            | with_reducible rfl
          try simp only [Act.put, List.setIfInBounds_toArray, List.set_cons_zero, List.set_cons_succ]
          refine wpAnyH_ready (rs := [15]) (by kernel_rfl) (by simp) ?_
          refine AllReadyH.cons (o := ⟨some 41, _, _, _, _, _⟩) rfl (fun K hK => ?_) AllReadyH.nil
          go_simp
          refine (BF.out _).mono ?_
          rintro e wq ⟨rfl, hbq⟩
          have HBq := hid (HD0.out.trans (hbq.mono HD0.out.size))
          clear hbq
          refine hK.out _ _ (HSX.out _ HBq.out) (fun hHeld => ?_)
          clear hK K
          try simp only [Act.put, List.setIfInBounds_toArray, List.set_cons_zero, List.set_cons_succ]
          refine wpAnyH_done (by kernel_rfl) ?_ _
          clear hHeld HSX BF HD0 MK MC c0
          have HMq := hid (HMx.out.next HBq.out)
          have HFq := hid (HFx.out.trans (Fr.of_below HBq.out))
          cases bt
          · go_wp2_with fail
            go_roundw
            case rel => exact ⟨f, c + 1, rfl, by simp, hf0, by omega, by omega, hf1, HLe.out, fun d h1 h2 h3 h4 => by
              by_cases e : d = c
              · rw [e, ats_get HXY.out.1, ats_get HXY.out.2]; exact bf_false HBt.out
              · exact HMin0.out d h1 h2 h3 (by omega), HMq.out, HFq.out⟩
            case measure => simp [intOf]; omega
          · go_wp2_with fail
            go_roundw
            case rel =>
              have hcf : ats L' c ≤ ats L' f := by rw [ats_get HXY.out.1, ats_get HXY.out.2]; exact bf_true HBt.out
              exact ⟨c, c + 1, rfl, by simp, hcn, by omega, by omega, .inr ⟨by omega, by omega⟩, Int.le_trans hcf HLe.out, fun d h1 h2 h3 h4 => by
                by_cases e : d = c
                · rw [e]; exact Int.le_refl _
                · exact Int.le_trans hcf (HMin0.out d h1 h2 h3 (by omega)), HMq.out, HFq.out⟩
            case measure => simp [intOf]; omega
        · have hcn' : ¬ (c : Int) < (n : Int) := by omega
          have HMin := hid (fun d (h1 : 0 < d) (h2 : d < n) (h3 : (d - 1) / 2 = k) => HMin0.out d h1 h2 h3 (by omega))
          by_cases hfk : f = k
          · subst hfk
            go_wp2_with fail
            first | go_end0 | (refine bodyPost_ret (results_none rfl _ _ _) rfl ?_)
            exact ⟨rfl, L', N', HP.out, by rw [HLn.out]; exact down_done HDk.out (fun d h1 h2 h3 => HMin.out d h1 h2 h3), by omega, HMx.out, HFx.out⟩
          · have hfne : ((f : Int) == (k : Int)) = false := by rw [beq_eq_false_iff_ne]; omega
            have hf2 := hf1.resolve_left hfk
            go_wp2_with fail
            have SW := hid (swap_any g b m cap k f L' Y N' lim tm pu wr HMx.out (by rw [HLn.out]; exact hk2) (by rw [HLn.out]; exact hf0) (by rw [HLn.out]; exact hL) (fun z hz => HID.out z (HP.out.mem_iff.1 hz)) (by omega))
            refine SW.out.mono ?_
            rintro e w2 ⟨rfl, M2, F2⟩
            have HM2 := hid M2
            have HF2 := hid F2
            clear M2 F2 SW
            go_wp2_with fail
            go_roundw
            case rel =>
              have e1 : k < L'.length := by rw [HLn.out]; exact hk2
              have e2 : f < L'.length := by rw [HLn.out]; exact hf0
              have hD2 : DownF (ats (swp L' k f)) n f := down_step hf2.1 hf2.2 hf0 HDk.out HLe.out HMin.out (swp_i e1 e2) (swp_j e2) (fun q h1 h2 => swp_k e1 e2 h1 h2)
              exact ⟨f, swp L' k f, N' + 2, rfl, hf0, by omega, (swp_perm e1 e2).trans HP.out, by rw [swp_len, HLn.out], hD2, HM2.out, HFx.out.trans HF2.out⟩
            case measure => simp [intOf]; omega
      · have hc3' : ¬ (c : Int) ≤ 2 * (k : Int) + 2 := by omega
        have HMin := hid (fun d (h1 : 0 < d) (h2 : d < n) (h3 : (d - 1) / 2 = k) => HMin0.out d h1 h2 h3 (by omega))
        by_cases hfk : f = k
        · subst hfk
          go_wp2_with fail
          first | go_end0 | (refine bodyPost_ret (results_none rfl _ _ _) rfl ?_)
          exact ⟨rfl, L', N', HP.out, by rw [HLn.out]; exact down_done HDk.out (fun d h1 h2 h3 => HMin.out d h1 h2 h3), by omega, HMx.out, HFx.out⟩
        · have hfne : ((f : Int) == (k : Int)) = false := by rw [beq_eq_false_iff_ne]; omega
          have hf2 := hf1.resolve_left hfk
          go_wp2_with fail
          have SW := hid (swap_any g b m cap k f L' Y N' lim tm pu wr HMx.out (by rw [HLn.out]; exact hk2) (by rw [HLn.out]; exact hf0) (by rw [HLn.out]; exact hL) (fun z hz => HID.out z (HP.out.mem_iff.1 hz)) (by omega))
          refine SW.out.mono ?_
          rintro e w2 ⟨rfl, M2, F2⟩
          have HM2 := hid M2
          have HF2 := hid F2
          clear M2 F2 SW
          go_wp2_with fail
          go_roundw
          case rel =>
            have e1 : k < L'.length := by rw [HLn.out]; exact hk2
            have e2 : f < L'.length := by rw [HLn.out]; exact hf0
            have hD2 : DownF (ats (swp L' k f)) n f := down_step hf2.1 hf2.2 hf0 HDk.out HLe.out HMin.out (swp_i e1 e2) (swp_j e2) (fun q h1 h2 => swp_k e1 e2 h1 h2)
            exact ⟨f, swp L' k f, N' + 2, rfl, hf0, by omega, (swp_perm e1 e2).trans HP.out, by rw [swp_len, HLn.out], hD2, HM2.out, HFx.out.trans HF2.out⟩
          case measure => simp [intOf]; omega
end Go.Proofs.YtjeojnlkjecojaaDoor
