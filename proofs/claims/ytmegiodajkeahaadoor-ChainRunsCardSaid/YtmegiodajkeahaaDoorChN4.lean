/- The contract of Disclose of the reference of package chain. -/
import Derived.Test.YtmegiodajkeahaaDoorChN3
namespace Go.Proofs.YtmegiodajkeahaaDoor
open Go Go.RowKit
def RefDisP (W : World) (S : Nat → Prop) (g : Nat) (st sp de co : Int) (s : Pl.Rst) (i : Int) (key : Int × Int) (e : Ending) (w' : World) : Prop :=
  (Pl.dErr co s i key ≠ 0 ∧ e = .returned (.tuple #[.slice none 0 0, .int .i64 (Pl.dErr co s i key)]) ∧ Below W.heap.size W w') ∨
  (Pl.dErr co s i key = 0 ∧ ∃ rv S', e = .returned (.tuple #[rv, .int .i64 0]) ∧ RefS w' S' g st sp de co (Pl.dSt s i key) ∧ IsBB w' S' rv (Pl.dOut i key s.ms) ∧ Fr S S' W w')
theorem refDisP_err {W w' : World} {S : Nat → Prop} {g : Nat} {st sp de co : Int} {s : Pl.Rst} {i : Int} {key : Int × Int} {x : Int} (h : Pl.dErr co s i key = x) (hx : x ≠ 0) (hb : Below W.heap.size W w') :
    RefDisP W S g st sp de co s i key (.returned (.tuple #[.slice none 0 0, .int .i64 x])) w' := .inl ⟨by rw [h]; exact hx, by rw [h], hb⟩
theorem OwnK.row2 {w : World} {B : Nat} {v : Value} {l : List (Int × Int)} (h : OwnK w B v l) (h0 : 0 < l.length) :
    ∃ g cap, v = .slice (some ⟨g, 0, none⟩) l.length cap ∧ l.length ≤ cap ∧ g < w.heap.size ∧ ∀ (j : Nat) (u : Value), (kcells l)[j]? = some u → w.cell? ⟨g, j, none⟩ = some u := by
  obtain ⟨h1, h2⟩ := h
  rcases h2 with ⟨_, h2⟩ | ⟨g, cap, cur, rfl, hB, hh, hn, hc, hs, ht⟩
  · omega
  · refine ⟨g, cap, rfl, hn, Bk.lt (t := 37) hh, fun j u hu => ?_⟩
    have hj : j < (kcells l).length := (List.getElem?_eq_some_iff.1 hu).1
    rw [kcells_len] at hj
    rw [Bk.cell (t := 37) hh, ← ht, List.getElem?_take_of_lt (by omega)] at *
    simpa using hu
theorem ref_elem {w : World} {B : Nat} {v : Value} {L : List Lm} {k : Nat} {x : Lm} (h : w.ownsRow B 84 3 v L.length (mcells L)) (hx : L[k]? = some x) :
    ∃ q cap, v = .slice (some ⟨q, 0, none⟩) L.length cap ∧ w.cell? ⟨q, k * 3, none⟩ = some (.int .i64 x.1.i) ∧ w.cell? ⟨q, k * 3 + 1, none⟩ = some (.slice x.2.1 x.1.b.length x.2.2) ∧ w.cell? ⟨q, k * 3 + 2, none⟩ = some (.int .u64 x.1.t) := by
  have hk : k < L.length := (List.getElem?_eq_some_iff.1 hx).1
  obtain ⟨e1, e2, e3⟩ := mcells_get L k x hx
  rcases h.2 with ⟨_, h0⟩ | ⟨q, cap, cur, rfl, _, hh, _, _, _, ht⟩
  · omega
  · refine ⟨q, cap, rfl, ?_, ?_, ?_⟩
    · rw [← ht, List.getElem?_take_of_lt (by omega)] at e1
      rw [Bk.cell (t := 84) hh]; simpa using e1
    · rw [← ht, List.getElem?_take_of_lt (by omega)] at e2
      rw [Bk.cell (t := 84) hh]; simpa using e2
    · rw [← ht, List.getElem?_take_of_lt (by omega)] at e3
      rw [Bk.cell (t := 84) hh]; simpa using e3
theorem isl_mac (w : World) : IsSl (w.alloc (.cells #[.int .u8 109, .int .u8 97, .int .u8 99] 5)) (some ⟨w.heap.size, 0, none⟩) .u8 kMac := IsSl.of_bk kMac (Bk.new w 5 _) rfl
theorem OwnK.far_ {w : World} {B B' : Nat} {v : Value} {l : List (Int × Int)} (h : OwnK w B v l) (hB : B' ≤ B) : OwnK w B' v l := by
  obtain ⟨a1, a2⟩ := h
  refine ⟨a1, ?_⟩
  rcases a2 with a2 | ⟨b, cap, cur, hv, h, r⟩
  · exact .inl a2
  · exact .inr ⟨b, cap, cur, hv, Nat.le_trans hB h, r⟩
attribute [local simp high] guard_bind eql_key neq_key
set_option maxHeartbeats 4000000 in
set_option maxRecDepth 100000 in
theorem refDisclose_any (S : Nat → Prop) (g : Nat) (st sp de co : Int) (s : Pl.Rst) (i : Int) (key : Int × Int) (W : World) (M : RefS W S g st sp de co s) (hs : Pl.okR co s) (hco : co ≤ 64) :
    Calls Tryd.prog 29 #[pt g, .int .i64 i, .agg #[.int .u64 key.1, .int .u64 key.2]] W (RefDisP W S g st sp de co s i key) := by
  have B0 := (Below.refl W.heap.size W).alloc (Nat.le_refl _) (.cells #[.int .u64 key.1, .int .u64 key.2] 37)
  have KX := Bk.new W 37 #[.int .u64 key.1, .int .u64 key.2]
  obtain ⟨x0, x1⟩ := KX.two
  obtain ⟨N, kv, v, L, M⟩ := M
  have MM := M.next B0
  obtain ⟨⟨Av, cv, hv⟩, kb, kc, hkv, _⟩ := MM.shape
  have c3 : (W.alloc (.cells #[.int .u64 key.1, .int .u64 key.2] 37)).cell? ⟨g, 3, none⟩ = some (.int .i64 co) := MM.bk.cell 3
  have c4 : (W.alloc (.cells #[.int .u64 key.1, .int .u64 key.2] 37)).cell? ⟨g, 4, none⟩ = some kv := MM.bk.cell 4
  have hkn := MM.kn
  have hkn1 := hs.kn1
  have hlen := hs.len
  have hLL : L.length = s.ms.length := by rw [← M.ms]; simp
  generalize hLn : s.ms.length = ln at *
  subst hv
  subst hkv
  have HS := hid (And.intro hs (And.intro hLL hLn))
  have HM := hid M
  have HMM := hid MM
  have HKN := hid hkn
  have hN64 : N ≤ 64 := by omega
  have hln : ln ≤ 64 := hlen
  rw [hkn] at hkn1
  clear hs hLL hLn M MM hkn hlen
  by_cases h1 : i < 1
  · have hE := hid (show Pl.dErr co s i key = 3 by unfold Pl.dErr; rw [if_pos (.inl h1)])
    go_enter Tryd.func29, Tryd.ntmps29
    go_wp2
    go_ret2
    exact refDisP_err hE.out (by decide) B0
  by_cases h2 : co < i
  · have hE := hid (show Pl.dErr co s i key = 3 by unfold Pl.dErr; rw [if_pos (.inr h2)])
    go_enter Tryd.func29, Tryd.ntmps29
    go_wp2
    go_ret2
    exact refDisP_err hE.out (by decide) B0
  by_cases h3 : i ≤ (N : Int)
  · have hE := hid (show Pl.dErr co s i key = 10 by unfold Pl.dErr; rw [if_neg (by omega), if_pos (by rw [HKN.out]; exact h3)])
    have h3' : i < (N : Int) + 1 := by omega
    go_enter Tryd.func29, Tryd.ntmps29
    go_wp2
    go_ret2
    exact refDisP_err hE.out (by decide) B0
  have hE0 : Pl.dErr co s i key = if Pl.dnN key (i - (N : Int)).toNat = s.key then 0 else 16 := by unfold Pl.dErr; rw [if_neg (by omega), HKN.out, if_neg h3]
  obtain ⟨n, rfl⟩ : ∃ n : Nat, i = (n : Int) := ⟨i.toNat, by omega⟩
  obtain ⟨m, hm⟩ : ∃ m : Nat, n = N + m := ⟨n - N, by omega⟩
  have hm1 : 1 ≤ m := by omega
  have hm64 : m ≤ 64 := by omega
  have hn64 : n ≤ 64 := by omega
  rw [show ((n : Int) - (N : Int)).toNat = m by omega] at hE0
  have HE0 := hid hE0
  have hsub : (n : Int) - (N : Int) = (m : Int) := by omega
  have h3' : ¬ (n : Int) < (N : Int) + 1 := by omega
  have HNM := hid hm
  have CH := hid (fun w => refChain_any key.1 key.2 m hm64 w)
  have HB0 := hid B0
  have HKX := hid KX
  clear hE0 hm B0 KX
  go_enter Tryd.func29, Tryd.ntmps29
  go_wp2_with fail
  generalize W.alloc (.cells #[.int .u64 key.1, .int .u64 key.2] 37) = w0 at *
  refine (CH.out _).mono ?_
  rintro e w2 ⟨⟨lv, rfl, hO⟩, hb2⟩
  have HB2 := hid (bstep HB0.out hb2)
  replace HMM := hid (HMM.out.next hb2)
  obtain ⟨lb, lc, rfl, hlc, hlb, hlcell⟩ := hO.row2 (by rw [Pl.keysL_len]; omega)
  rw [Pl.keysL_len] at hlc ⊢
  have hl0 := hlcell 0 _ (kcells_get _ 0 _ (Pl.keysL_get key m 0 (Nat.zero_le _))).1
  have hl1 := hlcell 1 _ (kcells_get _ 0 _ (Pl.keysL_get key m 0 (Nat.zero_le _))).2
  rw [Nat.sub_zero] at hl0 hl1
  have c4' : w2.cell? ⟨g, 4, none⟩ = some (.slice (some ⟨kb, 0, none⟩) (N + 1) kc) := HMM.out.bk.cell 4
  obtain ⟨kb', kc', hkv2, _, hkb, hkcell⟩ := HMM.out.keys.row2 (by rw [Pl.keysL_len]; omega)
  obtain rfl : kb = kb' := by simp only [Value.slice.injEq, Option.some.injEq, Addr.mk.injEq] at hkv2; exact hkv2.1.1
  have hk0 := hkcell (N * 2) _ (kcells_get _ N _ (Pl.keysL_get s.key N N (Nat.le_refl _))).1
  have hk1 := hkcell (N * 2 + 1) _ (kcells_get _ N _ (Pl.keysL_get s.key N N (Nat.le_refl _))).2
  rw [Nat.sub_self] at hk0 hk1
  have hdk : Pl.dnN s.key 0 = s.key := rfl
  rw [hdk] at hk0 hk1
  have HLC0 := hid (And.intro hlb hlcell)
  have HKC0 := hid (And.intro hkb hkcell)
  clear x0 x1 c3 c4 hb2 hO hlcell hlb hkv2 hkb hkcell CH HB0 hdk
  by_cases heq : Pl.dnN key m = s.key
  · have hE := hid (show Pl.dErr co s n key = 0 by rw [HE0.out, if_pos heq])
    have HEQ := hid heq
    rw [heq] at hl0 hl1
    clear heq HE0
    go_wp2_with fail
    go_quiet (fail)
    have Hdn : Below w2.heap.size w2 (w2.drewN nq) := bdrewN (Below.refl _ _) nq
    have HBa := hid (bstep HB2.out Hdn)
    have HMa0 := hid (HMM.out.next Hdn)
    have HLC1 := hid (fun w' (hb : Below (w2.drewN nq).heap.size (w2.drewN nq) w') (j : Nat) (u : Value) (hu : (kcells ((Pl.keysL key m).drop 1))[j]? = some u) => show w'.cell? ⟨lb, 2 + j, none⟩ = some u from (hb.cell (p := ⟨lb, 2 + j, none⟩) (show lb < w2.heap.size from HLC0.out.1)).trans (HLC0.out.2 (2 + j) u (by rw [← kcells_drop] at hu; simpa using hu)))
    have HKC1 := hid (fun w' (hb : Below (w2.drewN nq).heap.size (w2.drewN nq) w') (j : Nat) (u : Value) (hu : (kcells (Pl.keysL s.key N))[j]? = some u) => show w'.cell? ⟨kb, 0 + j, none⟩ = some u from (hb.cell (p := ⟨kb, 0 + j, none⟩) (show kb < w2.heap.size from HKC0.out.1)).trans (by rw [Nat.zero_add]; exact HKC0.out.2 j u hu))
    clear hl0 hl1 hk0 hk1 c4' Hdn
    go_upto_region 11 with (fail)
    generalize w2.drewN nq = wa at *
    have HMa := HMa0
    have HLC := HLC1
    have HKC := HKC1
    clear HMa0 HLC1 HKC1
    have D4 : Hid (∀ w4, Below wa.heap.size wa w4 → w4.cell? ⟨g, 4, none⟩ = some (.slice (some ⟨kb, 0, none⟩) (N + 1) kc)) := hid (fun w4 h => (HMa.out.next h).bk.cell 4)
    have HBq : Hid (Below wa.heap.size wa wa.drew) := hid ((Below.refl _ _).drew)
    have hlc1 : 1 < lc := by omega
    have hlc2 : ¬ lc = 1 := by omega
    have hm2 : (1 : Int) ≤ (m : Int) + 1 := by omega
    go_cut [8] (fun t8 wx => t8 = .int .i64 (N : Int) ∧ ∃ kv' S1, RefM wx S1 g st sp de co ⟨(n : Int), key, s.ms⟩ n kv' (.slice Av ln cv) L ∧ Fr S S1 wa wx)
    case first =>
      refine wp_region_held_drew (S := fun _ => True) (by kernel_rfl) trivial (fun hHeld => ?_)
      generalize wa.drew = w30 at *
      refine wpAnyH_take (i := 0) (oi := ⟨some 59, _, _, _, _, _⟩) (v := ?_) rfl (by kernel_rfl) (by kernel_rfl) (by kernel_rfl) (fun _ _ _ h => h) (Or.inl ⟨by rfl, ?_⟩) (by assumption) ?_
      rotate_left
      focus
        intro w hSw
        go_simp
        first
        | done
        | with_reducible rfl
      try simp only [Act.put, List.setIfInBounds_toArray, List.set_cons_zero, List.set_cons_succ]
      refine wpAnyH_take (i := 2) (oi := ⟨some 61, _, _, _, _, _⟩) (v := ?_) rfl (by kernel_rfl) (by kernel_rfl) (by kernel_rfl) (fun _ _ _ h => h) (Or.inl ⟨by rfl, ?_⟩) (by assumption) ?_
      rotate_left
      focus
        intro w hSw
        go_simp
        first
        | done
        | with_reducible rfl
      try simp only [Act.put, List.setIfInBounds_toArray, List.set_cons_zero, List.set_cons_succ]
      refine wpAnyH_take (i := 3) (oi := ⟨some 62, _, _, _, _, _⟩) (v := ?_) rfl (by kernel_rfl) (by kernel_rfl) (by kernel_rfl) (fun _ _ _ h => h) (Or.inl ⟨by rfl, ?_⟩) (by assumption) ?_
      rotate_left
      focus
        intro w hSw
        go_simp
        first
        | done
        | with_reducible rfl
      try simp only [Act.put, List.setIfInBounds_toArray, List.set_cons_zero, List.set_cons_succ]
      refine wpAnyH_take (i := 4) (oi := ⟨some 63, _, _, _, _, _⟩) (v := ?_) rfl (by kernel_rfl) (by kernel_rfl) (by kernel_rfl) (fun _ _ _ h => h) (Or.inl ⟨by rfl, ?_⟩) (by assumption) ?_
      rotate_left
      focus
        intro w hSw
        go_simp
        first
        | done
        | with_reducible rfl
      try simp only [Act.put, List.setIfInBounds_toArray, List.set_cons_zero, List.set_cons_succ]
      refine wpAnyH_take (i := 7) (oi := ⟨some 66, _, _, _, _, _⟩) (v := ?_) rfl (by kernel_rfl) (by kernel_rfl) (by kernel_rfl) (fun _ _ _ h => h) (Or.inl ⟨by rfl, ?_⟩) (by assumption) ?_
      rotate_left
      focus
        intro w hSw
        go_simp
        first
        | done
        | with_reducible rfl
      try simp only [Act.put, List.setIfInBounds_toArray, List.set_cons_zero, List.set_cons_succ]
      refine wpAnyH_take (i := 8) (oi := ⟨some 67, _, _, _, _, _⟩) (v := ?_) rfl (by kernel_rfl) (by kernel_rfl) (by kernel_rfl) (fun _ _ _ h => h) (Or.inl ⟨by rfl, ?_⟩) (by assumption) ?_
      rotate_left
      focus
        intro w hSw
        go_simp
        first
        | done
        | with_reducible rfl
      try simp only [Act.put, List.setIfInBounds_toArray, List.set_cons_zero, List.set_cons_succ]
      refine wpAnyH_ready (rs := [1, 5]) (by kernel_rfl) (by simp) ?_
      refine AllReadyH.cons (o := ⟨some 60, _, _, _, _, _⟩) rfl (fun K hK => ?_) (AllReadyH.cons (o := ⟨some 64, _, _, _, _, _⟩) rfl (fun K hK => ?_) AllReadyH.nil)
      · go_simp
        have HE := hid (OwnK.empty (Bk.new w30 37 #[]) HBq.out.size)
        replace HBq := hid (HBq.out.alloc HBq.out.size (.cells #[] 37))
        generalize w30.alloc (.cells #[] 37) = wq0 at *
        generalize w30.heap.size = p1 at *
        refine hK.out _ _ trivial (fun hHeld => ?_)
        clear hK K
        try simp only [Act.put, List.setIfInBounds_toArray, List.set_cons_zero, List.set_cons_succ]
        refine wpAnyH_ready (rs := [5]) (by kernel_rfl) (by simp) ?_
        refine AllReadyH.cons (o := ⟨some 64, _, _, _, _, _⟩) rfl (fun K hK => ?_) AllReadyH.nil
        have cL := D4.out _ HBq.out
        go_simp
        clear cL
        refine hK.out _ _ trivial (fun hHeld => ?_)
        clear hK K
        try simp only [Act.put, List.setIfInBounds_toArray, List.set_cons_zero, List.set_cons_succ]
        refine wpAnyH_ready (rs := [6]) (by kernel_rfl) (by simp) ?_
        refine AllReadyH.cons (o := ⟨some 65, _, _, _, _, _⟩) rfl (fun K hK => ?_) AllReadyH.nil
        refine step_app_keys (by rfl) (.tmp 60) (.tmp 64) (by rfl) wa.heap.size _ [] (by rfl) HE.out kb 0 (N + 1) kc (Pl.keysL s.key N) (Pl.keysL_len _ _) (by rfl) (HKC.out _ HBq.out) (by simp) (by omega) HBq.out.size ?_
        intro v1 wq2 O1 BB1
        simp only [List.nil_append] at O1
        have HO1 := hid O1
        replace HBq := hid (HBq.out.trans BB1)
        clear O1 BB1 HE
        refine hK.out _ _ trivial (fun hHeld => ?_)
        clear hK K
        try simp only [Act.put, List.setIfInBounds_toArray, List.set_cons_zero, List.set_cons_succ]
        refine wpAnyH_ready (rs := [9]) (by kernel_rfl) (by simp) ?_
        refine AllReadyH.cons (o := ⟨some 68, _, _, _, _, _⟩) rfl (fun K hK => ?_) AllReadyH.nil
        refine step_app_keys (by rfl) (.tmp 65) (.tmp 67) (by rfl) wa.heap.size _ (Pl.keysL s.key N) (by rfl) HO1.out lb 2 m (lc - 1) ((Pl.keysL key m).drop 1) (by rw [List.length_drop, Pl.keysL_len]; omega) (by rfl) (HLC.out _ HBq.out) (by rw [Pl.keysL_len]; omega) (by omega) HBq.out.size ?_
        intro v2 wq3 O2 BB2
        rw [Pl.keysL_join HEQ.out N] at O2
        obtain ⟨b2, cb2, hv2, _⟩ := O2.row2 (by rw [Pl.keysL_len]; omega)
        rw [Pl.keysL_len] at hv2
        subst hv2
        have HO2 := hid O2
        replace HBq := hid (HBq.out.trans BB2)
        have K5 := (HMa.out.next HBq.out).bk
        have e4 := K5.cell 4
        have f4 := K5.free 4
        clear K5 O2 BB2 HO1
        simp only [rrc, List.getElem?_toArray, List.getElem?_cons_zero, List.getElem?_cons_succ] at e4
        refine hK.out _ _ trivial (fun hHeld => ?_)
        clear hK K
        try simp only [Act.put, List.setIfInBounds_toArray, List.set_cons_zero, List.set_cons_succ]
        refine wpAnyH_take (i := 10) (oi := ⟨some 69, _, _, _, _, _⟩) (v := ?_) rfl (by kernel_rfl) (by kernel_rfl) (by kernel_rfl) (fun _ _ _ h => h) (Or.inl ⟨by rfl, ?_⟩) (by assumption) ?_
        rotate_left
        focus
          intro w hSw
          go_simp
          first
          | done
          | with_reducible rfl
        try simp only [Act.put, List.setIfInBounds_toArray, List.set_cons_zero, List.set_cons_succ]
        refine wpAnyH_take (i := 11) (oi := ⟨some 70, _, _, _, _, _⟩) (v := ?_) rfl (by kernel_rfl) (by kernel_rfl) (by kernel_rfl) (fun _ _ _ h => h) (Or.inl ⟨by rfl, ?_⟩) (by assumption) ?_
        rotate_left
        focus
          intro w hSw
          go_simp
          first
          | done
          | with_reducible rfl
        try simp only [Act.put, List.setIfInBounds_toArray, List.set_cons_zero, List.set_cons_succ]
        refine wpAnyH_ready (rs := [12]) (by kernel_rfl) (by simp) ?_
        refine AllReadyH.cons (o := ⟨none, _, _, _, _, _⟩) rfl (fun K hK => ?_) AllReadyH.nil
        go_simp
        refine hK.out _ _ trivial (fun hHeld => ?_)
        clear hK K
        try simp only [Act.put, List.setIfInBounds_toArray, List.set_cons_zero, List.set_cons_succ]
        refine wpAnyH_done (by kernel_rfl) ?_ _
        clear hHeld e4 f4
        have HRK := hid (refKeys_end HMa.out HBq.out HO2.out)
        clear HO2 HBq
        go_wp2_with fail
        go_meet
        refine ⟨rfl, .slice (some ⟨b2, 0, none⟩) (N + m + 1) cb2, _, ?_, HRK.out.2⟩
        rw [HNM.out]
        exact HRK.out.1
      · have cL := D4.out _ HBq.out
        go_simp
        clear cL
        refine hK.out _ _ trivial (fun hHeld => ?_)
        clear hK K
        try simp only [Act.put, List.setIfInBounds_toArray, List.set_cons_zero, List.set_cons_succ]
        refine wpAnyH_ready (rs := [1]) (by kernel_rfl) (by simp) ?_
        refine AllReadyH.cons (o := ⟨some 60, _, _, _, _, _⟩) rfl (fun K hK => ?_) AllReadyH.nil
        go_simp
        have HE := hid (OwnK.empty (Bk.new w30 37 #[]) HBq.out.size)
        replace HBq := hid (HBq.out.alloc HBq.out.size (.cells #[] 37))
        generalize w30.alloc (.cells #[] 37) = wq1 at *
        generalize w30.heap.size = p1 at *
        refine hK.out _ _ trivial (fun hHeld => ?_)
        clear hK K
        try simp only [Act.put, List.setIfInBounds_toArray, List.set_cons_zero, List.set_cons_succ]
        refine wpAnyH_ready (rs := [6]) (by kernel_rfl) (by simp) ?_
        refine AllReadyH.cons (o := ⟨some 65, _, _, _, _, _⟩) rfl (fun K hK => ?_) AllReadyH.nil
        refine step_app_keys (by rfl) (.tmp 60) (.tmp 64) (by rfl) wa.heap.size _ [] (by rfl) HE.out kb 0 (N + 1) kc (Pl.keysL s.key N) (Pl.keysL_len _ _) (by rfl) (HKC.out _ HBq.out) (by simp) (by omega) HBq.out.size ?_
        intro v1 wq2 O1 BB1
        simp only [List.nil_append] at O1
        have HO1 := hid O1
        replace HBq := hid (HBq.out.trans BB1)
        clear O1 BB1 HE
        refine hK.out _ _ trivial (fun hHeld => ?_)
        clear hK K
        try simp only [Act.put, List.setIfInBounds_toArray, List.set_cons_zero, List.set_cons_succ]
        refine wpAnyH_ready (rs := [9]) (by kernel_rfl) (by simp) ?_
        refine AllReadyH.cons (o := ⟨some 68, _, _, _, _, _⟩) rfl (fun K hK => ?_) AllReadyH.nil
        refine step_app_keys (by rfl) (.tmp 65) (.tmp 67) (by rfl) wa.heap.size _ (Pl.keysL s.key N) (by rfl) HO1.out lb 2 m (lc - 1) ((Pl.keysL key m).drop 1) (by rw [List.length_drop, Pl.keysL_len]; omega) (by rfl) (HLC.out _ HBq.out) (by rw [Pl.keysL_len]; omega) (by omega) HBq.out.size ?_
        intro v2 wq3 O2 BB2
        rw [Pl.keysL_join HEQ.out N] at O2
        obtain ⟨b2, cb2, hv2, _⟩ := O2.row2 (by rw [Pl.keysL_len]; omega)
        rw [Pl.keysL_len] at hv2
        subst hv2
        have HO2 := hid O2
        replace HBq := hid (HBq.out.trans BB2)
        have K5 := (HMa.out.next HBq.out).bk
        have e4 := K5.cell 4
        have f4 := K5.free 4
        clear K5 O2 BB2 HO1
        simp only [rrc, List.getElem?_toArray, List.getElem?_cons_zero, List.getElem?_cons_succ] at e4
        refine hK.out _ _ trivial (fun hHeld => ?_)
        clear hK K
        try simp only [Act.put, List.setIfInBounds_toArray, List.set_cons_zero, List.set_cons_succ]
        refine wpAnyH_take (i := 10) (oi := ⟨some 69, _, _, _, _, _⟩) (v := ?_) rfl (by kernel_rfl) (by kernel_rfl) (by kernel_rfl) (fun _ _ _ h => h) (Or.inl ⟨by rfl, ?_⟩) (by assumption) ?_
        rotate_left
        focus
          intro w hSw
          go_simp
          first
          | done
          | with_reducible rfl
        try simp only [Act.put, List.setIfInBounds_toArray, List.set_cons_zero, List.set_cons_succ]
        refine wpAnyH_take (i := 11) (oi := ⟨some 70, _, _, _, _, _⟩) (v := ?_) rfl (by kernel_rfl) (by kernel_rfl) (by kernel_rfl) (fun _ _ _ h => h) (Or.inl ⟨by rfl, ?_⟩) (by assumption) ?_
        rotate_left
        focus
          intro w hSw
          go_simp
          first
          | done
          | with_reducible rfl
        try simp only [Act.put, List.setIfInBounds_toArray, List.set_cons_zero, List.set_cons_succ]
        refine wpAnyH_ready (rs := [12]) (by kernel_rfl) (by simp) ?_
        refine AllReadyH.cons (o := ⟨none, _, _, _, _, _⟩) rfl (fun K hK => ?_) AllReadyH.nil
        go_simp
        refine hK.out _ _ trivial (fun hHeld => ?_)
        clear hK K
        try simp only [Act.put, List.setIfInBounds_toArray, List.set_cons_zero, List.set_cons_succ]
        refine wpAnyH_done (by kernel_rfl) ?_ _
        clear hHeld e4 f4
        have HRK := hid (refKeys_end HMa.out HBq.out HO2.out)
        clear HO2 HBq
        go_wp2_with fail
        go_meet
        refine ⟨rfl, .slice (some ⟨b2, 0, none⟩) (N + m + 1) cb2, _, ?_, HRK.out.2⟩
        rw [HNM.out]
        exact HRK.out.1
    case rest =>
      obtain ⟨rfl, kv', S1, M1, F1⟩ := hcut
      obtain ⟨_, kd, kdc, hkv', hkd, hkdS, hkdg, _⟩ := M1.shape
      subst hkv'
      have HM1 := hid M1
      have HF1 := hid F1
      have hlnm : ln ≤ 64 := hln
      clear M1 F1 hkd hkdS hkdg HKC HLC HMa D4 HBq HLC0 HKC0 HMM hlc hlc1 hlc2 hm2
      go_wp2_with fail
      go_loopw [10, 11, 12] (fun rv sv iv wr => ∃ k : Nat, k ≤ ln ∧ iv = .int .i64 (k : Int) ∧ RdI wc (n : Int) key L k rv sv wr) (fun _ _ iv _ => ln - (intOf iv).toNat)
      case atStart => exact ⟨0, Nat.zero_le _, rfl, RdI.zero _ _ _ _⟩
      case round =>
        obtain ⟨k, hk, rfl, I⟩ := hrel
        have HI := hid I
        have HMr := hid (HM1.out.next I.bel)
        clear I
        by_cases hlt : k < ln
        · obtain ⟨x, hx⟩ : ∃ x, L[k]? = some x := ⟨L[k]'(by have := HS.out.2.1; omega), List.getElem?_eq_getElem _⟩
          obtain ⟨q, cap, hq, e0, e1, e2⟩ := ref_elem HMr.out.own hx
          have hLl : L.length = ln := HS.out.2.1
          rw [hLl] at hq
          simp only [Value.slice.injEq, true_and] at hq
          obtain ⟨rfl, rfl⟩ := hq
          have c5 : wr.cell? ⟨g, 5, none⟩ = some (.slice (some ⟨q, 0, none⟩) ln cv) := HMr.out.bk.cell 5
          obtain ⟨⟨mi, mb, mt⟩, Am, cm⟩ := x
          have hxm := List.mem_of_getElem? hx
          have hmm : (⟨mi, mb, mt⟩ : Pl.Msg) ∈ s.ms := by
            have h := HMr.out.ms
            simp only at h
            rw [← h]; exact List.mem_map.2 ⟨_, hxm, rfl⟩
          obtain ⟨hm0, hm1', hmB⟩ := HS.out.1.each _ hmm
          obtain ⟨hby1, hby2⟩ := HMr.out.byt _ hxm
          simp only at e0 e1 e2 hm0 hm1' hmB hby1
          have HBY := hid hby1
          have HOB := hid hmB
          have Hx := hid hx
          have hkn0 := HS.out.1.kn0
          generalize hml : mb.length = ml at *
          have HML := hid hml
          clear hx hxm hmm hby1 hby2 hmB hml hLl
          have BA := hid ((Below.refl wr.heap.size wr).alloc (Nat.le_refl _) (.cells #[.int .i64 mi, .slice Am ml cm, .int .u64 mt] 84))
          have KB := hid (Bk.new wr 84 #[.int .i64 mi, .slice Am ml cm, .int .u64 mt])
          have b0 := KB.out.cell 0
          have b1 := KB.out.cell 1
          have b2 := KB.out.cell 2
          simp only [List.getElem?_toArray, List.getElem?_cons_zero, List.getElem?_cons_succ] at b0 b1 b2
          by_cases hgt : (n : Int) < mi
          · obtain ⟨i0, hi0, hz⟩ := Option.map_eq_some_iff.1 info_held
            simp only [Prod.mk.injEq] at hz
            have HI0 := hid hi0
            have HZ := hid hz
            have hsl := stayL_le (n : Int) L k
            have HI2 := hid ((HI.out.next BA.out).next ((Below.refl _ _).alloc (Nat.le_refl _) (.cells #[.int .i64 mi, .slice Am ml cm, .int .u64 mt] 84)))
            have HSRC : Hid (∀ (jj : Nat) (u : Value), ([.int .i64 mi, .slice Am ml cm, .int .u64 mt] : List Value)[jj]? = some u → ((wr.alloc (.cells #[.int .i64 mi, .slice Am ml cm, .int .u64 mt] 84)).alloc (.cells #[.int .i64 mi, .slice Am ml cm, .int .u64 mt] 84)).cell? ((⟨wr.heap.size + 1, 0, none⟩ : Addr).add jj) = some u) := hid (by
              intro jj u hj
              have h1 := Bk.new (wr.alloc (.cells #[.int .i64 mi, .slice Am ml cm, .int .u64 mt] 84)) 84 #[.int .i64 mi, .slice Am ml cm, .int .u64 mt]
              have h2 : (wr.alloc (.cells #[.int .i64 mi, .slice Am ml cm, .int .u64 mt] 84)).heap.size = wr.heap.size + 1 := by simp
              rw [h2] at h1
              rw [add_none, Bk.cell h1]
              simpa using hj)
            have HWs : Hid (wc.heap.size ≤ ((wr.alloc (.cells #[.int .i64 mi, .slice Am ml cm, .int .u64 mt] 84)).alloc (.cells #[.int .i64 mi, .slice Am ml cm, .int .u64 mt] 84)).heap.size) := hid HI2.out.bel.size
            have Hgt := hid hgt
            clear hi0 hz
            go_wp2_with (at_builtin; refine wpList_append_own_at _ (by rfl) (.tmp 91) (.tmp 93) 77 (by rfl) wc.heap.size 84 i0 _ 3 40 Tryd.underlying77 HI0.out HZ.out.1 HZ.out.2.1 HZ.out.2.2 (by rfl) (by decide) u11 (stayL (n : Int) (L.take k)).length (mcells (stayL (n : Int) (L.take k))) (by rfl) HI2.out.kept ⟨wr.heap.size + 1, 0, none⟩ 1 1 [.int .i64 mi, .slice Am ml cm, .int .u64 mt] (by rfl) (by rfl) HSRC.out (by simp [Value.oneCell']) (by simp only [maxLen]; omega) (by omega) HWs.out ?_; intro v' w5 O5 hg5 hn5 hat5; have HG5 := hid (And.intro O5 (And.intro hg5 hat5)); clear O5 hg5 hn5 hat5)
            go_roundw
            case rel =>
              obtain ⟨O5, hg5, hat5⟩ := HG5.out
              refine ⟨k + 1, by omega, by simp, RdI.keep HI2.out Hx.out Hgt.out hg5 ?_ hat5⟩
              show w5.ownsRow wc.heap.size 84 3 v' _ (_ ++ [.int .i64 mi, .slice Am mb.length cm, .int .u64 mt])
              rw [HML.out]
              exact O5
            case measure => simp [intOf]; omega
          · obtain ⟨j, rfl⟩ : ∃ j : Nat, mi = (j : Int) := ⟨mi.toNat, by omega⟩
            have hjn : j ≤ n := by omega
            have hjn1 : ((j : Int) < (n : Int) + 1) = True := eq_true (by omega)
            obtain ⟨kd', kdc', hkq, _, hkdl, hkcell⟩ := HMr.out.keys.row2 (by rw [Pl.keysL_len]; omega)
            obtain rfl : kd = kd' := by simp only [Value.slice.injEq, Option.some.injEq, Addr.mk.injEq] at hkq; exact hkq.1.1
            have hk0 := hkcell (j * 2) _ (kcells_get _ j _ (Pl.keysL_get key n j hjn)).1
            have hk1 := hkcell (j * 2 + 1) _ (kcells_get _ j _ (Pl.keysL_get key n j hjn)).2
            have Hright : Hid (Pl.rightB (n : Int) key ⟨(j : Int), mb, mt⟩ = (Pl.tagOf (Pl.d1 (Pl.dnN key (n - j)).1 (Pl.dnN key (n - j)).2 kMac) (Pl.d2 (Pl.dnN key (n - j)).1 (Pl.dnN key (n - j)).2 kMac) mb == mt)) := hid (by
              unfold Pl.rightB
              simp only
              rw [show ((n : Int) - (j : Int)).toNat = n - j by omega]
              rfl)
            generalize Pl.dnN key (n - j) = kk at *
            have c4 : wr.cell? ⟨g, 4, none⟩ = some (.slice (some ⟨kd, 0, none⟩) (n + 1) kdc) := HMr.out.bk.cell 4
            have hgl := HMr.out.bk.lt
            have Hgt := hid hgt
            go_wp2_with fail
            generalize hwx : wr.alloc (.cells #[.int .i64 (j : Int), .slice Am ml cm, .int .u64 mt] 84) = wx at *
            generalize hbx : wr.heap.size = bx at *
            have hxl : bx < wx.heap.size := KB.out.lt
            have HSX : Hid (∀ w', Below wx.heap.size wx w' → (w'.cell? ⟨g, 4, none⟩ = some (.slice (some ⟨kd, 0, none⟩) (n + 1) kdc)) ∧ (w'.cell? ⟨bx, 0, none⟩ = some (.int .i64 (j : Int))) ∧ (w'.cell? ⟨bx, 1, none⟩ = some (.slice Am ml cm)) ∧ (w'.cell? ⟨bx, 2, none⟩ = some (.int .u64 mt)) ∧ (w'.cell? ⟨kd, j * 2, none⟩ = some (.int .u64 kk.1)) ∧ (w'.cell? ⟨kd, j * 2 + 1, none⟩ = some (.int .u64 kk.2))) := hid (fun w' hb => by
              have hz : bx ≤ wx.heap.size := by rw [← hbx]; exact BA.out.size
              exact ⟨(hb.cell (p := ⟨g, 4, none⟩) (by dsimp only; omega)).trans ((BA.out.cell (p := ⟨g, 4, none⟩) hgl).trans c4), (hb.cell (p := ⟨bx, 0, none⟩) hxl).trans b0, (hb.cell (p := ⟨bx, 1, none⟩) hxl).trans b1, (hb.cell (p := ⟨bx, 2, none⟩) hxl).trans b2,
                (hb.cell (p := ⟨kd, j * 2, none⟩) (by dsimp only; omega)).trans ((BA.out.cell (p := ⟨kd, j * 2, none⟩) hkdl).trans hk0), (hb.cell (p := ⟨kd, j * 2 + 1, none⟩) (by dsimp only; omega)).trans ((BA.out.cell (p := ⟨kd, j * 2 + 1, none⟩) hkdl).trans hk1)⟩)
            have HIx : Hid (RdI wc (n : Int) key L k u10 u11 wx) := hid (HI.out.next (hbx ▸ BA.out))
            have HSA : Hid (IsSl wx Am .u8 mb) := hid (HBY.out.next (hbx ▸ BA.out))
            have HBw : Hid (Below wx.heap.size wx wx.drew) := hid ((Below.refl _ _).drew)
            have DV := hid (fun (w : World) (p : Nat) (h : IsSl w (some ⟨p, 0, none⟩) .u8 kMac) => refDerive_any kk.1 kk.2 (some ⟨p, 0, none⟩) 3 kMac w h (by decide) (by decide))
            have CV : Hid (∀ w : World, IsSl w Am .u8 mb → Calls Tryd.prog 46 #[.agg #[.int .u64 (Pl.d1 kk.1 kk.2 kMac), .int .u64 (Pl.d2 kk.1 kk.2 kMac)], .slice Am ml cm, .int .u64 mt] w fun e w' => e = .returned (.bool (Pl.tagOf (Pl.d1 kk.1 kk.2 kMac) (Pl.d2 kk.1 kk.2 kMac) mb == mt)) ∧ Below w.heap.size w w') := hid (fun w h => by
              have := refMacCheck_any (Pl.d1 kk.1 kk.2 kMac) (Pl.d2 kk.1 kk.2 kMac) Am cm mb mt w h HOB.out.1 (by have := HOB.out.2; omega)
              rw [HML.out] at this
              exact this)
            clear b0 b1 b2 c4 c5 hk0 hk1 e0 e1 e2 hkcell hkq BA hwx hbx HI
            refine wp_region_held_drew (S := (fun w' => (w'.cell? ⟨g, 4, none⟩ = some (.slice (some ⟨kd, 0, none⟩) (n + 1) kdc)) ∧ (w'.cell? ⟨bx, 0, none⟩ = some (.int .i64 (j : Int))) ∧ (w'.cell? ⟨bx, 1, none⟩ = some (.slice Am ml cm)) ∧ (w'.cell? ⟨bx, 2, none⟩ = some (.int .u64 mt)) ∧ (w'.cell? ⟨kd, j * 2, none⟩ = some (.int .u64 kk.1)) ∧ (w'.cell? ⟨kd, j * 2 + 1, none⟩ = some (.int .u64 kk.2)))) (by kernel_rfl) (HSX.out _ ((Below.refl _ _).drew)) (fun hHeld => ?_)
            generalize wx.drew = w30 at *
            refine wpAnyH_take (i := 0) (oi := ⟨some 95, _, _, _, _, _⟩) (v := ?_) rfl (by kernel_rfl) (by kernel_rfl) (by kernel_rfl) (fun _ _ _ h => h) (Or.inl ⟨by rfl, ?_⟩) (by assumption) ?_
            rotate_left
            focus
              intro w hSw
              try dsimp only at hSw
              go_simp
              first
              | done
              | with_reducible rfl
            try simp only [Act.put, List.setIfInBounds_toArray, List.set_cons_zero, List.set_cons_succ]
            refine wpAnyH_take (i := 1) (oi := ⟨some 96, _, _, _, _, _⟩) (v := ?_) rfl (by kernel_rfl) (by kernel_rfl) (by kernel_rfl) (fun _ _ _ h => h) (Or.inl ⟨by rfl, ?_⟩) (by assumption) ?_
            rotate_left
            focus
              intro w hSw
              try dsimp only at hSw
              go_simp
              first
              | done
              | with_reducible rfl
            try simp only [Act.put, List.setIfInBounds_toArray, List.set_cons_zero, List.set_cons_succ]
            refine wpAnyH_take (i := 2) (oi := ⟨some 97, _, _, _, _, _⟩) (v := ?_) rfl (by kernel_rfl) (by kernel_rfl) (by kernel_rfl) (fun _ _ _ h => h) (Or.inl ⟨by rfl, ?_⟩) (by assumption) ?_
            rotate_left
            focus
              intro w hSw
              try dsimp only at hSw
              go_simp
              first
              | done
              | with_reducible rfl
            try simp only [Act.put, List.setIfInBounds_toArray, List.set_cons_zero, List.set_cons_succ]
            refine wpAnyH_take (i := 3) (oi := ⟨some 98, _, _, _, _, _⟩) (v := ?_) rfl (by kernel_rfl) (by kernel_rfl) (by kernel_rfl) (fun _ _ _ h => h) (Or.inl ⟨by rfl, ?_⟩) (by assumption) ?_
            rotate_left
            focus
              intro w hSw
              try dsimp only at hSw
              go_simp
              first
              | done
              | with_reducible rfl
            try simp only [Act.put, List.setIfInBounds_toArray, List.set_cons_zero, List.set_cons_succ]
            refine wpAnyH_take (i := 4) (oi := ⟨some 99, _, _, _, _, _⟩) (v := ?_) rfl (by kernel_rfl) (by kernel_rfl) (by kernel_rfl) (fun _ _ _ h => h) (Or.inl ⟨by rfl, ?_⟩) (by assumption) ?_
            rotate_left
            focus
              intro w hSw
              try dsimp only at hSw
              go_simp
              first
              | done
              | with_reducible rfl
            try simp only [Act.put, List.setIfInBounds_toArray, List.set_cons_zero, List.set_cons_succ]
            refine wpAnyH_take (i := 5) (oi := ⟨some 100, _, _, _, _, _⟩) (v := ?_) rfl (by kernel_rfl) (by kernel_rfl) (by kernel_rfl) (fun _ _ _ h => h) (Or.inl ⟨by rfl, ?_⟩) (by assumption) ?_
            rotate_left
            focus
              intro w hSw
              try dsimp only at hSw
              go_simp
              first
              | done
              | with_reducible rfl
            try simp only [Act.put, List.setIfInBounds_toArray, List.set_cons_zero, List.set_cons_succ]
            refine wpAnyH_take (i := 6) (oi := ⟨some 101, _, _, _, _, _⟩) (v := ?_) rfl (by kernel_rfl) (by kernel_rfl) (by kernel_rfl) (fun _ _ _ h => h) (Or.inl ⟨by rfl, ?_⟩) (by assumption) ?_
            rotate_left
            focus
              intro w hSw
              try dsimp only at hSw
              go_simp
              first
              | done
              | with_reducible rfl
            try simp only [Act.put, List.setIfInBounds_toArray, List.set_cons_zero, List.set_cons_succ]
            refine wpAnyH_take (i := 7) (oi := ⟨some 102, _, _, _, _, _⟩) (v := ?_) rfl (by kernel_rfl) (by kernel_rfl) (by kernel_rfl) (fun _ _ _ h => h) (Or.inl ⟨by rfl, ?_⟩) (by assumption) ?_
            rotate_left
            focus
              intro w hSw
              try dsimp only at hSw
              go_simp
              first
              | done
              | with_reducible rfl
            try simp only [Act.put, List.setIfInBounds_toArray, List.set_cons_zero, List.set_cons_succ]
            refine wpAnyH_take (i := 11) (oi := ⟨some 106, _, _, _, _, _⟩) (v := ?_) rfl (by kernel_rfl) (by kernel_rfl) (by kernel_rfl) (fun _ _ _ h => h) (Or.inl ⟨by rfl, ?_⟩) (by assumption) ?_
            rotate_left
            focus
              intro w hSw
              try dsimp only at hSw
              go_simp
              first
              | done
              | with_reducible rfl
            try simp only [Act.put, List.setIfInBounds_toArray, List.set_cons_zero, List.set_cons_succ]
            refine wpAnyH_take (i := 12) (oi := ⟨some 107, _, _, _, _, _⟩) (v := ?_) rfl (by kernel_rfl) (by kernel_rfl) (by kernel_rfl) (fun _ _ _ h => h) (Or.inl ⟨by rfl, ?_⟩) (by assumption) ?_
            rotate_left
            focus
              intro w hSw
              try dsimp only at hSw
              go_simp
              first
              | done
              | with_reducible rfl
            try simp only [Act.put, List.setIfInBounds_toArray, List.set_cons_zero, List.set_cons_succ]
            refine wpAnyH_take (i := 13) (oi := ⟨some 108, _, _, _, _, _⟩) (v := ?_) rfl (by kernel_rfl) (by kernel_rfl) (by kernel_rfl) (fun _ _ _ h => h) (Or.inl ⟨by rfl, ?_⟩) (by assumption) ?_
            rotate_left
            focus
              intro w hSw
              try dsimp only at hSw
              go_simp
              first
              | done
              | with_reducible rfl
            try simp only [Act.put, List.setIfInBounds_toArray, List.set_cons_zero, List.set_cons_succ]
            refine wpAnyH_take (i := 14) (oi := ⟨some 109, _, _, _, _, _⟩) (v := ?_) rfl (by kernel_rfl) (by kernel_rfl) (by kernel_rfl) (fun _ _ _ h => h) (Or.inl ⟨by rfl, ?_⟩) (by assumption) ?_
            rotate_left
            focus
              intro w hSw
              try dsimp only at hSw
              go_simp
              first
              | done
              | with_reducible rfl
            try simp only [Act.put, List.setIfInBounds_toArray, List.set_cons_zero, List.set_cons_succ]
            refine wpAnyH_ready (rs := [8]) (by kernel_rfl) (by simp) ?_
            refine AllReadyH.cons (o := ⟨some 103, _, _, _, _, _⟩) rfl (fun K hK => ?_) AllReadyH.nil
            go_simp
            refine hK.out _ _ (HSX.out _ (HBw.out.alloc HBw.out.size _)) (fun hHeld => ?_)
            clear hK K
            try simp only [Act.put, List.setIfInBounds_toArray, List.set_cons_zero, List.set_cons_succ]
            refine wpAnyH_ready (rs := [9]) (by kernel_rfl) (by simp) ?_
            refine AllReadyH.cons (o := ⟨some 104, _, _, _, _, _⟩) rfl (fun K hK => ?_) AllReadyH.nil
            have cv := Lib.run_convert_bytes_const (P := Tryd.prog) w30 41 5 #[.int .u8 109, .int .u8 97, .int .u8 99] 3 3 Tryd.underlying41 Tryd.underlying5
            simp only [List.size_toArray, List.length_cons, List.length_nil, Nat.zero_add, Nat.reduceAdd] at cv
            go_simp
            clear cv
            have SM := hid (isl_const w30 kMac (3, 4) #[.int .u8 109, .int .u8 97, .int .u8 99] rfl)
            have HB8 := hid (HBw.out.alloc HBw.out.size (.cells #[.int .u8 109, .int .u8 97, .int .u8 99] 5 (3, 4)))
            generalize w30.alloc (.cells #[.int .u8 109, .int .u8 97, .int .u8 99] 5 (3, 4)) = w31 at *
            generalize w30.heap.size = pm at *
            refine hK.out _ _ (HSX.out _ HB8.out) (fun hHeld => ?_)
            clear hK K
            try simp only [Act.put, List.setIfInBounds_toArray, List.set_cons_zero, List.set_cons_succ]
            refine wpAnyH_ready (rs := [10]) (by kernel_rfl) (by simp) ?_
            refine AllReadyH.cons (o := ⟨some 105, _, _, _, _, _⟩) rfl (fun K hK => ?_) AllReadyH.nil
            go_simp
            refine (DV.out _ _ SM.out).mono ?_
            rintro e w32 ⟨rfl, hb10⟩
            have HB10 := hid (HB8.out.trans (hb10.mono HB8.out.size))
            clear hb10
            refine hK.out _ _ (HSX.out _ HB10.out) (fun hHeld => ?_)
            clear hK K
            try simp only [Act.put, List.setIfInBounds_toArray, List.set_cons_zero, List.set_cons_succ]
            refine wpAnyH_ready (rs := [15]) (by kernel_rfl) (by simp) ?_
            refine AllReadyH.cons (o := ⟨some 110, _, _, _, _, _⟩) rfl (fun K hK => ?_) AllReadyH.nil
            go_simp
            refine (CV.out _ (HSA.out.next HB10.out)).mono ?_
            rintro e w33 ⟨rfl, hb15⟩
            have HB15 := hid (HB10.out.trans (hb15.mono HB10.out.size))
            clear hb15
            refine hK.out _ _ (HSX.out _ HB15.out) (fun hHeld => ?_)
            clear hK K
            try simp only [Act.put, List.setIfInBounds_toArray, List.set_cons_zero, List.set_cons_succ]
            refine wpAnyH_done (by kernel_rfl) ?_ _

            clear hHeld HSX DV CV HBw HB8 HB10 SM
            have HI3 := hid (HIx.out.next HB15.out)
            have b1 := (KB.out.next HB15.out).cell 1
            simp only [List.getElem?_toArray, List.getElem?_cons_zero, List.getElem?_cons_succ] at b1
            have HSA3 := hid (HSA.out.next HB15.out)
            generalize hbt : (Pl.tagOf (Pl.d1 kk.1 kk.2 kMac) (Pl.d2 kk.1 kk.2 kMac) mb == mt) = bt at *
            clear hbt KB HIx HSA HB15 hjn1 hxl hgl hkdl
            cases bt
            · clear b1
              go_wp2_with fail
              go_roundw
              case rel => exact ⟨k + 1, by omega, by simp, RdI.skip HI3.out Hx.out (by have := Hgt.out; show ¬ (n : Int) < (j : Int); omega) Hright.out⟩
              case measure => simp [intOf]; omega
            · obtain ⟨i1, hi1, hz⟩ := Option.map_eq_some_iff.1 info_sl
              simp only [Prod.mk.injEq] at hz
              have HI1 := hid hi1
              have HZ := hid hz
              have HE := hid (Own.empty (B := w33.heap.size) (Bk.new w33 5 #[]) (Nat.le_refl _) (k := .u8))
              have BE := hid ((Below.refl w33.heap.size w33).alloc (Nat.le_refl _) (.cells #[] 5))
              have HRV : Hid (∀ r, u10.ownBlock = some r → r < w33.heap.size) := hid (fun r h => by
                obtain ⟨_, _, O, _⟩ := HI3.out.out
                exact (World.ownsRow.lt O r h).2)
              have HSV : Hid (∀ r, u11.ownBlock = some r → r < w33.heap.size) := hid (fun r h => (World.ownsRow.lt HI3.out.kept r h).2)
              have b1' : (w33.alloc (.cells #[] 5)).cell? ⟨bx, 1, none⟩ = some (.slice Am ml cm) := (BE.out.cell (p := ⟨bx, 1, none⟩) (by have := World.block_lt_of_cell? w33 ⟨bx, 1, none⟩ b1; exact this)).trans b1
              have hrl := relL_le (n : Int) key L k
              clear hi1 hz b1
              go_wp2_with (first | (at_builtin; refine wpList_app_ints (o := ⟨some 115, _, _, _, _, _⟩) (by rfl) (.tmp 112) (.tmp 114) 41 (by rfl) w33.heap.size 5 .u8 1 Tryd.underlying41 info_u8 _ [] (by rfl) HE.out Am cm mb (by rw [HML.out]; rfl) (HSA3.out.next BE.out) (by have := HOB.out.2; simp only [List.length_nil]; unfold maxLen; omega) (by have := HOB.out.2; simp only [List.length_nil]; omega) (by simp) ?_; intro vb wb OB1 BB1 gB1 hB1; obtain ⟨Ab, cb, hvb, HSb, hob⟩ := OB1.slice_; have HOB2 := hid (And.intro HSb (fun a (e : Ab = some a) => own_at (v := vb) (a := a) (by rw [hvb, e]; rfl) hob)); simp only [List.nil_append] at hvb; rw [HML.out] at hvb; subst hvb; have HIf := hid ((HI3.out.next (BE.out.trans BB1)).next ((Below.refl _ _).alloc (Nat.le_refl _) (.cells #[.slice Ab ml cb] 41))); obtain ⟨OL, eOL, OO, hbO⟩ := HIf.out.out; have HOL := hid (And.intro eOL (And.intro OO hbO)); have hols : OL.length ≤ 64 := (by have := congrArg List.length eOL; simp only [List.length_map] at this; omega); have HSRC2 : Hid (∀ (jj : Nat) (u : Value), ([.slice Ab ml cb] : List Value)[jj]? = some u → (wb.alloc (.cells #[.slice Ab ml cb] 41)).cell? ((⟨wb.heap.size, 0, none⟩ : Addr).add jj) = some u) := hid (by intro jj u hj; rw [add_none, Bk.cell (Bk.new wb 41 _)]; simpa using hj); have HWf : Hid (wc.heap.size ≤ (wb.alloc (.cells #[.slice Ab ml cb] 41)).heap.size) := hid HIf.out.bel.size; have HZb := hid (show w33.heap.size ≤ wb.heap.size from (BE.out.trans BB1).size); clear OB1 BB1 gB1 hB1 HSb hob eOL OO hbO b1') | (at_builtin; refine wpList_append_own_at _ (by rfl) (.tmp 111) (.tmp 116) 50 (by rfl) wc.heap.size 41 i1 (.slice none 0 0) 1 24 Tryd.underlying50 HI1.out HZ.out.1 HZ.out.2.1 HZ.out.2.2 (by rfl) (by decide) u10 OL.length (OL.map slv) (by rfl) HOL.out.2.1 ⟨wb.heap.size, 0, none⟩ 1 1 [.slice Ab ml cb] (by rfl) (by rfl) HSRC2.out (by simp [Value.oneCell']) (by simp only [maxLen]; omega) (by omega) HWf.out ?_; intro v' w5 O5 hg5 hn5 hat5; have HG5 := hid (And.intro O5 (And.intro hg5 hat5)); clear O5 hg5 hn5 hat5))
              go_roundw
              case rel =>
                obtain ⟨O5, hg5, hat5⟩ := HG5.out
                refine ⟨k + 1, by omega, by simp, RdI.take_ HIf.out Hx.out (by have := Hgt.out; show ¬ (n : Int) < (j : Int); omega) Hright.out HOL.out.1 HOL.out.2.2 (fun r h => (World.ownsRow.lt HOL.out.2.1 r h).1) (rows_ne HIf.out.kept HOL.out.2.1 (by decide)) (HOB2.out.1.next ((Below.refl _ _).alloc (Nat.le_refl _) (.cells #[.slice Ab ml cb] 41)))
                  (fun a e => ?_) hg5 (c := cb) ?_ hat5⟩
                · obtain ⟨a1, a2⟩ := HOB2.out.2 a e
                  have hz3 := HI3.out.bel.size
                  refine ⟨by omega, by simp; omega, fun e2 => by have := HRV.out _ e2; omega, fun e2 => by have := HSV.out _ e2; omega⟩
                · show w5.ownsRow wc.heap.size 41 1 v' _ (_ ++ [.slice Ab mb.length cb])
                  rw [HML.out]
                  exact O5
              case measure => simp [intOf]; omega
        · obtain rfl : k = ln := by omega
          have hLl : L.length = k := HS.out.2.1
          have HIe : Hid (RdI wc (n : Int) key L L.length u10 u11 wr) := hid (by rw [hLl]; exact HI.out)
          have c5 : wr.cell? ⟨g, 5, none⟩ = some (.slice Av k cv) := HMr.out.bk.cell 5
          have f5 := HMr.out.bk.free 5
          obtain ⟨As, ls, cs, hsv⟩ : ∃ A l c, u11 = .slice A l c := by
            rcases HI.out.kept.2 with ⟨h, _⟩ | ⟨g', cap, cur, h, _⟩
            · exact ⟨_, _, _, h⟩
            · exact ⟨_, _, _, h⟩
          subst hsv
          clear HI hLl
          go_wp2_with fail
          go_ret2
          obtain ⟨S2, r1, r2, r3⟩ := refDisc_end (i := (n : Int)) rfl HM1.out HIe.out
          exact .inr ⟨hE.out, _, S2, rfl, r1, r2, (Fr.of_below HBa.out).trans (HF1.out.trans r3)⟩
  · have hE := hid (show Pl.dErr co s n key = 16 by rw [HE0.out, if_neg heq])
    have hne : (!((Pl.dnN key m).1 == s.key.1) || !((Pl.dnN key m).2 == s.key.2)) = true := key_ne heq
    have Hne := hid hne
    clear heq hne
    go_wp2_with fail
    go_quiet (fail)
    rw [Hne.out]
    go_wp2
    go_ret2
    exact refDisP_err hE.out (by decide) (bdrewN HB2.out nq)
end Go.Proofs.YtmegiodajkeahaaDoor
