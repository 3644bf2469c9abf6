/- The walk of the law ChainLosses. -/
import Derived.Test.YtmegiodajkeahaaDoorChLP
import Derived.Test.YtmegiodajkeahaaDoorChOp2
import Derived.Deep.RegionHeld3
import Derived.Deep.RegionWith
import Derived.Deep.DrawnRows
namespace Go.Proofs.YtmegiodajkeahaaDoor
open Go Go.RowKit
def lmO (bs : List Bool) (j : Nat) : Bool := (bs[j]?).getD false
/-- What holds at the head of a round of the first loop. -/
structure LsI (W : World) (K : List (Int × Int)) (k0 last : Int × Int) (od : Nat → Bool) (of : List Int) (ga gb k : Nat) (w : World) (Sa Sb : Nat → Prop) : Prop where
  aw : AwS W W.heap.size K w
  ra : RcvS w Sa ga 1000 100 2 10 ⟨0, k0, Pl.mkL (Pl.lmF last od) of k⟩
  rb : RcvS w Sb gb 1000 100 2 10 ⟨0, k0, Pl.mkL (Pl.lmF last od) of k⟩
  la : ∀ j, Sa j → W.heap.size ≤ j
  lb : ∀ j, Sb j → W.heap.size ≤ j
  ha : ¬ Sa W.heap.size
  hb : ¬ Sb W.heap.size
  dj : ∀ j, Sa j → ¬ Sb j
  of : ∀ j i, of[j]? = some i → j < k → 1 ≤ i ∧ i ≤ 10
theorem RcvS.lt {w : World} {S : Nat → Prop} {g : Nat} {st sp de co : Int} {s : Pl.Rst} (h : RcvS w S g st sp de co s) : ∀ k, S k → k < w.heap.size := by
  obtain ⟨v, L, M⟩ := h
  exact M.lt
theorem LsI.next2 {W we wf wg : World} {K : List (Int × Int)} {k0 last : Int × Int} {od : Nat → Bool} {of : List Int} {ga gb k : Nat} {w : World} {Sa Sb Sa' Sb' : Nat → Prop} (h : LsI W K k0 last od of ga gb k w Sa Sb) (hW : 2 ≤ W.heap.size)
    {i : Int} (hi : of[k]? = some i) (hi12 : 1 ≤ i ∧ i ≤ 10) (hA : AwS W W.heap.size K we) (hRa : RcvS wf Sa' ga 1000 100 2 10 ⟨0, k0, Pl.mkL (Pl.lmF last od) of (k + 1)⟩) (Fa : Fr Sa Sa' we wf)
    (hRb : RcvS wg Sb' gb 1000 100 2 10 ⟨0, k0, Pl.mkL (Pl.lmF last od) of (k + 1)⟩) (Fb : Fr Sb Sb' wf wg) (hSb : ∀ r, Sb r → r < we.heap.size) : LsI W K k0 last od of ga gb (k + 1) wg Sa' Sb' := by
  have hsf := Fa.size
  have hf := hA.below.size
  have dj1 : ∀ r, Sa' r → ¬ Sb r := fun r h1 h2 => h.dj r (Fa.set r (hSb r h2) h1) h2
  have hAf := hA.fr Fa h.la h.ha hW
  have ha' : ¬ Sa' W.heap.size := fun e => h.ha (Fa.set _ hA.hi e)
  have hb' : ¬ Sb' W.heap.size := fun e => h.hb (Fb.set _ hAf.hi e)
  refine ⟨hAf.fr Fb h.lb h.hb hW, hRa.far Fb dj1, hRb, Fa.from_ hf h.la, Fb.from_ hAf.below.size h.lb, ha', hb', fun r h1 h2 => ?_, fun j i' hj hjk => ?_⟩
  · have hr := hRa.lt r h1
    exact dj1 r h1 (Fb.set r hr h2)
  · by_cases e : j = k
    · subst e
      obtain rfl : i = i' := by rw [hi] at hj; exact Option.some.inj hj
      exact hi12
    · exact h.of j i' hj (by omega)
/-- What holds behind the first loop: a receiver's state, the other's, the array. -/
structure LsJ (W : World) (K : List (Int × Int)) (ga gb o1 : Nat) (sa sb : Pl.Rst) (l : List Int) (w : World) (Sa Sb : Nat → Prop) : Prop where
  aw : AwS W W.heap.size K w
  ra : RcvS w Sa ga 1000 100 2 10 sa
  rb : RcvS w Sb gb 1000 100 2 10 sb
  la : ∀ j, Sa j → W.heap.size ≤ j
  lb : ∀ j, Sb j → W.heap.size ≤ j
  ha : ¬ Sa W.heap.size
  hb : ¬ Sb W.heap.size
  dj : ∀ j, Sa j → ¬ Sb j
  one : Bk w o1 61 (ints .i64 l)
  oa : ¬ Sa o1
  ob : ¬ Sb o1
  ow : W.heap.size < o1
theorem LsJ.set {W : World} {K : List (Int × Int)} {ga gb o1 : Nat} {sa sb : Pl.Rst} {l : List Int} {w : World} {Sa Sb : Nat → Prop} (h : LsJ W K ga gb o1 sa sb l w Sa Sb) (hW : 2 ≤ W.heap.size) (t : Nat) (x : Int) : LsJ W K ga gb o1 sa sb (l.set t x) (w.setCell ⟨o1, t, none⟩ (.int .i64 x)) Sa Sb :=
  ⟨h.aw.setFar (Nat.le_of_lt h.ow) (fun e => by have := h.ow; omega) hW _, h.ra.setFar h.oa _, h.rb.setFar h.ob _, h.la, h.lb, h.ha, h.hb, h.dj, h.one.set_int t x, h.oa, h.ob, h.ow⟩
theorem LsJ.callA {W : World} {K : List (Int × Int)} {ga gb o1 : Nat} {sa sb sa' : Pl.Rst} {l : List Int} {w w' : World} {Sa Sb Sa' : Nat → Prop} (h : LsJ W K ga gb o1 sa sb l w Sa Sb) (hW : 2 ≤ W.heap.size) (R : RcvS w' Sa' ga 1000 100 2 10 sa') (F : Fr Sa Sa' w w') : LsJ W K ga gb o1 sa' sb l w' Sa' Sb :=
  have hl := h.rb.lt
  ⟨h.aw.fr F h.la h.ha hW, R, h.rb.far F (fun r h1 h2 => h.dj r h2 h1), F.from_ h.aw.below.size h.la, h.lb, fun e => h.ha (F.set _ h.aw.hi e), h.hb, fun r h1 h2 => h.dj r (F.set r (hl r h2) h1) h2, F.bk h.one h.oa, fun e => h.oa (F.set _ h.one.lt e), h.ob, h.ow⟩
theorem LsJ.callB {W : World} {K : List (Int × Int)} {ga gb o1 : Nat} {sa sb sb' : Pl.Rst} {l : List Int} {w w' : World} {Sa Sb Sb' : Nat → Prop} (h : LsJ W K ga gb o1 sa sb l w Sa Sb) (hW : 2 ≤ W.heap.size) (R : RcvS w' Sb' gb 1000 100 2 10 sb') (F : Fr Sb Sb' w w') : LsJ W K ga gb o1 sa sb' l w' Sa Sb' :=
  have hl := h.ra.lt
  ⟨h.aw.fr F h.lb h.hb hW, h.ra.far F h.dj, R, h.la, F.from_ h.aw.below.size h.lb, h.ha, fun e => h.hb (F.set _ h.aw.hi e), fun r h1 h2 => h.dj r h1 (F.set r (hl r h1) h2), F.bk h.one h.ob, h.oa, fun e => h.ob (F.set _ h.one.lt e), h.ow⟩
theorem bb_set {w : World} {X : Nat → Prop} {v : Value} {bs : List (List Int)} {o1 t : Nat} {u : Value} (h : IsBB w X v bs) (hX : ¬ X o1) : IsBB (w.setCell ⟨o1, t, none⟩ u) X v bs :=
  h.fr (S := (· = o1)) (S' := (· = o1)) ((Fr.refl (· = o1) w).setCell rfl u) (fun _ hk e => hX (e ▸ hk))
theorem size_i64 (w : World) : (sizeOf 3).run Tryd.prog w = .ok 1 w := by kernel_rfl
theorem guard_61 : Tryd.prog.eqGuardType Tryd.prog.depth 61 = false := by kernel_rfl
theorem guard_bind61 {β : Type} (op : BinOp) (x y : Operand) (xs ys : Array Value) (f : Unit → Sem β) (w : World) :
    ((eqGuard op 61 x y (.agg xs) (.agg ys)) >>= f).run Tryd.prog w = (f ()).run Tryd.prog w := by
  rw [Sem.run_bind, run_eqGuard_agg w op 61 x y xs ys guard_61]
  rfl
abbrev zero11 : Array Value := #[.int .i64 0, .int .i64 0, .int .i64 0, .int .i64 0, .int .i64 0, .int .i64 0, .int .i64 0, .int .i64 0, .int .i64 0, .int .i64 0, .int .i64 0]
theorem eql_61 (w : World) : (binOp .eql 61 (.agg zero11) (.agg zero11)).run Tryd.prog w = .ok (.bool true) w := by
  rw [run_eql_struct]
  have h := run_equalIn_ints (P := Tryd.prog) w 9998 61 3 11 .i64 Tryd.underlying61 Tryd.underlying3 size_i64 (List.replicate 11 0) (List.replicate 11 0) rfl rfl
  have e : (((List.replicate 11 (0 : Int)).map (Value.int .i64)).toArray) = zero11 := rfl
  rw [e] at h
  rw [h]
  rfl
theorem ls_hear {last k0 : Int × Int} {od : Nat → Bool} {of : List Int} {k : Nat} {S : Nat → Prop} {g : Nat} {w : World} {i : Int} {Am : Option Addr} {t : Int} (R : RcvS w S g 1000 100 2 10 ⟨0, k0, Pl.mkL (Pl.lmF last od) of k⟩) (hi : of[k]? = some i) (hi12 : 1 ≤ i ∧ i ≤ 10) (hk : k < 30)
    (hof : ∀ j i, of[j]? = some i → j < k → 1 ≤ i ∧ i ≤ 10) (hS : IsSl w Am .u8 [i, (k : Int)]) (ht : t = (Pl.lmF last od k i).t) :
    Calls Tryd.prog 26 #[pt g, .int .i64 i, .slice Am 2 2, .int .u64 t, .agg #[.int .i64 0, .int .i64 0]] w fun e w' => e = .returned (.int .i64 0) ∧ ∃ S', RcvS w' S' g 1000 100 2 10 ⟨0, k0, Pl.mkL (Pl.lmF last od) of (k + 1)⟩ ∧ Fr S S' w w' := by
  have hl : k < of.length := (List.getElem?_eq_some_iff.1 hi).1
  have hlen := Pl.mkL_len (Pl.lmF last od) of k (by omega)
  have hok : Pl.okB [i, (k : Int)] := ⟨by intro x hx; simp at hx; rcases hx with rfl | rfl <;> omega, by show 2 ≤ 1000000; decide⟩
  have hfit := Pl.fit_mk last od of k (by omega) hof
  refine (hear_yes (Pl.lm_hErr k0 _ i hi12.1 hi12.2 (by rw [hlen]; omega)) Pl.cf0 (Pl.fit_ok hfit (by rw [hlen]; omega) 0 (Int.le_refl _) (by decide) (fun m hm => by have := (hfit m hm).1; omega) k0) hok hS R (n := 2) rfl).mono fun e w' ⟨h1, S', h2, h3⟩ => ⟨h1, S', ?_, h3⟩
  subst ht
  rw [Pl.mkL_next (Pl.lmF last od) of k i hi]
  exact h2
attribute [local simp high] guard_bind61 eql_61
set_option maxHeartbeats 8000000 in
set_option maxRecDepth 100000 in
theorem chainLosses_yes (seed : Int) (A1 A2 : Option Addr) (d1 d2 n1 n2 : Nat) (of : List Int) (bs : List Bool) (W : World) (hR : Rnd W) (hG : CfG W) (hn1 : of.length = n1) (hn2 : bs.length = n2) (h30 : n1 ≤ 30) (h100 : n2 ≤ 30) (hO : IsSl W A1 .i64 of) (hS : IsBl W A2 bs) :
    Calls Tryd.prog 8 #[.int .u64 seed, .slice A1 n1 d1, .slice A2 n2 d2] W fun e w' => e = .returned (.bool true) ∧ Below W.heap.size W w' := by
  have hW2 : 2 ≤ W.heap.size := hR.lt
  have HO := hid (And.intro hO hn1)
  have HS := hid (And.intro hS hn2)
  clear hS hn1 hn2 hO
  have CL : ∀ w, Rnd w → Calls Tryd.prog 15 #[.int .u64 seed, .int .i64 10] w fun e w' => e = .returned (.slice (some ⟨w.heap.size, 0, none⟩) 11 11) ∧ BkK w' w.heap.size (Pl.keysL (Pl.lastK seed 10) 10) ∧ Below w.heap.size w w' := fun w h => make_any seed 10 (by decide) (by decide) w h
  generalize Pl.lastK seed 10 = last at *
  have K0 := Pl.keysL_get last 10 0 (by decide)
  have K10 := Pl.keysL_get last 10 10 (by decide)
  have KA := fun i h => Pl.keysL_get last 10 i h
  have HD := hid (fun ms => Pl.cc_d last ms)
  have HD2 := hid (fun ms i h => Pl.ls_d last ms i h)
  simp only [Nat.sub_zero, Nat.sub_self] at K0 K10
  generalize Pl.keysL last 10 = K at *
  generalize hk0 : Pl.dnN last 10 = k0 at *
  have Hk0 := hid hk0
  clear hk0
  have HK := hid (And.intro K0 (And.intro K10 KA))
  replace CL := hid CL
  have HG := hid (And.intro hR hG)
  clear K0 K10 KA hR hG
  go_enter Tryd.func8, Tryd.ntmps8
  go_wp2_with fail
  refine (CL.out _ HG.out.1).mono ?_
  rintro e w1 ⟨rfl, Kb, hb1⟩
  have HA1 := hid (AwS.make HG.out.1 HG.out.2 Kb hb1)
  clear Kb hb1 CL
  go_wp2_with fail
  have HSX : Hid (∀ w', Below w1.heap.size w1 w' → (w'.cell? ⟨0, 0, none⟩ = some (.int .i64 1000)) ∧ (w'.cell? ⟨0, 1, none⟩ = some (.int .i64 100)) ∧ (w'.cell? ⟨0, 2, none⟩ = some (.int .i64 2)) ∧ (w'.cell? ⟨0, 3, none⟩ = some (.int .i64 10)) ∧ (w'.cell? ⟨W.heap.size, 0, none⟩ = some (.int .u64 k0.1)) ∧ (w'.cell? ⟨W.heap.size, 1, none⟩ = some (.int .u64 k0.2))) := hid (fun w' h => by
    have a := HA1.out.next h
    obtain ⟨a0, a1, a2, a3⟩ := a.cfg.cells
    have b := a.key HK.out.1
    simp only [Nat.zero_mul, Nat.zero_add] at b
    exact ⟨a0, a1, a2, a3, b.1, b.2⟩)
  have hd : Below w1.heap.size w1 w1.drew := (Below.refl _ _).drew
  have NW : Hid (∀ w, Calls Tryd.prog 20 #[.agg #[.int .i64 1000, .int .i64 100, .int .i64 2, .int .i64 10], .agg #[.int .u64 k0.1, .int .u64 k0.2]] w fun e w' => (∃ g, w.heap.size ≤ g ∧ e = .returned (pt g) ∧ RcvS w' (· = g) g 1000 100 2 10 ⟨0, (k0.1, k0.2), []⟩) ∧ Below w.heap.size w w') := hid (fun w => new_yes 1000 100 2 10 k0.1 k0.2 Pl.cf0 w)
  refine wp_region_held_drew (S := (fun w' => (w'.cell? ⟨0, 0, none⟩ = some (.int .i64 1000)) ∧ (w'.cell? ⟨0, 1, none⟩ = some (.int .i64 100)) ∧ (w'.cell? ⟨0, 2, none⟩ = some (.int .i64 2)) ∧ (w'.cell? ⟨0, 3, none⟩ = some (.int .i64 10)) ∧ (w'.cell? ⟨W.heap.size, 0, none⟩ = some (.int .u64 k0.1)) ∧ (w'.cell? ⟨W.heap.size, 1, none⟩ = some (.int .u64 k0.2)))) (by kernel_rfl) (HSX.out _ hd) (fun hHeld => ?_)
  refine wpAnyH_take (i := 0) (oi := ⟨some 35, _, _, _, _, _⟩) (v := ?_) rfl (by kernel_rfl) (by kernel_rfl) (by kernel_rfl) (fun _ _ _ h => h) (Or.inl ⟨by rfl, ?_⟩) (by assumption) ?_
  rotate_left
  focus
    intro w hSw
    try dsimp only at hSw
    go_simp
    first
    | done
    | with_reducible rfl
  try simp only [Act.put, List.setIfInBounds_toArray, List.set_cons_zero, List.set_cons_succ]
  refine wpAnyH_take (i := 1) (oi := ⟨some 36, _, _, _, _, _⟩) (v := ?_) rfl (by kernel_rfl) (by kernel_rfl) (by kernel_rfl) (fun _ _ _ h => h) (Or.inl ⟨by rfl, ?_⟩) (by assumption) ?_
  rotate_left
  focus
    intro w hSw
    try dsimp only at hSw
    go_simp
    first
    | done
    | with_reducible rfl
  try simp only [Act.put, List.setIfInBounds_toArray, List.set_cons_zero, List.set_cons_succ]
  refine wpAnyH_take (i := 2) (oi := ⟨some 37, _, _, _, _, _⟩) (v := ?_) rfl (by kernel_rfl) (by kernel_rfl) (by kernel_rfl) (fun _ _ _ h => h) (Or.inl ⟨by rfl, ?_⟩) (by assumption) ?_
  rotate_left
  focus
    intro w hSw
    try dsimp only at hSw
    go_simp
    first
    | done
    | with_reducible rfl
  try simp only [Act.put, List.setIfInBounds_toArray, List.set_cons_zero, List.set_cons_succ]
  refine wpAnyH_take (i := 3) (oi := ⟨some 38, _, _, _, _, _⟩) (v := ?_) rfl (by kernel_rfl) (by kernel_rfl) (by kernel_rfl) (fun _ _ _ h => h) (Or.inl ⟨by rfl, ?_⟩) (by assumption) ?_
  rotate_left
  focus
    intro w hSw
    try dsimp only at hSw
    go_simp
    first
    | done
    | with_reducible rfl
  try simp only [Act.put, List.setIfInBounds_toArray, List.set_cons_zero, List.set_cons_succ]
  refine wpAnyH_take (i := 5) (oi := ⟨some 40, _, _, _, _, _⟩) (v := ?_) rfl (by kernel_rfl) (by kernel_rfl) (by kernel_rfl) (fun _ _ _ h => h) (Or.inl ⟨by rfl, ?_⟩) (by assumption) ?_
  rotate_left
  focus
    intro w hSw
    try dsimp only at hSw
    go_simp
    first
    | done
    | with_reducible rfl
  try simp only [Act.put, List.setIfInBounds_toArray, List.set_cons_zero, List.set_cons_succ]
  refine wpAnyH_take (i := 6) (oi := ⟨some 41, _, _, _, _, _⟩) (v := ?_) rfl (by kernel_rfl) (by kernel_rfl) (by kernel_rfl) (fun _ _ _ h => h) (Or.inl ⟨by rfl, ?_⟩) (by assumption) ?_
  rotate_left
  focus
    intro w hSw
    try dsimp only at hSw
    go_simp
    first
    | done
    | with_reducible rfl
  try simp only [Act.put, List.setIfInBounds_toArray, List.set_cons_zero, List.set_cons_succ]
  refine wpAnyH_take (i := 7) (oi := ⟨some 42, _, _, _, _, _⟩) (v := ?_) rfl (by kernel_rfl) (by kernel_rfl) (by kernel_rfl) (fun _ _ _ h => h) (Or.inl ⟨by rfl, ?_⟩) (by assumption) ?_
  rotate_left
  focus
    intro w hSw
    try dsimp only at hSw
    go_simp
    first
    | done
    | with_reducible rfl
  try simp only [Act.put, List.setIfInBounds_toArray, List.set_cons_zero, List.set_cons_succ]
  refine wpAnyH_take (i := 8) (oi := ⟨some 43, _, _, _, _, _⟩) (v := ?_) rfl (by kernel_rfl) (by kernel_rfl) (by kernel_rfl) (fun _ _ _ h => h) (Or.inl ⟨by rfl, ?_⟩) (by assumption) ?_
  rotate_left
  focus
    intro w hSw
    try dsimp only at hSw
    go_simp
    first
    | done
    | with_reducible rfl
  try simp only [Act.put, List.setIfInBounds_toArray, List.set_cons_zero, List.set_cons_succ]
  refine wpAnyH_ready (rs := [4]) (by kernel_rfl) (by simp) ?_
  refine AllReadyH.cons (o := ⟨some 39, _, _, _, _, _⟩) rfl (fun K hK => ?_) AllReadyH.nil
  go_simp
  refine (NW.out _).mono ?_
  rintro e w2 ⟨⟨ga, hga, rfl, Ra⟩, hb2⟩
  refine hK.out _ _ (HSX.out _ (bstep hd hb2)) (fun hHeld => ?_)
  clear hK K
  try simp only [Act.put, List.setIfInBounds_toArray, List.set_cons_zero, List.set_cons_succ]
  refine wpAnyH_ready (rs := [9]) (by kernel_rfl) (by simp) ?_
  refine AllReadyH.cons (o := ⟨some 44, _, _, _, _, _⟩) rfl (fun K hK => ?_) AllReadyH.nil
  go_simp
  refine (NW.out _).mono ?_
  rintro e w3 ⟨⟨gb, hgb, rfl, Rb⟩, hb3⟩
  refine hK.out _ _ (HSX.out _ (bstep hd (bstep hb2 hb3))) (fun hHeld => ?_)
  clear hK K
  try simp only [Act.put, List.setIfInBounds_toArray, List.set_cons_zero, List.set_cons_succ]
  refine wpAnyH_take (i := 10) (oi := ⟨some 8, _, _, _, _, _⟩) (v := ?_) rfl (by kernel_rfl) (by kernel_rfl) (by kernel_rfl) (fun _ _ _ h => h) (Or.inl ⟨by rfl, ?_⟩) (by assumption) ?_
  rotate_left
  focus
    intro w hSw
    try dsimp only at hSw
    go_simp
    first
    | done
    | with_reducible rfl
  try simp only [Act.put, List.setIfInBounds_toArray, List.set_cons_zero, List.set_cons_succ]
  refine wpAnyH_take (i := 11) (oi := ⟨some 9, _, _, _, _, _⟩) (v := ?_) rfl (by kernel_rfl) (by kernel_rfl) (by kernel_rfl) (fun _ _ _ h => h) (Or.inl ⟨by rfl, ?_⟩) (by assumption) ?_
  rotate_left
  focus
    intro w hSw
    try dsimp only at hSw
    go_simp
    first
    | done
    | with_reducible rfl
  try simp only [Act.put, List.setIfInBounds_toArray, List.set_cons_zero, List.set_cons_succ]
  refine wpAnyH_done (by kernel_rfl) ?_ _
  have hb12 := bstep hd (bstep hb2 hb3)
  have hs2 : w1.heap.size ≤ w2.heap.size := (bstep hd hb2).size
  have hgal := Ra.lt ga rfl
  have hA1h := HA1.out.hi
  have hA1b := HA1.out.below.size
  have hga' : w1.heap.size ≤ ga := hga
  have HI0 : Hid (LsI W K k0 last (lmO bs) of ga gb 0 w3 (· = ga) (· = gb)) := hid ⟨HA1.out.next hb12, Ra.next hb3, Rb, (fun j hj => by omega), (fun j hj => by omega), (fun e => by omega), (fun e => by omega), (fun j h1 h2 => by omega), (fun j i _ hj => by omega)⟩
  clear hb12 hs2 hgal hA1h hA1b hga' hga hgb Ra Rb hb2 hb3 hd hHeld HA1 HSX NW
  go_wp2_with fail
  go_loopw [10] (fun iv wr => ∃ k : Nat, k ≤ n1 ∧ iv = .int .i64 (k : Int) ∧ ∃ Sa Sb, LsI W K k0 last (lmO bs) of ga gb k wr Sa Sb) (fun iv _ => n1 - (intOf iv).toNat)
  case atStart => exact ⟨0, Nat.zero_le _, rfl, _, _, HI0.out⟩
  case round =>
    clear HI0
    obtain ⟨k, hk, rfl, Sa, Sb, I⟩ := hrel
    have HI := hid I
    clear I
    by_cases hlt : k < n1
    · obtain ⟨i, hi⟩ : ∃ x, of[k]? = some x := ⟨of[k]'(by have := HO.out.2; omega), List.getElem?_eq_getElem _⟩
      rcases HO.out.1.row with h0 | ⟨ob, oo, hA1, hob, hoc⟩
      · have := HO.out.2; omega
      subst hA1
      have hwr := HI.out.aw.below.size
      have o0 : wr.cell? ⟨ob, oo + k, none⟩ = some (.int .i64 i) := (HI.out.aw.below.cell (p := ⟨ob, oo + k, none⟩) hob).trans (hoc k i hi)
      have Hi := hid hi
      clear hoc hi
      by_cases hi1 : i < 1
      · go_wp2_with fail
        refine (awake_any _ HI.out.aw.rnd HI.out.aw.cfg).mono ?_
        rintro e we ⟨rfl, hbe⟩
        go_wp2
        go_ret
        exact ⟨rfl, bstep HI.out.aw.below hbe⟩
      by_cases hi2 : 10 < i
      · go_wp2_with fail
        refine (awake_any _ HI.out.aw.rnd HI.out.aw.cfg).mono ?_
        rintro e we ⟨rfl, hbe⟩
        go_wp2
        go_ret
        exact ⟨rfl, bstep HI.out.aw.below hbe⟩
      obtain ⟨i, rfl⟩ : ∃ j : Nat, i = j := ⟨i.toNat, by omega⟩
      have hi12 : 1 ≤ (i : Int) ∧ (i : Int) ≤ 10 := by omega
      have hk30 : k < 30 := by omega
      have hfit := hid HI.out.of
      have hkj := HI.out.aw.key (HK.out.2.2 i (by omega))
      have hw8 : IntKind.u8.wrap (k : Int) = k := by rw [IntKind.wrap_u8]; omega
      have hw9 : IntKind.u8.wrap (i : Int) = i := by rw [IntKind.wrap_u8]; omega
      have hlmT : Hid (Pl.lmT last (i : Int) k = Pl.mtag (Pl.dnN last (10 - i)) [(i : Int), (k : Int)]) := hid (by
        unfold Pl.lmT
        rw [show ((10 : Int) - (i : Int)).toNat = 10 - i from by omega])
      have BM := (Below.refl wr.heap.size wr).alloc (Nat.le_refl _) (.cells #[.int .u8 (i : Int), .int .u8 (k : Int)] 5)
      have MM := IsSl.of_bk (k := .u8) [(i : Int), (k : Int)] (Bk.new wr 5 #[.int .u8 (i : Int), .int .u8 (k : Int)]) rfl
      have hs1 : (wr.alloc (.cells #[.int .u8 (i : Int), .int .u8 (k : Int)] 5)).heap.size = wr.heap.size + 1 := by simp
      have SM := isl_const (wr.alloc (.cells #[.int .u8 (i : Int), .int .u8 (k : Int)] 5)) kMac (3, 4) #[.int .u8 109, .int .u8 97, .int .u8 99] rfl
      rw [hs1] at SM
      have BN := (Below.refl (wr.alloc (.cells #[.int .u8 (i : Int), .int .u8 (k : Int)] 5)).heap.size (wr.alloc (.cells #[.int .u8 (i : Int), .int .u8 (k : Int)] 5))).alloc (Nat.le_refl _) (.cells #[.int .u8 109, .int .u8 97, .int .u8 99] 5 (3, 4))
      have cv := Lib.run_convert_bytes_const (P := Tryd.prog) (wr.alloc (.cells #[.int .u8 (i : Int), .int .u8 (k : Int)] 5)) 41 5 #[.int .u8 109, .int .u8 97, .int .u8 99] 3 3 Tryd.underlying41 Tryd.underlying5
      rw [hs1] at cv
      simp only [List.size_toArray, List.length_cons, List.length_nil, Nat.zero_add, Nat.reduceAdd] at cv
      obtain ⟨q0, q1⟩ := (HI.out.aw.next BM).key (HK.out.2.2 i (by omega))
      have o1 : (wr.alloc (.cells #[.int .u8 (i : Int), .int .u8 (k : Int)] 5)).cell? ⟨ob, oo + k, none⟩ = some (.int .i64 (i : Int)) := (BM.cell (p := ⟨ob, oo + k, none⟩) (by dsimp only; omega)).trans o0
      have HBN := hid (bstep BM BN)
      have HSM := hid SM
      have HMd := hid (MM.next BN)
      clear SM MM BN BM hs1 hkj
      go_wp2_with fail
      clear q0 q1 o1 cv o0
      generalize (wr.alloc (.cells #[.int .u8 (i : Int), .int .u8 (k : Int)] 5)).alloc (.cells #[.int .u8 109, .int .u8 97, .int .u8 99] 5 (3, 4)) = wd at *
      refine (derive_any _ _ _ 3 kMac _ (HI.out.aw.next HBN.out).rnd HSM.out (by decide) (by decide)).mono ?_
      rintro e wc ⟨rfl, hbc⟩
      have HMc := hid (HMd.out.next hbc)
      have HBc := hid (bstep HBN.out hbc)
      clear hbc HMd HSM HBN
      have TG : Calls Tryd.prog 36 #[.agg #[.int .u64 (Pl.d1 (Pl.dnN last (10 - i)).1 (Pl.dnN last (10 - i)).2 kMac), .int .u64 (Pl.d2 (Pl.dnN last (10 - i)).1 (Pl.dnN last (10 - i)).2 kMac)], .slice (some ⟨wr.heap.size, 0, none⟩) 2 2] wc fun e w' => e = .returned (.int .u64 (Pl.lmT last (i : Int) k)) ∧ Below wc.heap.size wc w' := by
        rw [hlmT.out]
        exact tag_any (Pl.d1 (Pl.dnN last (10 - i)).1 (Pl.dnN last (10 - i)).2 kMac) (Pl.d2 (Pl.dnN last (10 - i)).1 (Pl.dnN last (10 - i)).2 kMac) _ 2 [(i : Int), (k : Int)] wc (HI.out.aw.next HBc.out).rnd HMc.out (by intro x hx; simp at hx; rcases hx with rfl | rfl <;> omega) (by show 2 ≤ 1000000000; decide)
      replace TG := hid TG
      go_wp2_with fail
      refine TG.out.mono ?_
      rintro e we ⟨rfl, hbe⟩
      have HMe := hid (HMc.out.next hbe)
      have HBe := hid (bstep HBc.out hbe)
      clear hbe HMc HBc TG
      have HAe := hid (HI.out.aw.next HBe.out)
      have HRa := hid (HI.out.ra.next HBe.out)
      have HRb := hid (HI.out.rb.next HBe.out)
      have HSbe := hid HRb.out.lt
      have HMa := hid (show ¬ Sa wr.heap.size from fun h => by have := HI.out.ra.lt _ h; omega)
      have HVa := hid (fun t ht => ls_hear (t := t) HRa.out Hi.out hi12 hk30 hfit.out HMe.out ht)
      have o0 : we.cell? ⟨ob, oo + k, none⟩ = some (.int .i64 (i : Int)) := by
        rcases HO.out.1.row with h0 | ⟨b', o', hA, hb', hc'⟩
        · have := HO.out.2; omega
        · cases hA
          exact (HAe.out.below.cell (p := ⟨ob, oo + k, none⟩) hob).trans (hc' k _ Hi.out)
      clear hlmT
      go_upto_region 16 with (fail)
      go_cut [99] (fun t99 wx => t99 = .bool (lmO bs k) ∧ we = wx)
      case first =>
        by_cases hk2 : k < n2
        · obtain ⟨o, ho⟩ : ∃ x, bs[k]? = some x := ⟨bs[k]'(by have := HS.out.2; omega), List.getElem?_eq_getElem _⟩
          rcases HS.out.1.row with h0 | ⟨pb, po, hA2, hpb, hpc⟩
          · have := HS.out.2; omega
          subst hA2
          have p0 : we.cell? ⟨pb, po + k, none⟩ = some (.bool o) := (HAe.out.below.cell (p := ⟨pb, po + k, none⟩) hpb).trans (hpc k o ho)
          have HT := hid (show lmO bs k = o by unfold lmO; rw [ho]; rfl)
          clear hpc ho
          go_wp2_with fail
          go_meet
          exact ⟨by rw [HT.out], rfl⟩
        · have HT := hid (show lmO bs k = false by unfold lmO; rw [List.getElem?_eq_none (by have := HS.out.2; omega)]; rfl)
          go_wp2_with fail
          go_meet
          exact ⟨by rw [HT.out], rfl⟩
      case rest =>
        obtain ⟨rfl, rfl⟩ := hcut
        have HTV := hid (show (Pl.lmF last (lmO bs) k (i : Int)).t = if lmO bs k then IntKind.u64.wrap (Pl.lmT last (i : Int) k + 1) else Pl.lmT last (i : Int) k by unfold Pl.lmF; simp only)
        generalize lmO bs k = o at *
        go_upto_if 99 with (fail)
        go_cut [12] (fun t12 wx => t12 = .int .u64 (Pl.lmF last (lmO bs) k (i : Int)).t ∧ we = wx)
        case first =>
          cases o
          · go_wp2_with fail
            go_meet
            exact ⟨by rw [HTV.out, if_neg (by decide)], rfl⟩
          · go_wp2_with fail
            go_meet
            exact ⟨by rw [HTV.out, if_pos trivial], rfl⟩
        case rest =>
          obtain ⟨rfl, rfl⟩ := hcut
          go_wp2_with fail
          refine (HVa.out _ rfl).mono ?_
          rintro e wf ⟨rfl, Sa', Ra', Fa⟩
          have dj1 := HI.out.dj
          have HRb' := hid (HRb.out.far Fa (fun r h1 h2 => dj1 r h2 h1))
          have HAf := hid (HAe.out.fr Fa HI.out.la HI.out.ha hW2)
          have HMf := hid (Fa.isl HMe.out (fun a ha => by cases ha; exact HMa.out))
          have o0f : wf.cell? ⟨ob, oo + k, none⟩ = some (.int .i64 (i : Int)) := (Fa.cell (p := ⟨ob, oo + k, none⟩) (by have := HAe.out.below.size; dsimp only; omega) (fun h => by have := HI.out.la _ h; dsimp only at this; omega)).trans o0
          have HVb := hid (fun t ht => ls_hear (t := t) HRb'.out Hi.out hi12 hk30 hfit.out HMf.out ht)
          have HRa' := hid Ra'
          have HFa := hid Fa
          clear Ra' Fa dj1 o0
          go_wp2_with fail
          refine (HVb.out _ rfl).mono ?_
          rintro e wg ⟨rfl, Sb', Rb', Fb⟩
          have HN : LsI W K k0 last (lmO bs) of ga gb (k + 1) wg Sa' Sb' := HI.out.next2 hW2 Hi.out hi12 HAe.out HRa'.out HFa.out Rb' Fb HSbe.out
          have HN' := hid HN
          clear HN Rb' Fb HVa HVb o0f
          go_wp2
          go_roundw
          case rel => exact ⟨k + 1, by omega, by simp, _, _, HN'.out⟩
          case measure => simp [intOf]; omega
    · obtain rfl : k = n1 := by omega
      have hofk : ∀ (j : Nat) (i : Int), of[j]? = some i → j < k → 1 ≤ i ∧ i ≤ 10 := HI.out.of
      have HF := hid (Pl.fit_mk last (lmO bs) of k (by omega) hofk)
      have HL := hid (show (Pl.mkL (Pl.lmF last (lmO bs)) of k).length ≤ 30 by rw [Pl.mkL_len _ of k (by have := HO.out.2; omega)]; omega)
      have BZ := (Below.refl wr.heap.size wr).alloc (Nat.le_refl _) (.cells zero11 61)
      have hgW := HI.out.aw.hi
      have J0 : Hid (LsJ W K ga gb wr.heap.size ⟨0, k0, Pl.mkL (Pl.lmF last (lmO bs)) of k⟩ ⟨0, k0, Pl.mkL (Pl.lmF last (lmO bs)) of k⟩ (Pl.tab (Pl.upT last (Pl.mkL (Pl.lmF last (lmO bs)) of k) 0 0)) (wr.alloc (.cells zero11 61)) Sa Sb) := hid
        ⟨HI.out.aw.next BZ, HI.out.ra.next BZ, HI.out.rb.next BZ, HI.out.la, HI.out.lb, HI.out.ha, HI.out.hb, HI.out.dj, by rw [Pl.upT_zero]; exact Bk.new wr 61 zero11, fun e => by have := HI.out.ra.lt _ e; omega, fun e => by have := HI.out.rb.lt _ e; omega, hgW⟩
      generalize Pl.mkL (Pl.lmF last (lmO bs)) of k = ms at *
      clear hofk BZ HI
      go_wp2_with fail
      generalize wr.alloc (.cells zero11 61) = wz at *
      generalize wr.heap.size = o1 at *
      go_loopw [14] (fun iv wr => ∃ i : Nat, i ≤ 10 ∧ iv = .int .i64 ((i : Int) + 1) ∧ ∃ Sa Sb, LsJ W K ga gb o1 ⟨(i : Int), Pl.dnN last (10 - i), ms.filter (Pl.stayF (i : Int))⟩ ⟨0, k0, ms⟩ (Pl.tab (Pl.upT last ms i 0)) wr Sa Sb) (fun iv _ => 11 - (intOf iv).toNat)
      case atStart =>
        refine ⟨0, by decide, rfl, Sa, Sb, ?_⟩
        have := J0.out
        rw [show ((0 : Nat) : Int) = 0 from rfl, Pl.ls_stay0 HF.out, Nat.sub_zero, Hk0.out]
        exact this
      case round =>
        clear J0
        obtain ⟨i, hi, rfl, Sa2, Sb2, J⟩ := hrel
        have HJ := hid J
        clear J
        by_cases hi10 : i < 10
        · obtain ⟨q0, q1⟩ := HJ.out.aw.key (HK.out.2.2 (i + 1) (by omega))
          have hfs := Pl.fit_filter HF.out (Pl.stayF (i : Int))
          have hokA : Pl.okR 10 ⟨(i : Int), Pl.dnN last (10 - i), ms.filter (Pl.stayF (i : Int))⟩ := Pl.fit_ok hfs (Nat.le_trans (List.length_filter_le _ _) HL.out) _ (by omega) (by omega) (fun m hm => by simpa [Pl.stayF] using (List.mem_filter.1 hm).2) _
          have D := hid (disc_yes (HD2.out (ms.filter (Pl.stayF (i : Int))) i hi10) HJ.out.ra hokA (by decide) HJ.out.aw.rnd (fun j hj => by have := HJ.out.la j hj; omega))
          rw [Pl.ls_stay ms i (Pl.dnN last (10 - (i + 1)))] at D
          simp only at D
          rw [Pl.ls_out last ms i hi10] at D
          have hcnt := hid (show (((ms.filter (Pl.good last)).filter fun m => m.i == ((i + 1 : Nat) : Int)).map Pl.Msg.b).length = Pl.cnt last ms (i + 1) by rw [List.length_map]; rfl)
          have hmem := hid (show ∀ x ∈ (((ms.filter (Pl.good last)).filter fun m => m.i == ((i + 1 : Nat) : Int)).map Pl.Msg.b), ∃ j : Int, x = [(i : Int) + 1, j] by
            intro x hx
            obtain ⟨m, hm, rfl⟩ := List.mem_map.1 hx
            obtain ⟨hm1, hm2⟩ := List.mem_filter.1 hm
            obtain ⟨_, _, j, hb, _⟩ := HF.out m (List.mem_filter.1 hm1).1
            have : m.i = (i : Int) + 1 := by simpa using hm2
            exact ⟨j, by rw [hb, this]⟩)
          have hc30 := hid (Nat.le_trans (Pl.cnt_le last ms (i + 1)) HL.out)
          generalize (((ms.filter (Pl.good last)).filter fun m => m.i == ((i + 1 : Nat) : Int)).map Pl.Msg.b) = outs at *
          rw [show 10 - (i + 1) = 9 - i from by omega] at q0 q1 D
          have h9 := hid (show 10 - (i + 1) = 9 - i from by omega)
          clear hfs hokA
          go_wp2_with fail
          refine D.out.mono ?_
          rintro e wd ⟨rv, Sa3, rfl, Rd, BBd, Fd⟩
          have HJd := hid (HJ.out.callA hW2 Rd Fd)
          have HBB := hid BBd
          have KN : Hid (Calls Tryd.prog 31 #[pt ga] wd fun e w' => e = .returned (.int .i64 ((i : Int) + 1)) ∧ wd = w') := hid (known_of Rd)
          obtain ⟨Av, cv, hrv, _⟩ := BBd.row
          rw [hcnt.out] at hrv
          subst hrv
          clear Rd BBd Fd D q0 q1 HJ
          go_wp2_with fail
          refine KN.out.mono ?_
          rintro e wl' ⟨rfl, rfl⟩
          clear KN
          go_wp2_with fail
          have hupn := hid (Pl.upT_next last ms i)
          generalize Pl.cnt last ms (i + 1) = cn at *
          go_loopw [17] (fun nv wr => ∃ c : Nat, c ≤ cn ∧ nv = .int .i64 (c : Int) ∧ LsJ W K ga gb o1 ⟨(i : Int) + 1, Pl.dnN last (9 - i), ms.filter (Pl.stayF ((i : Int) + 1))⟩ ⟨0, k0, ms⟩ (Pl.tab (Pl.upT last ms i c)) wr Sa3 Sb2 ∧ IsBB wr Sa3 (.slice Av cn cv) outs) (fun nv _ => cn - (intOf nv).toNat)
          case atStart =>
            exact ⟨0, Nat.zero_le _, rfl, HJd.out, HBB.out⟩
          case round =>
            clear HJd HBB
            obtain ⟨c, hc, rfl, J3, BB3⟩ := hrel
            have HJ3 := hid J3
            have HB3 := hid BB3
            by_cases hlc : c < cn
            · obtain ⟨x, hx⟩ : ∃ x, outs[c]? = some x := ⟨outs[c]'(by have := hcnt.out; omega), List.getElem?_eq_getElem _⟩
              obtain ⟨j, rfl⟩ := hmem.out x (List.mem_of_getElem? hx)
              obtain ⟨A3, c3, e3, r3⟩ := BB3.row
              rcases r3 with r3 | ⟨b3, o3, rfl, hX3, hb3, r3⟩
              · have := hcnt.out; omega
              obtain rfl : Av = some ⟨b3, o3, none⟩ := by cases e3; rfl
              obtain ⟨A4, c4, q4, s4, _⟩ := r3 c _ hx
              rcases s4 with s4 | ⟨b5, o5, rfl, hb5, s5⟩
              · cases s4
              have q5 := s5 0 _ rfl
              simp only [List.length_cons, List.length_nil, Nat.zero_add, Nat.reduceAdd, Nat.add_zero] at q4 q5
              have q6 : wr.cell? ⟨o1, i + 1, none⟩ = some (.int .i64 (c : Int)) := by
                have := Bk.int J3.one (Pl.tab_get (Pl.upT last ms i c) (i + 1) (by omega))
                rw [Pl.upT_at] at this
                exact this
              have f6 := J3.one.free (i + 1)
              have hc30' := hc30.out
              have hstep := hid (Pl.upT_step last ms i c hi10)
              clear J3 BB3 e3 r3 hx s5 hX3
              go_wp2
              go_roundw
              case rel => exact ⟨c + 1, by omega, by simp, by rw [← hstep.out]; exact HJ3.out.set hW2 (i + 1) _, bb_set HB3.out HJ3.out.oa⟩
              case measure => simp [intOf]; omega
            · obtain rfl : c = cn := by omega
              clear J3 BB3
              go_wp2
              go_roundw
              case rel =>
                refine ⟨i + 1, by omega, by simp, Sa3, Sb2, ?_⟩
                have := HJ3.out
                rw [hupn.out] at this
                rw [h9.out]
                exact this
              case measure => simp [intOf]; omega
        · obtain rfl : i = 10 := by omega
          have HJe : Hid (LsJ W K ga gb o1 ⟨10, last, []⟩ ⟨0, k0, ms⟩ (Pl.tab (Pl.dnT last ms 0)) wr Sa2 Sb2) := hid (by
            have := HJ.out
            rw [show ((10 : Nat) : Int) = 10 from rfl, Pl.ls_stay10 HF.out, Nat.sub_self, Pl.dnT_zero] at this
            exact this)
          clear HJ
          obtain ⟨q0, q1⟩ := HJe.out.aw.key HK.out.2.1
          simp only [Nat.reduceMul, Nat.reduceAdd] at q0 q1
          have D := hid (disc_yes (HD.out ms) HJe.out.rb (Pl.fit_ok HF.out HL.out 0 (Int.le_refl _) (by decide) (fun m hm => by have := (HF.out m hm).1; omega) k0) (by decide) HJe.out.aw.rnd (fun j hj => by have := HJe.out.lb j hj; omega))
          rw [Pl.ls_st10 last k0 HF.out] at D
          simp only at D
          rw [Pl.ls_out10 last HF.out] at D
          have hrl := hid (show ((ms.filter (Pl.good last)).map Pl.Msg.b).length = (ms.filter (Pl.good last)).length from List.length_map _)
          have hr30 := hid (Nat.le_trans (List.length_filter_le (Pl.good last) ms) HL.out)
          go_wp2_with fail
          refine D.out.mono ?_
          rintro e wd ⟨rv, Sb3, rfl, Rd, BBd, Fd⟩
          have HJd := hid (HJe.out.callB hW2 Rd Fd)
          have HBB := hid BBd
          have LA : Hid (Calls Tryd.prog 33 #[pt ga] wd fun e w' => e = .returned (.int .i64 0) ∧ wd = w') := hid (held_of HJd.out.ra)
          have LB : Hid (Calls Tryd.prog 33 #[pt gb] wd fun e w' => e = .returned (.int .i64 0) ∧ wd = w') := hid (held_of HJd.out.rb)
          obtain ⟨Av, cv, hrv, _⟩ := BBd.row
          rw [hrl.out] at hrv
          subst hrv
          clear Rd BBd Fd D q0 q1 HJe
          go_wp2_with fail
          refine LA.out.mono ?_
          rintro e wl' ⟨rfl, rfl⟩
          go_wp2_with fail
          refine LB.out.mono ?_
          rintro e wl' ⟨rfl, rfl⟩
          clear LA LB
          have hlen := hid (show ∀ n, (ms.filter (Pl.good last)).length ≤ n → Pl.tab (Pl.dnT last ms n) = List.replicate 11 0 from fun n h => Pl.dnT_end last ms n h)
          have HRn : Hid (∀ n, n < (ms.filter (Pl.good last)).length → ∃ m, (ms.filter (Pl.good last))[n]? = some m ∧ m ∈ ms) := hid (fun n h => ⟨_, List.getElem?_eq_getElem h, (List.mem_filter.1 (List.getElem_mem h)).1⟩)
          generalize hrn : (ms.filter (Pl.good last)).length = rn at *
          have HRN := hid hrn
          clear hrn
          go_wp2_with fail
          go_loopw [20] (fun nv wr => ∃ n : Nat, n ≤ rn ∧ nv = .int .i64 (n : Int) ∧ LsJ W K ga gb o1 ⟨10, last, []⟩ ⟨10, last, []⟩ (Pl.tab (Pl.dnT last ms n)) wr Sa2 Sb3 ∧ IsBB wr Sb3 (.slice Av rn cv) ((ms.filter (Pl.good last)).map Pl.Msg.b)) (fun nv _ => rn - (intOf nv).toNat)
          case atStart => exact ⟨0, Nat.zero_le _, rfl, HJd.out, HBB.out⟩
          case round =>
            clear HJd HBB
            obtain ⟨n, hn, rfl, J3, BB3⟩ := hrel
            have hrn30 := hr30.out
            have HJ3 := hid J3
            have HB3 := hid BB3
            by_cases hlc : n < rn
            · obtain ⟨m, hm, hmm⟩ := HRn.out n hlc
              obtain ⟨hm1, hm2, j, hmb, _⟩ := HF.out m hmm
              obtain ⟨t, ht⟩ : ∃ t : Nat, m.i = t := ⟨m.i.toNat, by omega⟩
              have hx : ((ms.filter (Pl.good last)).map Pl.Msg.b)[n]? = some [(t : Int), j] := by rw [List.getElem?_map, hm]; simp only [Option.map_some, hmb, ht]
              have hstep := hid (Pl.dnT_step last ms n m t hm ht (by omega) (by omega))
              have hbd := Pl.dnT_bound last ms n t
              have hl30 := HL.out
              obtain ⟨A3, c3, e3, r3⟩ := BB3.row
              rcases r3 with r3 | ⟨b3, o3, rfl, hX3, hb3, r3⟩
              · have := hrl.out; omega
              obtain rfl : Av = some ⟨b3, o3, none⟩ := by cases e3; rfl
              obtain ⟨A4, c4, q4, s4, _⟩ := r3 n _ hx
              rcases s4 with s4 | ⟨b5, o5, rfl, hb5, s5⟩
              · cases s4
              have q5 := s5 0 _ rfl
              simp only [List.length_cons, List.length_nil, Nat.zero_add, Nat.reduceAdd, Nat.add_zero] at q4 q5
              have q6 : wr.cell? ⟨o1, t, none⟩ = some (.int .i64 (Pl.dnT last ms n t)) := Bk.int J3.one (Pl.tab_get (Pl.dnT last ms n) t (by omega))
              have f6 := J3.one.free t
              rw [ht] at hm1 hm2
              have ht1 : ¬ ((t : Int) < 1) := by omega
              have ht2 : ¬ (10 < (t : Int)) := by omega
              have ht3 : t < 11 := by omega
              generalize Pl.dnT last ms n t = dv at *
              clear J3 BB3 e3 r3 hx s5 hX3 hm hmm hmb ht
              go_wp2
              go_roundw
              case rel => exact ⟨n + 1, by omega, by simp, by rw [← hstep.out]; exact HJ3.out.set hW2 t _, bb_set HB3.out HJ3.out.ob⟩
              case measure => simp [intOf]; omega
            · obtain rfl : n = rn := by omega
              have hz := hlen.out n (Nat.le_refl _)
              have Z : Bk wr o1 61 zero11 := by
                have := J3.one
                rw [hz] at this
                exact this
              have z0 := Z.cell 0
              have z1 := Z.cell 1
              have z2 := Z.cell 2
              have z3 := Z.cell 3
              have z4 := Z.cell 4
              have z5 := Z.cell 5
              have z6 := Z.cell 6
              have z7 := Z.cell 7
              have z8 := Z.cell 8
              have z9 := Z.cell 9
              have za := Z.cell 10
              simp only [List.getElem?_toArray, List.getElem?_cons_zero, List.getElem?_cons_succ] at z0 z1 z2 z3 z4 z5 z6 z7 z8 z9 za
              clear J3 BB3 hz Z
              go_wp2_with fail
              refine (awake_any _ HJ3.out.aw.rnd HJ3.out.aw.cfg).mono ?_
              rintro e we ⟨rfl, hbe⟩
              go_wp2
              go_ret
              exact ⟨rfl, bstep HJ3.out.aw.below hbe⟩
set_option maxRecDepth 100000 in
theorem chainLosses_walk (seed : Int) (A1 A2 : Option Addr) (d1 d2 : Nat) (of : List Int) (bs : List Bool) (W : World) (hR : Rnd W) (hG : CfG W) (hO : IsSl W A1 .i64 of) (hS : IsBl W A2 bs) (hl1 : of.length ≤ 9223372036854775807) (hl2 : bs.length ≤ 9223372036854775807) :
    Calls Tryd.prog 8 #[.int .u64 seed, .slice A1 of.length d1, .slice A2 bs.length d2] W fun e w' => e = .returned (.bool true) ∧ Below W.heap.size W w' := by
  by_cases h1 : 30 < of.length
  · generalize of.length = n at *
    generalize bs.length = n2 at *
    have HG := hid (And.intro hR hG)
    clear hR hG hS hO
    go_enter Tryd.func8, Tryd.ntmps8
    go_wp2_with fail
    refine (awake_any _ HG.out.1 HG.out.2).mono ?_
    rintro e w1 ⟨rfl, hb⟩
    go_wp2
    go_ret
    exact ⟨rfl, hb⟩
  by_cases h2 : 30 < bs.length
  · generalize of.length = n at *
    generalize bs.length = n2 at *
    have HG := hid (And.intro hR hG)
    clear hR hG hS hO
    go_enter Tryd.func8, Tryd.ntmps8
    go_wp2_with fail
    refine (awake_any _ HG.out.1 HG.out.2).mono ?_
    rintro e w1 ⟨rfl, hb⟩
    go_wp2
    go_ret
    exact ⟨rfl, hb⟩
  exact chainLosses_yes seed A1 A2 d1 d2 _ _ of bs W hR hG rfl rfl (by omega) (by omega) hO hS
end Go.Proofs.YtmegiodajkeahaaDoor
