/- The contract of Hear of the reference of package chain. -/
import Derived.Test.YtmegiodajkeahaaDoorChN1
import Derived.Deep.RegionHeld3
import Derived.Deep.AppendLies
namespace Go.Proofs.YtmegiodajkeahaaDoor
open Go Go.RowKit
theorem rows_ne {w : World} {B B' n n' z z' : Nat} {e e' : TypeId} {v v' : Value} {xs xs' : List Value} (h : w.ownsRow B e z v n xs) (h' : w.ownsRow B' e' z' v' n' xs') (hne : e ≠ e') : ∀ k, v.ownBlock = some k → v'.ownBlock ≠ some k := fun k hk hk' => by
  rcases h.2 with ⟨rfl, _⟩ | ⟨g, cap, cur, rfl, _, hh, _⟩
  · cases hk
  · rcases h'.2 with ⟨rfl, _⟩ | ⟨g', cap', cur', rfl, _, hh', _⟩
    · cases hk'
    · obtain rfl : g = k := by simpa [Value.ownBlock] using hk
      obtain rfl : g' = g := by simpa [Value.ownBlock] using hk'
      have e3 := hh.symm.trans hh'
      simp only [Option.some.injEq, Obj.cells.injEq] at e3
      exact hne e3.2.1
theorem own_grown {w w' : World} {B z n : Nat} {e : TypeId} {v : Value} {xs : List Value} {r : Option Nat} (h : w.ownsRow B e z v n xs) (hg : w.grownBy w' r) (hr : ∀ k, v.ownBlock = some k → r ≠ some k) : w'.ownsRow B e z v n xs := by
  obtain ⟨h1, h2⟩ := h
  refine ⟨h1, ?_⟩
  rcases h2 with h2 | ⟨g, cap, cur, hv, hB, hh, q⟩
  · exact .inl h2
  · exact .inr ⟨g, cap, cur, hv, hB, grown_bk (t := e) hg hh (hr g (by rw [hv]; rfl)), q⟩
theorem own_at {w : World} {B : Nat} {v : Value} {a : Addr} (h : v.ownBlock = some a.block) (ho : v.ownBlock = none ∨ ∃ g, v.ownBlock = some g ∧ B ≤ g ∧ g < w.heap.size) : B ≤ a.block ∧ a.block < w.heap.size := by
  rcases ho with ho | ⟨g, ho, h1, h2⟩
  · rw [ho] at h; cases h
  · rw [ho] at h
    obtain rfl : g = a.block := by injection h
    exact ⟨h1, h2⟩
/-- What the reference's Hear leaves: a message more. -/
theorem refHear_end {W w4 w5 : World} {S : Nat → Prop} {g : Nat} {st sp de co : Int} {s : Pl.Rst} {N : Nat} {kv v v' : Value} {L : List Lm} {i t : Int} {b : List Int} {n : Nat} {A : Option Addr} {c : Nat}
    (M : RefM W S g st sp de co s N kv v L) (hn : b.length = n) (B4 : Below W.heap.size W w4) (hA : IsSl w4 A .u8 b) (hAb : ∀ a, A = some a → W.heap.size ≤ a.block ∧ a.block < w4.heap.size)
    (hg5 : w4.grownBy w5 v.ownBlock) (O5 : w5.ownsRow 0 84 3 v' (L.length + 1) (mcells L ++ [.int .i64 i, .slice A n c, .int .u64 t])) (hat : v.ownBlock = v'.ownBlock ∨ v'.ownBlock = some w4.heap.size) :
    ∃ S', RefS (w5.setCell ⟨g, 5, none⟩ v') S' g st sp de co (Pl.hSt s ⟨i, b, t⟩) ∧ Fr S S' W (w5.setCell ⟨g, 5, none⟩ v') := by
  subst hn
  have hgl := M.bk.lt
  have hs4 := B4.size
  have hs5 := hg5.size
  have M4 := M.next B4
  have hvlt : ∀ k, v.ownBlock = some k → k < W.heap.size := fun k hk => M.lt k (M.inh k hk).1
  have hv'b : ∀ k, v'.ownBlock = some k → (v.ownBlock = some k ∨ W.heap.size ≤ k) ∧ k ≠ g ∧ k < w5.heap.size ∧ ∀ a, A = some a → k ≠ a.block := by
    intro k hk
    have hk5 : k < w5.heap.size := by
      rcases O5.2 with ⟨rfl, h0⟩ | ⟨g', cap, cur, hv, _, hh, _⟩
      · cases hk
      · rw [hv] at hk
        cases hk
        exact Bk.lt (t := 84) hh
    rcases hat with h | h
    · rw [← h] at hk
      exact ⟨.inl hk, (M.inh k hk).2, hk5, fun a ha => by have := hvlt k hk; have := (hAb a ha).1; omega⟩
    · rw [h] at hk
      obtain rfl : w4.heap.size = k := by injection hk
      exact ⟨.inr hs4, by omega, hk5, fun a ha => by have := (hAb a ha).2; omega⟩
  have esz : (w5.setCell ⟨g, 5, none⟩ v').heap.size = w5.heap.size := by simp [World.setCell]
  refine ⟨fun k => S k ∨ (W.heap.size ≤ k ∧ k < w5.heap.size), ⟨N, kv, v', L ++ [(⟨i, b, t⟩, A, c)], ?_⟩, ?_⟩
  · refine ⟨by rw [List.map_append, M.ms]; rfl, M.kn, ?_, ?_, ?_, .inl M.ing, fun h hh => ⟨.inl (M.ink h hh).1, (M.ink h hh).2⟩, ?_, ?_, ?_⟩
    · have h5 : Bk w5 g 79 (rrc st sp de co kv v) := grown_bk hg5 M4.bk (fun e => (M.inh g e).2 rfl)
      exact h5.put 5 v'
    · exact far_own (own_grown M4.keys hg5 (rows_ne M4.keys M4.own (by decide))) (fun k hk => (M.ink k hk).2)
    · have : mcells (L ++ [((⟨i, b, t⟩ : Pl.Msg), A, c)]) = mcells L ++ [.int .i64 i, .slice A b.length c, .int .u64 t] := by rw [mcells_append]; rfl
      rw [this, List.length_append]
      exact far_own O5 (fun k hk => (hv'b k hk).2.1)
    · intro h hh
      obtain ⟨h1, h2, h4, _⟩ := hv'b h hh
      refine ⟨?_, h2⟩
      rcases h1 with h1 | h1
      · exact .inl (M.inh h h1).1
      · exact .inr ⟨h1, h4⟩
    · intro x hxL
      rcases List.mem_append.1 hxL with hxL | hxL
      · obtain ⟨a1, a2⟩ := M4.byt x hxL
        refine ⟨far_isl (grown_isl hg5 a1 (fun a ha => (a2 a ha).2.2)) (fun a ha => (a2 a ha).2.1), fun a ha => ?_⟩
        obtain ⟨b1, b2, b3⟩ := a2 a ha
        refine ⟨.inl b1, b2, fun e => ?_⟩
        rcases hat with h | h
        · exact b3 (h ▸ e)
        · rw [h] at e
          have := M.lt _ b1
          have e2 : w4.heap.size = a.block := by injection e
          omega
      · simp only [List.mem_singleton] at hxL
        subst hxL
        refine ⟨far_isl (grown_isl hg5 hA (fun a ha e => by have := hvlt _ e; have := (hAb a ha).1; omega)) (fun a ha => by have := (hAb a ha).1; dsimp only; omega), fun a ha => ?_⟩
        obtain ⟨b1, b2⟩ := hAb a ha
        exact ⟨.inr ⟨b1, by omega⟩, by omega, fun e => (hv'b _ e).2.2.2 a ha rfl⟩
    · intro k hk
      rw [esz]
      rcases hk with hk | hk
      · have := M.lt k hk; omega
      · exact hk.2
  · refine ⟨hg5.os.trans B4.os, hg5.tape.trans B4.tape, hg5.output.trans B4.output, by omega, ?_, ?_⟩
    · intro k hk hS
      rw [Below.heap_setCell _ _ _ _ (by dsimp only; intro e; subst e; exact hS M.ing)]
      rw [hg5.block k (by omega) (fun e => hS (M.inh k e.symm).1)]
      exact B4.block k hk
    · intro k hk hS
      rcases hS with hS | hS
      · exact hS
      · omega
theorem info_held : (Tryd.prog.info? 84).map (fun i => (i.zero, i.size, i.bytes)) = some (some (.agg #[.int .i64 0, .slice none 0 0, .int .u64 0]), 3, 40) := by kernel_rfl
/-- An append of bytes onto a slice of the call's own, as one step of a region that draws. -/
theorem step_app_bytes {ops : Array Oper} {o : Oper} {a : Act} {w : World} {K : Act → World → Prop} {Q : Exit → Act → World → Prop} {E : Prop} (hgd : o.guard = none) (s x : Operand)
    (ho : o.op = .call { callee := .builtin .append, args := #[s, x], argTypes := #[41, 41] }) (B : Nat) (v : Value) (xs : List Int) (hs : a.eval s = v) (hown : Own w B 5 .u8 v xs)
    (A : Option Addr) (c : Nat) (ys : List Int) {m : Nat} (hm : ys.length = m) (hx : a.eval x = .slice A m c) (hS : IsSl w A .u8 ys) (hb : m ≤ 1000000) (hB : B ≤ w.heap.size) (hxl : xs.length ≤ 1000000)
    (h : ∀ v' w', Own w' B 5 .u8 v' (xs ++ ys) → Below B w w' → K (a.put o.dst v') w') : if Region.wanted o (yielded ops a.tmps) = true then Oper.wp Tryd.prog o a w K Q else E := by
  subst hm
  have hw : Region.wanted o (yielded ops a.tmps) = true := by simp [Region.wanted, hgd]
  rw [if_pos hw]
  obtain ⟨i, hi', hz⟩ := Option.map_eq_some_iff.1 info_u8
  simp only [Prod.mk.injEq] at hz
  obtain ⟨hz0, hz1, hz2⟩ := hz
  rcases A with _ | ad
  · have h0 : ys = [] := by
      rcases hS with h0 | ⟨b, off, hA, _⟩
      · exact h0
      · cases hA
    subst h0
    have hrun := run_app_nil (P := Tryd.prog) B 41 o.type 5 i 1 Tryd.underlying41 hi' v xs.length _ hown c
    simp only [List.length_nil] at hx
    unfold Oper.wp execOp
    simp only [ho, resolve, invoke, builtin, Sem.run_bind, Sem.run_pure, Result.andThen_ok, List.map_toArray, List.map_cons, List.map_nil, hs, hx, hrun]
    exact h v w (by simpa using hown) (Below.refl _ _)
  · obtain ⟨v', w', hr, h2, h3, h4, h5⟩ := run_append_own_at (P := Tryd.prog) w B 41 o.type 5 i (.int .u8 0) 1 1 Tryd.underlying41 hi' hz0 hz1 hz2 rfl (by omega) v xs.length _ hown ad ys.length c (ys.map (Value.int .u8)) (by simp) (fun j u hj => by
      rcases hS with h0 | ⟨b, off, hA, _, hc⟩
      · subst h0; simp at hj
      · cases hA
        simp only [List.getElem?_map, Option.map_eq_some_iff] at hj
        obtain ⟨y, hy, rfl⟩ := hj
        have := hc j y hy
        rw [add_none]; exact this) (fun u hu => by
      simp at hu
      obtain ⟨y, _, rfl⟩ := hu
      rfl) (by simp only [maxLen]; omega) (by omega) hB
    have hown2 : Own w' B 5 .u8 v' (xs ++ ys) := by unfold Own; simpa using h2
    unfold Oper.wp execOp
    simp only [ho, resolve, invoke, builtin, Sem.run_bind, Sem.run_pure, Result.andThen_ok, List.map_toArray, List.map_cons, List.map_nil, hs, hx, hr]
    exact h v' w' hown2 (hown.below h3 hB)
/-- An append of a message, as one step of a region that draws. -/
theorem step_app_msg {ops : Array Oper} {o : Oper} {a : Act} {w : World} {K : Act → World → Prop} {Q : Exit → Act → World → Prop} {E : Prop} (hgd : o.guard = none) (s x : Operand)
    (ho : o.op = .call { callee := .builtin .append, args := #[s, x], argTypes := #[77, 77] }) (v : Value) (ln : Nat) (L : List Lm) (hs : a.eval s = v) (hown : w.ownsRow 0 84 3 v L.length (mcells L)) (hl : L.length = ln)
    (p : Nat) (i t : Int) (A : Option Addr) (n c : Nat) (hx : a.eval x = .slice (some ⟨p, 0, none⟩) 1 1) (hp : Bk w p 84 #[.int .i64 i, .slice A n c, .int .u64 t]) (hb : ln ≤ 1000)
    (h : ∀ v' w', w'.ownsRow 0 84 3 v' (ln + 1) (mcells L ++ [.int .i64 i, .slice A n c, .int .u64 t]) → w.grownBy w' v.ownBlock → (v.ownBlock = v'.ownBlock ∨ v'.ownBlock = some w.heap.size) → K (a.put o.dst v') w') : if Region.wanted o (yielded ops a.tmps) = true then Oper.wp Tryd.prog o a w K Q else E := by
  subst hl
  have hw : Region.wanted o (yielded ops a.tmps) = true := by simp [Region.wanted, hgd]
  rw [if_pos hw]
  obtain ⟨i0, hi', hz⟩ := Option.map_eq_some_iff.1 info_held
  simp only [Prod.mk.injEq] at hz
  obtain ⟨hz0, hz1, hz2⟩ := hz
  obtain ⟨v', w', hr, h2, h3, h4, h5⟩ := run_append_own_at (P := Tryd.prog) w 0 77 o.type 84 i0 _ 3 40 Tryd.underlying77 hi' hz0 hz1 hz2 rfl (by omega) v L.length _ hown ⟨p, 0, none⟩ 1 1 [.int .i64 i, .slice A n c, .int .u64 t] rfl (fun j u hj => by
    rw [add_none, Nat.zero_add, hp.cell]
    simpa using hj) (fun u hu => by simp at hu; rcases hu with rfl | rfl | rfl <;> rfl) (by simp only [maxLen]; omega) (by omega) (Nat.zero_le _)
  unfold Oper.wp execOp
  simp only [ho, resolve, invoke, builtin, Sem.run_bind, Sem.run_pure, Result.andThen_ok, List.map_toArray, List.map_cons, List.map_nil, hs, hx, hr]
  exact h v' w' h2 h3 (h5.imp_left Eq.symm)
def RefHearP (W : World) (S : Nat → Prop) (g : Nat) (st sp de co : Int) (s : Pl.Rst) (i : Int) (b : List Int) (t lo hi : Int) (e : Ending) (w' : World) : Prop :=
  e = .returned (.int .i64 (Pl.hErr st sp de co s i lo hi)) ∧ ((Pl.hErr st sp de co s i lo hi ≠ 0 ∧ Below W.heap.size W w') ∨ (Pl.hErr st sp de co s i lo hi = 0 ∧ ∃ S', RefS w' S' g st sp de co (Pl.hSt s ⟨i, b, t⟩) ∧ Fr S S' W w'))
theorem refHearP_err {W w' : World} {S : Nat → Prop} {g : Nat} {st sp de co : Int} {s : Pl.Rst} {i : Int} {b : List Int} {t lo hi x : Int} (h : Pl.hErr st sp de co s i lo hi = x) (hx : x ≠ 0) (hb : Below W.heap.size W w') :
    RefHearP W S g st sp de co s i b t lo hi (.returned (.int .i64 x)) w' := ⟨by rw [h], .inl ⟨by rw [h]; exact hx, hb⟩⟩
def HrR (W : World) (g : Nat) (cs : Array Value) (x : Nat) (cx : Array Value) (w : World) : Prop := Bk w g 79 cs ∧ Bk w x 43 cx ∧ Below W.heap.size W w
theorem HrR.next {W w w' : World} {g x : Nat} {cs cx : Array Value} (h : HrR W g cs x cx w) (hb : Below w.heap.size w w') : HrR W g cs x cx w' := ⟨h.1.next hb, h.2.1.next hb, bstep h.2.2 hb⟩
theorem HrR.drew {W w : World} {g x : Nat} {cs cx : Array Value} (h : HrR W g cs x cx w) : HrR W g cs x cx w.drew := ⟨h.1, h.2.1, h.2.2.drew⟩
theorem HrR.cells {W w : World} {g x : Nat} {st sp de co lo hi : Int} {kv v : Value} (h : HrR W g (rrc st sp de co kv v) x #[.int .i64 lo, .int .i64 hi] w) :
    (w.cell? ⟨g, 0, none⟩ = some (.int .i64 st)) ∧ (w.cell? ⟨g, 1, none⟩ = some (.int .i64 sp)) ∧ (w.cell? ⟨g, 2, none⟩ = some (.int .i64 de)) ∧ (w.cell? ⟨g, 3, none⟩ = some (.int .i64 co)) ∧
    (w.cell? ⟨g, 4, none⟩ = some kv) ∧ (w.cell? ⟨g, 5, none⟩ = some v) ∧ (w.cell? ⟨x, 0, none⟩ = some (.int .i64 lo)) ∧ (w.cell? ⟨x, 1, none⟩ = some (.int .i64 hi)) :=
  ⟨h.1.cell 0, h.1.cell 1, h.1.cell 2, h.1.cell 3, h.1.cell 4, h.1.cell 5, h.2.1.cell 0, h.2.1.cell 1⟩
set_option maxHeartbeats 4000000 in
theorem refHear_any (S : Nat → Prop) (g : Nat) (st sp de co : Int) (s : Pl.Rst) (i : Int) (A : Option Addr) (c : Nat) (b : List Int) (t lo hi : Int) (W : World)
    (hC : Pl.cfOk st sp de co) (hs : Pl.okR co s) (hb : Pl.okB b) (hS : IsSl W A .u8 b) (hM : RefS W S g st sp de co s) :
    Calls Tryd.prog 27 #[pt g, .int .i64 i, .slice A b.length c, .int .u64 t, .agg #[.int .i64 lo, .int .i64 hi]] W (RefHearP W S g st sp de co s i b t lo hi) := by
  obtain ⟨N, kv, v, L, M⟩ := hM
  obtain ⟨⟨Av, cv, hv⟩, kb, kc, hkv, _⟩ := M.shape
  have hlen64 := hs.len
  have hkn1 := hs.kn1
  have hkn := M.kn
  generalize hLn : s.ms.length = ln at hv hlen64
  have HLn := hid hLn
  clear hLn
  have hbl : b.length ≤ 1000000 := hb.2
  have HSb := hid hS
  clear hs hb hS
  generalize hbn : b.length = n at hbl ⊢
  have HBn := hid hbn
  clear hbn
  have K0 : HrR W g (rrc st sp de co kv v) W.heap.size #[.int .i64 lo, .int .i64 hi] (W.alloc (.cells #[.int .i64 lo, .int .i64 hi] 43)) :=
    ⟨M.bk.next ((Below.refl _ _).alloc (Nat.le_refl _) _), Bk.new W 43 _, (Below.refl _ _).alloc (Nat.le_refl _) _⟩
  have HM := hid M
  clear M
  subst hv
  subst hkv
  have HC := hid hC
  have hde : 1 ≤ de ∧ de ≤ 8 := hC.2.2.1
  have hco : 1 ≤ co ∧ co ≤ 64 := hC.2.2.2
  obtain ⟨hde0, hde1⟩ := hde
  obtain ⟨hco0, hco1⟩ := hco
  clear hC
  have hN64 : N ≤ 64 := by omega
  have HKN := hid hkn
  clear hkn hkn1
  have KC := hid (fun w => refIvCheck_any lo hi w)
  have KI : Hid (∀ w', Calls Tryd.prog 18 #[.agg #[.int .i64 st, .int .i64 sp, .int .i64 de, .int .i64 co], .int .i64 hi] w' fun e w'' => e = .returned (.int .i64 (Pl.ivl st sp de co hi)) ∧ Below w'.heap.size w' w'') := hid (fun w => refInterval_any st sp de co hi w)
  by_cases h1 : i < 1
  · have hE := hid (show Pl.hErr st sp de co s i lo hi = 3 by unfold Pl.hErr; rw [if_pos (.inl h1)])
    obtain ⟨c0, c1, c2, c3, c4, c5, x0, x1⟩ := K0.cells
    go_enter Tryd.func27, Tryd.ntmps27
    go_wp2
    go_ret
    exact refHearP_err hE.out (by decide) K0.2.2
  by_cases h2 : co < i
  · have hE := hid (show Pl.hErr st sp de co s i lo hi = 3 by unfold Pl.hErr; rw [if_pos (.inr h2)])
    obtain ⟨c0, c1, c2, c3, c4, c5, x0, x1⟩ := K0.cells
    go_enter Tryd.func27, Tryd.ntmps27
    go_wp2
    go_ret
    exact refHearP_err hE.out (by decide) K0.2.2
  have hE0 := hid (show ¬ (i < 1 ∨ co < i) by omega)
  obtain ⟨c0, c1, c2, c3, c4, c5, x0, x1⟩ := K0.cells
  go_enter Tryd.func27, Tryd.ntmps27
  go_wp2_with fail
  clear c0 c1 c2 c3 c4 c5 x0 x1
  generalize W.alloc (.cells #[.int .i64 lo, .int .i64 hi] 43) = w0 at *
  with_reducible refine (KC.out _).mono ?_
  rintro e w1 ⟨rfl, hb1⟩
  have K1 := K0.next hb1
  clear K0 hb1
  obtain ⟨c0, c1, c2, c3, c4, c5, x0, x1⟩ := K1.cells
  by_cases h3 : Pl.ivOk lo hi
  case neg =>
    have hE := hid (show Pl.hErr st sp de co s i lo hi = 2 by unfold Pl.hErr; rw [if_neg hE0.out, if_pos h3])
    have h3' := Pl.ivErr_no h3
    rw [h3']
    go_wp2
    go_ret
    exact refHearP_err hE.out (by decide) K1.2.2
  have h3' := Pl.ivErr_yes h3
  rw [h3']
  have H3 := hid h3
  clear h3 h3'
  have hw := IntWalk.i64_in (i + de) (by omega)
  go_wp2_with fail
  generalize hvl : Pl.ivl st sp de co hi = vl at *
  have HV := hid hvl
  clear hvl
  by_cases h4 : i + de ≤ vl
  · have hE := hid (show Pl.hErr st sp de co s i lo hi = 17 by unfold Pl.hErr; rw [if_neg hE0.out, if_neg (by simpa using H3.out), if_pos (by rw [HV.out]; exact h4)])
    refine region_class (fun w' => HrR W g (rrc st sp de co (.slice (some ⟨kb, 0, none⟩) (N + 1) kc) (.slice Av ln cv)) W.heap.size #[.int .i64 lo, .int .i64 hi] w') (by kernel_rfl) (by kernel_rfl) (HrR.drew K1) ?_
    clear K1 c0 c1 c2 c3 c4 c5 x0 x1
    repeat
      first
      | (refine BigFrame.wpQuiet_skip (by rfl) ?_
         simp only [Act.put, List.setIfInBounds_toArray, List.set_cons_zero, List.set_cons_succ])
      | (refine class_want (by rfl) ?_
         apply Exists.intro
         refine ⟨fun w1 h1 => ?_, ?_⟩
         focus
           obtain ⟨c0, c1, c2, c3, c4, c5, x0, x1⟩ := HrR.cells h1
           unfold Oper.quietAt Oper.quietUpon
           go_simp
           first
           | exact rfl
           | (with_reducible refine (KI.out _).mono ?_
              rintro e w2 ⟨rfl, hb⟩
              exact ⟨rfl, HrR.next h1 hb⟩)
         simp only [Act.put, List.setIfInBounds_toArray, List.set_cons_zero, List.set_cons_succ])
    refine wpQuiet_nil ?_
    intro w3 h3
    obtain ⟨c0, c1, c2, c3, c4, c5, x0, x1⟩ := HrR.cells h3
    go_wp2
    go_ret
    exact refHearP_err hE.out (by decide) h3.2.2
  refine region_class (fun w' => HrR W g (rrc st sp de co (.slice (some ⟨kb, 0, none⟩) (N + 1) kc) (.slice Av ln cv)) W.heap.size #[.int .i64 lo, .int .i64 hi] w') (by kernel_rfl) (by kernel_rfl) (HrR.drew K1) ?_
  clear K1 c0 c1 c2 c3 c4 c5 x0 x1
  repeat
    first
    | (refine BigFrame.wpQuiet_skip (by rfl) ?_
       simp only [Act.put, List.setIfInBounds_toArray, List.set_cons_zero, List.set_cons_succ])
    | (refine class_want (by rfl) ?_
       apply Exists.intro
       refine ⟨fun w1 h1 => ?_, ?_⟩
       focus
         obtain ⟨c0, c1, c2, c3, c4, c5, x0, x1⟩ := HrR.cells h1
         unfold Oper.quietAt Oper.quietUpon
         go_simp
         first
         | exact rfl
         | (with_reducible refine (KI.out _).mono ?_
            rintro e w2 ⟨rfl, hb⟩
            exact ⟨rfl, HrR.next h1 hb⟩)
       simp only [Act.put, List.setIfInBounds_toArray, List.set_cons_zero, List.set_cons_succ])
  refine wpQuiet_nil ?_
  intro w3 h3
  obtain ⟨c0, c1, c2, c3, c4, c5, x0, x1⟩ := HrR.cells h3
  by_cases h5 : i ≤ (N : Int)
  · have hE := hid (show Pl.hErr st sp de co s i lo hi = 10 by unfold Pl.hErr; rw [if_neg hE0.out, if_neg (by simpa using H3.out), if_neg (by rw [HV.out]; exact h4), if_pos (by rw [HKN.out]; exact h5)])
    have h5' : i < (N : Int) + 1 := by omega
    go_wp2
    go_ret
    exact refHearP_err hE.out (by decide) h3.2.2
  by_cases h6 : 64 ≤ ln
  · have hE := hid (show Pl.hErr st sp de co s i lo hi = 13 by unfold Pl.hErr; rw [if_neg hE0.out, if_neg (by simpa using H3.out), if_neg (by rw [HV.out]; exact h4), if_neg (by rw [HKN.out]; exact h5), if_pos (by rw [HLn.out]; exact h6)])
    have h5' : ¬ i < (N : Int) + 1 := by omega
    go_wp2
    go_ret
    exact refHearP_err hE.out (by decide) h3.2.2
  have hE := hid (show Pl.hErr st sp de co s i lo hi = 0 by unfold Pl.hErr; rw [if_neg hE0.out, if_neg (by simpa using H3.out), if_neg (by rw [HV.out]; exact h4), if_neg (by rw [HKN.out]; exact h5), if_neg (by rw [HLn.out]; exact h6)])
  have h5' : ¬ i < (N : Int) + 1 := by omega
  go_wp2_with fail
  have hsz3 := h3.2.2.size
  have HM3 := hid (HM.out.next h3.2.2)
  replace HSb := hid (HSb.out.next h3.2.2)
  have B3 := hid h3.2.2
  have HLL : Hid (L.length = ln) := hid (by rw [← HLn.out, ← HM.out.ms]; simp)
  have D5 : ∀ (w4 : World), Below w3.heap.size w3 w4 → w4.cell? ⟨g, 5, none⟩ = some (.slice Av ln cv) := fun w4 h => (HM3.out.next h).bk.cell 5
  replace D5 := hid D5
  have HBq : Hid (Below w3.heap.size w3 w3.drew) := hid ((Below.refl _ _).drew)
  clear c0 c1 c2 c3 c4 c5 x0 x1 h3 hsz3
  refine wp_region_held_drew (S := fun _ => True) (by kernel_rfl) trivial (fun hHeld => ?_)
  generalize w3.drew = w30 at *
  refine wpAnyH_take (i := 0) (oi := ⟨some 61, _, _, _, _, _⟩) (v := ?_) rfl (by kernel_rfl) (by kernel_rfl) (by kernel_rfl) (fun _ _ _ h => h) (Or.inl ⟨by rfl, ?_⟩) (by assumption) ?_
  rotate_left
  focus
    intro w hSw
    go_simp
    first
    | done
    | with_reducible rfl
  try simp only [Act.put, List.setIfInBounds_toArray, List.set_cons_zero, List.set_cons_succ]
  refine wpAnyH_take (i := 1) (oi := ⟨some 62, _, _, _, _, _⟩) (v := ?_) rfl (by kernel_rfl) (by kernel_rfl) (by kernel_rfl) (fun _ _ _ h => h) (Or.inl ⟨by rfl, ?_⟩) (by assumption) ?_
  rotate_left
  focus
    intro w hSw
    go_simp
    first
    | done
    | with_reducible rfl
  try simp only [Act.put, List.setIfInBounds_toArray, List.set_cons_zero, List.set_cons_succ]
  refine wpAnyH_take (i := 2) (oi := ⟨some 63, _, _, _, _, _⟩) (v := ?_) rfl (by kernel_rfl) (by kernel_rfl) (by kernel_rfl) (fun _ _ _ h => h) (Or.inl ⟨by rfl, ?_⟩) (by assumption) ?_
  rotate_left
  focus
    intro w hSw
    go_simp
    first
    | done
    | with_reducible rfl
  try simp only [Act.put, List.setIfInBounds_toArray, List.set_cons_zero, List.set_cons_succ]
  refine wpAnyH_take (i := 3) (oi := ⟨some 64, _, _, _, _, _⟩) (v := ?_) rfl (by kernel_rfl) (by kernel_rfl) (by kernel_rfl) (fun _ _ _ h => h) (Or.inl ⟨by rfl, ?_⟩) (by assumption) ?_
  rotate_left
  focus
    intro w hSw
    go_simp
    first
    | done
    | with_reducible rfl
  try simp only [Act.put, List.setIfInBounds_toArray, List.set_cons_zero, List.set_cons_succ]
  refine wpAnyH_take (i := 5) (oi := ⟨some 66, _, _, _, _, _⟩) (v := ?_) rfl (by kernel_rfl) (by kernel_rfl) (by kernel_rfl) (fun _ _ _ h => h) (Or.inl ⟨by rfl, ?_⟩) (by assumption) ?_
  rotate_left
  focus
    intro w hSw
    go_simp
    first
    | done
    | with_reducible rfl
  try simp only [Act.put, List.setIfInBounds_toArray, List.set_cons_zero, List.set_cons_succ]
  refine wpAnyH_take (i := 7) (oi := ⟨some 68, _, _, _, _, _⟩) (v := ?_) rfl (by kernel_rfl) (by kernel_rfl) (by kernel_rfl) (fun _ _ _ h => h) (Or.inl ⟨by rfl, ?_⟩) (by assumption) ?_
  rotate_left
  focus
    intro w hSw
    go_simp
    first
    | done
    | with_reducible rfl
  try simp only [Act.put, List.setIfInBounds_toArray, List.set_cons_zero, List.set_cons_succ]
  refine wpAnyH_take (i := 9) (oi := ⟨some 70, _, _, _, _, _⟩) (v := ?_) rfl (by kernel_rfl) (by kernel_rfl) (by kernel_rfl) (fun _ _ _ h => h) (Or.inl ⟨by rfl, ?_⟩) (by assumption) ?_
  rotate_left
  focus
    intro w hSw
    go_simp
    first
    | done
    | with_reducible rfl
  try simp only [Act.put, List.setIfInBounds_toArray, List.set_cons_zero, List.set_cons_succ]
  refine wpAnyH_ready (rs := [4, 6]) (by kernel_rfl) (by simp) ?_
  refine AllReadyH.cons (o := ⟨some 65, _, _, _, _, _⟩) rfl (fun K hK => ?_) (AllReadyH.cons (o := ⟨some 67, _, _, _, _, _⟩) rfl (fun K hK => ?_) AllReadyH.nil)
  · have cL := D5.out _ HBq.out
    go_simp
    clear cL
    refine hK.out _ _ trivial (fun hHeld => ?_)
    clear hK K
    try simp only [Act.put, List.setIfInBounds_toArray, List.set_cons_zero, List.set_cons_succ]
    refine wpAnyH_ready (rs := [6]) (by kernel_rfl) (by simp) ?_
    refine AllReadyH.cons (o := ⟨some 67, _, _, _, _, _⟩) rfl (fun K hK => ?_) AllReadyH.nil
    go_simp
    have HE := hid (Own.empty (Bk.new w30 5 #[]) HBq.out.size (k := .u8))
    replace HBq := hid (HBq.out.alloc HBq.out.size (.cells #[] 5))
    generalize w30.alloc (.cells #[] 5) = wq1 at *
    generalize w30.heap.size = p1 at *
    refine hK.out _ _ trivial (fun hHeld => ?_)
    clear hK K
    try simp only [Act.put, List.setIfInBounds_toArray, List.set_cons_zero, List.set_cons_succ]
    refine wpAnyH_ready (rs := [8]) (by kernel_rfl) (by simp) ?_
    refine AllReadyH.cons (o := ⟨some 69, _, _, _, _, _⟩) rfl (fun K hK => ?_) AllReadyH.nil
    refine step_app_bytes (by rfl) (.tmp 67) (.tmp 68) (by rfl) w3.heap.size _ [] (by rfl) HE.out A c b HBn.out (by rfl) (HSb.out.next HBq.out) hbl HBq.out.size (by simp) ?_
    intro vb wq2 OB1 BB1
    obtain ⟨Ab, cb, hvb, HSA, hob⟩ := OB1.slice_
    have HOB := hid (And.intro HSA (fun a (e : Ab = some a) => own_at (v := vb) (a := a) (by rw [hvb, e]; rfl) hob))
    replace HBq := hid (HBq.out.trans BB1)
    simp only [List.nil_append] at hvb
    rw [HBn.out] at hvb
    subst hvb
    clear OB1 BB1 HSA hob HE
    refine hK.out _ _ trivial (fun hHeld => ?_)
    clear hK K
    try simp only [Act.put, List.setIfInBounds_toArray, List.set_cons_zero, List.set_cons_succ]
    refine wpAnyH_take (i := 10) (oi := ⟨some 71, _, _, _, _, _⟩) (v := ?_) rfl (by kernel_rfl) (by kernel_rfl) (by kernel_rfl) (fun _ _ _ h => h) (Or.inl ⟨by rfl, ?_⟩) (by assumption) ?_
    rotate_left
    focus
      intro w hSw
      go_simp
      first
      | done
      | with_reducible rfl
    try simp only [Act.put, List.setIfInBounds_toArray, List.set_cons_zero, List.set_cons_succ]
    refine wpAnyH_ready (rs := [11]) (by kernel_rfl) (by simp) ?_
    refine AllReadyH.cons (o := ⟨some 72, _, _, _, _, _⟩) rfl (fun K hK => ?_) AllReadyH.nil
    go_simp
    have KB := hid (Bk.new wq2 84 #[.int .i64 i, .slice Ab n cb, .int .u64 t])
    replace HOB := hid (And.intro (HOB.out.1.next ((Below.refl _ _).alloc (Nat.le_refl _) (.cells #[.int .i64 i, .slice Ab n cb, .int .u64 t] 84))) (fun a (e : Ab = some a) => And.intro (HOB.out.2 a e).1 (Nat.lt_of_lt_of_le (HOB.out.2 a e).2 ((Below.refl _ _).alloc (Nat.le_refl _) (.cells #[.int .i64 i, .slice Ab n cb, .int .u64 t] 84)).size)))
    replace HBq := hid (HBq.out.alloc HBq.out.size (.cells #[.int .i64 i, .slice Ab n cb, .int .u64 t] 84))
    generalize wq2.alloc (.cells #[.int .i64 i, .slice Ab n cb, .int .u64 t] 84) = wq3 at *
    generalize wq2.heap.size = p2 at *
    refine hK.out _ _ trivial (fun hHeld => ?_)
    clear hK K
    try simp only [Act.put, List.setIfInBounds_toArray, List.set_cons_zero, List.set_cons_succ]
    refine wpAnyH_ready (rs := [12]) (by kernel_rfl) (by simp) ?_
    refine AllReadyH.cons (o := ⟨some 73, _, _, _, _, _⟩) rfl (fun K hK => ?_) AllReadyH.nil
    have hM := (HM3.out.next HBq.out)
    refine step_app_msg (by rfl) (.tmp 65) (.tmp 72) (by rfl) _ ln L (by rfl) hM.own HLL.out p2 i t Ab n cb (by rfl) KB.out (by omega) ?_
    intro v' wq4 O5 hg5 hat5
    have K5 := grown_bk hg5 hM.bk (fun e => (hM.inh g e).2 rfl)
    have e5 := K5.cell 5
    have f5 := K5.free 5
    have H5 := hid (And.intro O5 (And.intro hg5 hat5))
    have HB4 := hid HBq.out
    clear O5 hg5 hat5 K5 hM
    simp only [rrc, List.getElem?_toArray, List.getElem?_cons_zero, List.getElem?_cons_succ] at e5
    refine hK.out _ _ trivial (fun hHeld => ?_)
    clear hK K
    try simp only [Act.put, List.setIfInBounds_toArray, List.set_cons_zero, List.set_cons_succ]
    refine wpAnyH_take (i := 13) (oi := ⟨some 74, _, _, _, _, _⟩) (v := ?_) rfl (by kernel_rfl) (by kernel_rfl) (by kernel_rfl) (fun _ _ _ h => h) (Or.inl ⟨by rfl, ?_⟩) (by assumption) ?_
    rotate_left
    focus
      intro w hSw
      go_simp
      first
      | done
      | with_reducible rfl
    try simp only [Act.put, List.setIfInBounds_toArray, List.set_cons_zero, List.set_cons_succ]
    refine wpAnyH_take (i := 14) (oi := ⟨some 75, _, _, _, _, _⟩) (v := ?_) rfl (by kernel_rfl) (by kernel_rfl) (by kernel_rfl) (fun _ _ _ h => h) (Or.inl ⟨by rfl, ?_⟩) (by assumption) ?_
    rotate_left
    focus
      intro w hSw
      go_simp
      first
      | done
      | with_reducible rfl
    try simp only [Act.put, List.setIfInBounds_toArray, List.set_cons_zero, List.set_cons_succ]
    refine wpAnyH_ready (rs := [15]) (by kernel_rfl) (by simp) ?_
    refine AllReadyH.cons (o := ⟨none, _, _, _, _, _⟩) rfl (fun K hK => ?_) AllReadyH.nil
    obtain ⟨g', cap', hv'⟩ := own_slice H5.out.1
    subst hv'
    go_simp
    refine hK.out _ _ trivial (fun hHeld => ?_)
    clear hK K
    try simp only [Act.put, List.setIfInBounds_toArray, List.set_cons_zero, List.set_cons_succ]
    refine wpAnyH_done (by kernel_rfl) ?_ _
    go_wp2_with fail
    go_ret
    refine ⟨by rw [hE.out]; rfl, .inr ⟨hE.out, ?_⟩⟩
    obtain ⟨O5, hg5, hat5⟩ := H5.out
    refine refHear_end HM.out HBn.out (B3.out.trans (HB4.out.mono B3.out.size)) HOB.out.1 (fun a e => ⟨Nat.le_trans B3.out.size (HOB.out.2 a e).1, (HOB.out.2 a e).2⟩) hg5 (by rw [HLL.out]; exact O5) hat5
  · go_simp
    have HE := hid (Own.empty (Bk.new w30 5 #[]) HBq.out.size (k := .u8))
    replace HBq := hid (HBq.out.alloc HBq.out.size (.cells #[] 5))
    generalize w30.alloc (.cells #[] 5) = wq0 at *
    generalize w30.heap.size = p1 at *
    refine hK.out _ _ trivial (fun hHeld => ?_)
    clear hK K
    try simp only [Act.put, List.setIfInBounds_toArray, List.set_cons_zero, List.set_cons_succ]
    refine wpAnyH_ready (rs := [4, 8]) (by kernel_rfl) (by simp) ?_
    refine AllReadyH.cons (o := ⟨some 65, _, _, _, _, _⟩) rfl (fun K hK => ?_) (AllReadyH.cons (o := ⟨some 69, _, _, _, _, _⟩) rfl (fun K hK => ?_) AllReadyH.nil)
    · have cL := D5.out _ HBq.out
      go_simp
      clear cL
      refine hK.out _ _ trivial (fun hHeld => ?_)
      clear hK K
      try simp only [Act.put, List.setIfInBounds_toArray, List.set_cons_zero, List.set_cons_succ]
      refine wpAnyH_ready (rs := [8]) (by kernel_rfl) (by simp) ?_
      refine AllReadyH.cons (o := ⟨some 69, _, _, _, _, _⟩) rfl (fun K hK => ?_) AllReadyH.nil
      refine step_app_bytes (by rfl) (.tmp 67) (.tmp 68) (by rfl) w3.heap.size _ [] (by rfl) HE.out A c b HBn.out (by rfl) (HSb.out.next HBq.out) hbl HBq.out.size (by simp) ?_
      intro vb wq2 OB1 BB1
      obtain ⟨Ab, cb, hvb, HSA, hob⟩ := OB1.slice_
      have HOB := hid (And.intro HSA (fun a (e : Ab = some a) => own_at (v := vb) (a := a) (by rw [hvb, e]; rfl) hob))
      replace HBq := hid (HBq.out.trans BB1)
      simp only [List.nil_append] at hvb
      rw [HBn.out] at hvb
      subst hvb
      clear OB1 BB1 HSA hob HE
      refine hK.out _ _ trivial (fun hHeld => ?_)
      clear hK K
      try simp only [Act.put, List.setIfInBounds_toArray, List.set_cons_zero, List.set_cons_succ]
      refine wpAnyH_take (i := 10) (oi := ⟨some 71, _, _, _, _, _⟩) (v := ?_) rfl (by kernel_rfl) (by kernel_rfl) (by kernel_rfl) (fun _ _ _ h => h) (Or.inl ⟨by rfl, ?_⟩) (by assumption) ?_
      rotate_left
      focus
        intro w hSw
        go_simp
        first
        | done
        | with_reducible rfl
      try simp only [Act.put, List.setIfInBounds_toArray, List.set_cons_zero, List.set_cons_succ]
      refine wpAnyH_ready (rs := [11]) (by kernel_rfl) (by simp) ?_
      refine AllReadyH.cons (o := ⟨some 72, _, _, _, _, _⟩) rfl (fun K hK => ?_) AllReadyH.nil
      go_simp
      have KB := hid (Bk.new wq2 84 #[.int .i64 i, .slice Ab n cb, .int .u64 t])
      replace HOB := hid (And.intro (HOB.out.1.next ((Below.refl _ _).alloc (Nat.le_refl _) (.cells #[.int .i64 i, .slice Ab n cb, .int .u64 t] 84))) (fun a (e : Ab = some a) => And.intro (HOB.out.2 a e).1 (Nat.lt_of_lt_of_le (HOB.out.2 a e).2 ((Below.refl _ _).alloc (Nat.le_refl _) (.cells #[.int .i64 i, .slice Ab n cb, .int .u64 t] 84)).size)))
      replace HBq := hid (HBq.out.alloc HBq.out.size (.cells #[.int .i64 i, .slice Ab n cb, .int .u64 t] 84))
      generalize wq2.alloc (.cells #[.int .i64 i, .slice Ab n cb, .int .u64 t] 84) = wq3 at *
      generalize wq2.heap.size = p2 at *
      refine hK.out _ _ trivial (fun hHeld => ?_)
      clear hK K
      try simp only [Act.put, List.setIfInBounds_toArray, List.set_cons_zero, List.set_cons_succ]
      refine wpAnyH_ready (rs := [12]) (by kernel_rfl) (by simp) ?_
      refine AllReadyH.cons (o := ⟨some 73, _, _, _, _, _⟩) rfl (fun K hK => ?_) AllReadyH.nil
      have hM := (HM3.out.next HBq.out)
      refine step_app_msg (by rfl) (.tmp 65) (.tmp 72) (by rfl) _ ln L (by rfl) hM.own HLL.out p2 i t Ab n cb (by rfl) KB.out (by omega) ?_
      intro v' wq4 O5 hg5 hat5
      have K5 := grown_bk hg5 hM.bk (fun e => (hM.inh g e).2 rfl)
      have e5 := K5.cell 5
      have f5 := K5.free 5
      have H5 := hid (And.intro O5 (And.intro hg5 hat5))
      have HB4 := hid HBq.out
      clear O5 hg5 hat5 K5 hM
      simp only [rrc, List.getElem?_toArray, List.getElem?_cons_zero, List.getElem?_cons_succ] at e5
      refine hK.out _ _ trivial (fun hHeld => ?_)
      clear hK K
      try simp only [Act.put, List.setIfInBounds_toArray, List.set_cons_zero, List.set_cons_succ]
      refine wpAnyH_take (i := 13) (oi := ⟨some 74, _, _, _, _, _⟩) (v := ?_) rfl (by kernel_rfl) (by kernel_rfl) (by kernel_rfl) (fun _ _ _ h => h) (Or.inl ⟨by rfl, ?_⟩) (by assumption) ?_
      rotate_left
      focus
        intro w hSw
        go_simp
        first
        | done
        | with_reducible rfl
      try simp only [Act.put, List.setIfInBounds_toArray, List.set_cons_zero, List.set_cons_succ]
      refine wpAnyH_take (i := 14) (oi := ⟨some 75, _, _, _, _, _⟩) (v := ?_) rfl (by kernel_rfl) (by kernel_rfl) (by kernel_rfl) (fun _ _ _ h => h) (Or.inl ⟨by rfl, ?_⟩) (by assumption) ?_
      rotate_left
      focus
        intro w hSw
        go_simp
        first
        | done
        | with_reducible rfl
      try simp only [Act.put, List.setIfInBounds_toArray, List.set_cons_zero, List.set_cons_succ]
      refine wpAnyH_ready (rs := [15]) (by kernel_rfl) (by simp) ?_
      refine AllReadyH.cons (o := ⟨none, _, _, _, _, _⟩) rfl (fun K hK => ?_) AllReadyH.nil
      obtain ⟨g', cap', hv'⟩ := own_slice H5.out.1
      subst hv'
      go_simp
      refine hK.out _ _ trivial (fun hHeld => ?_)
      clear hK K
      try simp only [Act.put, List.setIfInBounds_toArray, List.set_cons_zero, List.set_cons_succ]
      refine wpAnyH_done (by kernel_rfl) ?_ _
      go_wp2_with fail
      go_ret
      refine ⟨by rw [hE.out]; rfl, .inr ⟨hE.out, ?_⟩⟩
      obtain ⟨O5, hg5, hat5⟩ := H5.out
      refine refHear_end HM.out HBn.out (B3.out.trans (HB4.out.mono B3.out.size)) HOB.out.1 (fun a e => ⟨Nat.le_trans B3.out.size (HOB.out.2 a e).1, (HOB.out.2 a e).2⟩) hg5 (by rw [HLL.out]; exact O5) hat5
    · refine step_app_bytes (by rfl) (.tmp 67) (.tmp 68) (by rfl) w3.heap.size _ [] (by rfl) HE.out A c b HBn.out (by rfl) (HSb.out.next HBq.out) hbl HBq.out.size (by simp) ?_
      intro vb wq1 OB1 BB1
      obtain ⟨Ab, cb, hvb, HSA, hob⟩ := OB1.slice_
      have HOB := hid (And.intro HSA (fun a (e : Ab = some a) => own_at (v := vb) (a := a) (by rw [hvb, e]; rfl) hob))
      replace HBq := hid (HBq.out.trans BB1)
      simp only [List.nil_append] at hvb
      rw [HBn.out] at hvb
      subst hvb
      clear OB1 BB1 HSA hob HE
      refine hK.out _ _ trivial (fun hHeld => ?_)
      clear hK K
      try simp only [Act.put, List.setIfInBounds_toArray, List.set_cons_zero, List.set_cons_succ]
      refine wpAnyH_take (i := 10) (oi := ⟨some 71, _, _, _, _, _⟩) (v := ?_) rfl (by kernel_rfl) (by kernel_rfl) (by kernel_rfl) (fun _ _ _ h => h) (Or.inl ⟨by rfl, ?_⟩) (by assumption) ?_
      rotate_left
      focus
        intro w hSw
        go_simp
        first
        | done
        | with_reducible rfl
      try simp only [Act.put, List.setIfInBounds_toArray, List.set_cons_zero, List.set_cons_succ]
      refine wpAnyH_ready (rs := [4, 11]) (by kernel_rfl) (by simp) ?_
      refine AllReadyH.cons (o := ⟨some 65, _, _, _, _, _⟩) rfl (fun K hK => ?_) (AllReadyH.cons (o := ⟨some 72, _, _, _, _, _⟩) rfl (fun K hK => ?_) AllReadyH.nil)
      · have cL := D5.out _ HBq.out
        go_simp
        clear cL
        refine hK.out _ _ trivial (fun hHeld => ?_)
        clear hK K
        try simp only [Act.put, List.setIfInBounds_toArray, List.set_cons_zero, List.set_cons_succ]
        refine wpAnyH_ready (rs := [11]) (by kernel_rfl) (by simp) ?_
        refine AllReadyH.cons (o := ⟨some 72, _, _, _, _, _⟩) rfl (fun K hK => ?_) AllReadyH.nil
        go_simp
        have KB := hid (Bk.new wq1 84 #[.int .i64 i, .slice Ab n cb, .int .u64 t])
        replace HOB := hid (And.intro (HOB.out.1.next ((Below.refl _ _).alloc (Nat.le_refl _) (.cells #[.int .i64 i, .slice Ab n cb, .int .u64 t] 84))) (fun a (e : Ab = some a) => And.intro (HOB.out.2 a e).1 (Nat.lt_of_lt_of_le (HOB.out.2 a e).2 ((Below.refl _ _).alloc (Nat.le_refl _) (.cells #[.int .i64 i, .slice Ab n cb, .int .u64 t] 84)).size)))
        replace HBq := hid (HBq.out.alloc HBq.out.size (.cells #[.int .i64 i, .slice Ab n cb, .int .u64 t] 84))
        generalize wq1.alloc (.cells #[.int .i64 i, .slice Ab n cb, .int .u64 t] 84) = wq3 at *
        generalize wq1.heap.size = p2 at *
        refine hK.out _ _ trivial (fun hHeld => ?_)
        clear hK K
        try simp only [Act.put, List.setIfInBounds_toArray, List.set_cons_zero, List.set_cons_succ]
        refine wpAnyH_ready (rs := [12]) (by kernel_rfl) (by simp) ?_
        refine AllReadyH.cons (o := ⟨some 73, _, _, _, _, _⟩) rfl (fun K hK => ?_) AllReadyH.nil
        have hM := (HM3.out.next HBq.out)
        refine step_app_msg (by rfl) (.tmp 65) (.tmp 72) (by rfl) _ ln L (by rfl) hM.own HLL.out p2 i t Ab n cb (by rfl) KB.out (by omega) ?_
        intro v' wq4 O5 hg5 hat5
        have K5 := grown_bk hg5 hM.bk (fun e => (hM.inh g e).2 rfl)
        have e5 := K5.cell 5
        have f5 := K5.free 5
        have H5 := hid (And.intro O5 (And.intro hg5 hat5))
        have HB4 := hid HBq.out
        clear O5 hg5 hat5 K5 hM
        simp only [rrc, List.getElem?_toArray, List.getElem?_cons_zero, List.getElem?_cons_succ] at e5
        refine hK.out _ _ trivial (fun hHeld => ?_)
        clear hK K
        try simp only [Act.put, List.setIfInBounds_toArray, List.set_cons_zero, List.set_cons_succ]
        refine wpAnyH_take (i := 13) (oi := ⟨some 74, _, _, _, _, _⟩) (v := ?_) rfl (by kernel_rfl) (by kernel_rfl) (by kernel_rfl) (fun _ _ _ h => h) (Or.inl ⟨by rfl, ?_⟩) (by assumption) ?_
        rotate_left
        focus
          intro w hSw
          go_simp
          first
          | done
          | with_reducible rfl
        try simp only [Act.put, List.setIfInBounds_toArray, List.set_cons_zero, List.set_cons_succ]
        refine wpAnyH_take (i := 14) (oi := ⟨some 75, _, _, _, _, _⟩) (v := ?_) rfl (by kernel_rfl) (by kernel_rfl) (by kernel_rfl) (fun _ _ _ h => h) (Or.inl ⟨by rfl, ?_⟩) (by assumption) ?_
        rotate_left
        focus
          intro w hSw
          go_simp
          first
          | done
          | with_reducible rfl
        try simp only [Act.put, List.setIfInBounds_toArray, List.set_cons_zero, List.set_cons_succ]
        refine wpAnyH_ready (rs := [15]) (by kernel_rfl) (by simp) ?_
        refine AllReadyH.cons (o := ⟨none, _, _, _, _, _⟩) rfl (fun K hK => ?_) AllReadyH.nil
        obtain ⟨g', cap', hv'⟩ := own_slice H5.out.1
        subst hv'
        go_simp
        refine hK.out _ _ trivial (fun hHeld => ?_)
        clear hK K
        try simp only [Act.put, List.setIfInBounds_toArray, List.set_cons_zero, List.set_cons_succ]
        refine wpAnyH_done (by kernel_rfl) ?_ _
        go_wp2_with fail
        go_ret
        refine ⟨by rw [hE.out]; rfl, .inr ⟨hE.out, ?_⟩⟩
        obtain ⟨O5, hg5, hat5⟩ := H5.out
        refine refHear_end HM.out HBn.out (B3.out.trans (HB4.out.mono B3.out.size)) HOB.out.1 (fun a e => ⟨Nat.le_trans B3.out.size (HOB.out.2 a e).1, (HOB.out.2 a e).2⟩) hg5 (by rw [HLL.out]; exact O5) hat5
      · go_simp
        have KB := hid (Bk.new wq1 84 #[.int .i64 i, .slice Ab n cb, .int .u64 t])
        replace HOB := hid (And.intro (HOB.out.1.next ((Below.refl _ _).alloc (Nat.le_refl _) (.cells #[.int .i64 i, .slice Ab n cb, .int .u64 t] 84))) (fun a (e : Ab = some a) => And.intro (HOB.out.2 a e).1 (Nat.lt_of_lt_of_le (HOB.out.2 a e).2 ((Below.refl _ _).alloc (Nat.le_refl _) (.cells #[.int .i64 i, .slice Ab n cb, .int .u64 t] 84)).size)))
        replace HBq := hid (HBq.out.alloc HBq.out.size (.cells #[.int .i64 i, .slice Ab n cb, .int .u64 t] 84))
        generalize wq1.alloc (.cells #[.int .i64 i, .slice Ab n cb, .int .u64 t] 84) = wq2 at *
        generalize wq1.heap.size = p2 at *
        refine hK.out _ _ trivial (fun hHeld => ?_)
        clear hK K
        try simp only [Act.put, List.setIfInBounds_toArray, List.set_cons_zero, List.set_cons_succ]
        refine wpAnyH_ready (rs := [4]) (by kernel_rfl) (by simp) ?_
        refine AllReadyH.cons (o := ⟨some 65, _, _, _, _, _⟩) rfl (fun K hK => ?_) AllReadyH.nil
        have cL := D5.out _ HBq.out
        go_simp
        clear cL
        refine hK.out _ _ trivial (fun hHeld => ?_)
        clear hK K
        try simp only [Act.put, List.setIfInBounds_toArray, List.set_cons_zero, List.set_cons_succ]
        refine wpAnyH_ready (rs := [12]) (by kernel_rfl) (by simp) ?_
        refine AllReadyH.cons (o := ⟨some 73, _, _, _, _, _⟩) rfl (fun K hK => ?_) AllReadyH.nil
        have hM := (HM3.out.next HBq.out)
        refine step_app_msg (by rfl) (.tmp 65) (.tmp 72) (by rfl) _ ln L (by rfl) hM.own HLL.out p2 i t Ab n cb (by rfl) KB.out (by omega) ?_
        intro v' wq4 O5 hg5 hat5
        have K5 := grown_bk hg5 hM.bk (fun e => (hM.inh g e).2 rfl)
        have e5 := K5.cell 5
        have f5 := K5.free 5
        have H5 := hid (And.intro O5 (And.intro hg5 hat5))
        have HB4 := hid HBq.out
        clear O5 hg5 hat5 K5 hM
        simp only [rrc, List.getElem?_toArray, List.getElem?_cons_zero, List.getElem?_cons_succ] at e5
        refine hK.out _ _ trivial (fun hHeld => ?_)
        clear hK K
        try simp only [Act.put, List.setIfInBounds_toArray, List.set_cons_zero, List.set_cons_succ]
        refine wpAnyH_take (i := 13) (oi := ⟨some 74, _, _, _, _, _⟩) (v := ?_) rfl (by kernel_rfl) (by kernel_rfl) (by kernel_rfl) (fun _ _ _ h => h) (Or.inl ⟨by rfl, ?_⟩) (by assumption) ?_
        rotate_left
        focus
          intro w hSw
          go_simp
          first
          | done
          | with_reducible rfl
        try simp only [Act.put, List.setIfInBounds_toArray, List.set_cons_zero, List.set_cons_succ]
        refine wpAnyH_take (i := 14) (oi := ⟨some 75, _, _, _, _, _⟩) (v := ?_) rfl (by kernel_rfl) (by kernel_rfl) (by kernel_rfl) (fun _ _ _ h => h) (Or.inl ⟨by rfl, ?_⟩) (by assumption) ?_
        rotate_left
        focus
          intro w hSw
          go_simp
          first
          | done
          | with_reducible rfl
        try simp only [Act.put, List.setIfInBounds_toArray, List.set_cons_zero, List.set_cons_succ]
        refine wpAnyH_ready (rs := [15]) (by kernel_rfl) (by simp) ?_
        refine AllReadyH.cons (o := ⟨none, _, _, _, _, _⟩) rfl (fun K hK => ?_) AllReadyH.nil
        obtain ⟨g', cap', hv'⟩ := own_slice H5.out.1
        subst hv'
        go_simp
        refine hK.out _ _ trivial (fun hHeld => ?_)
        clear hK K
        try simp only [Act.put, List.setIfInBounds_toArray, List.set_cons_zero, List.set_cons_succ]
        refine wpAnyH_done (by kernel_rfl) ?_ _
        go_wp2_with fail
        go_ret
        refine ⟨by rw [hE.out]; rfl, .inr ⟨hE.out, ?_⟩⟩
        obtain ⟨O5, hg5, hat5⟩ := H5.out
        refine refHear_end HM.out HBn.out (B3.out.trans (HB4.out.mono B3.out.size)) HOB.out.1 (fun a e => ⟨Nat.le_trans B3.out.size (HOB.out.2 a e).1, (HOB.out.2 a e).2⟩) hg5 (by rw [HLL.out]; exact O5) hat5
end Go.Proofs.YtmegiodajkeahaaDoor
