/- The contract of Hear of package chain. -/
import Derived.Test.YtmegiodajkeahaaDoorChH1
import Derived.Test.YtmegiodajkeahaaDoorOpen
namespace Go.Proofs.YtmegiodajkeahaaDoor
open Go Go.RowKit
def HearP (W : World) (S : Nat → Prop) (g : Nat) (st sp de co : Int) (s : Pl.Rst) (i : Int) (b : List Int) (t lo hi : Int) (e : Ending) (w' : World) : Prop :=
  e = .returned (.int .i64 (Pl.hErr st sp de co s i lo hi)) ∧ ((Pl.hErr st sp de co s i lo hi ≠ 0 ∧ Below W.heap.size W w') ∨ (Pl.hErr st sp de co s i lo hi = 0 ∧ ∃ S', RcvS w' S' g st sp de co (Pl.hSt s ⟨i, b, t⟩) ∧ Fr S S' W w'))
theorem hearP_err {W w' : World} {S : Nat → Prop} {g : Nat} {st sp de co : Int} {s : Pl.Rst} {i : Int} {b : List Int} {t lo hi x : Int} (h : Pl.hErr st sp de co s i lo hi = x) (hx : x ≠ 0) (hb : Below W.heap.size W w') :
    HearP W S g st sp de co s i b t lo hi (.returned (.int .i64 x)) w' := ⟨by rw [h], .inl ⟨by rw [h]; exact hx, hb⟩⟩
/-- A receiver's block, an interval's box. -/
def HrS (W : World) (g : Nat) (cs : Array Value) (x : Nat) (cx : Array Value) (w : World) : Prop := Bk w g 76 cs ∧ Bk w x 43 cx ∧ Below W.heap.size W w
theorem HrS.next {W w w' : World} {g x : Nat} {cs cx : Array Value} (h : HrS W g cs x cx w) (hb : Below w.heap.size w w') : HrS W g cs x cx w' := ⟨h.1.next hb, h.2.1.next hb, bstep h.2.2 hb⟩
theorem HrS.drew {W w : World} {g x : Nat} {cs cx : Array Value} (h : HrS W g cs x cx w) : HrS W g cs x cx w.drew := ⟨h.1, h.2.1, h.2.2.drew⟩
theorem HrS.cells {W w : World} {g x : Nat} {st sp de co kn k0 k1 lo hi : Int} {v : Value} (h : HrS W g (rcv st sp de co kn k0 k1 v) x #[.int .i64 lo, .int .i64 hi] w) :
    (w.cell? ⟨g, 0, none⟩ = some (.int .i64 st)) ∧ (w.cell? ⟨g, 1, none⟩ = some (.int .i64 sp)) ∧ (w.cell? ⟨g, 2, none⟩ = some (.int .i64 de)) ∧ (w.cell? ⟨g, 3, none⟩ = some (.int .i64 co)) ∧
    (w.cell? ⟨g, 4, none⟩ = some (.int .i64 kn)) ∧ (w.cell? ⟨g, 7, none⟩ = some v) ∧ (w.cell? ⟨x, 0, none⟩ = some (.int .i64 lo)) ∧ (w.cell? ⟨x, 1, none⟩ = some (.int .i64 hi)) :=
  ⟨h.1.cell 0, h.1.cell 1, h.1.cell 2, h.1.cell 3, h.1.cell 4, h.1.cell 7, h.2.1.cell 0, h.2.1.cell 1⟩
theorem own_slice {w : World} {B : Nat} {e : TypeId} {z n : Nat} {v : Value} {xs : List Value} (h : w.ownsRow B e z v (n + 1) xs) : ∃ g cap, v = .slice (some ⟨g, 0, none⟩) (n + 1) cap := by
  rcases h.2 with ⟨_, h0⟩ | ⟨g, cap, cur, hv, _⟩
  · omega
  · exact ⟨g, cap, hv⟩
set_option maxHeartbeats 2000000 in
theorem hear_any (S : Nat → Prop) (g : Nat) (st sp de co : Int) (s : Pl.Rst) (i : Int) (A : Option Addr) (c : Nat) (b : List Int) (t lo hi : Int) (W : World)
    (hC : Pl.cfOk st sp de co) (hs : Pl.okR co s) (hb : Pl.okB b) (hS : IsSl W A .u8 b) (hM : RcvS W S g st sp de co s) :
    Calls Tryd.prog 26 #[pt g, .int .i64 i, .slice A b.length c, .int .u64 t, .agg #[.int .i64 lo, .int .i64 hi]] W (HearP W S g st sp de co s i b t lo hi) := by
  obtain ⟨v, L, M⟩ := hM
  obtain ⟨Av, cv, hv⟩ := M.shape
  have hlen64 := hs.len
  generalize hLn : s.ms.length = ln at hv hlen64
  have HLn := hid hLn
  clear hLn
  have HS0 := hid (And.intro hs (And.intro hb hS))
  have hbl : b.length ≤ 1000000 := hb.2
  clear hs hb hS
  generalize hbn : b.length = n at hbl ⊢
  have HBn := hid hbn
  clear hbn
  have K0 : HrS W g (rcv st sp de co s.kn s.key.1 s.key.2 v) W.heap.size #[.int .i64 lo, .int .i64 hi] (W.alloc (.cells #[.int .i64 lo, .int .i64 hi] 43)) :=
    ⟨M.bk.next ((Below.refl _ _).alloc (Nat.le_refl _) _), Bk.new W 43 _, (Below.refl _ _).alloc (Nat.le_refl _) _⟩
  have HM := hid M
  clear M
  subst hv
  have HC := hid hC
  have hde : 1 ≤ de ∧ de ≤ 8 := hC.2.2.1
  have hco : 1 ≤ co ∧ co ≤ 64 := hC.2.2.2
  obtain ⟨hde0, hde1⟩ := hde
  obtain ⟨hco0, hco1⟩ := hco
  clear hC
  have KC := fun w => ivCheck_any lo hi w
  have KI : ∀ w', hi ≤ 9223372036854775807 → Calls Tryd.prog 17 #[.agg #[.int .i64 st, .int .i64 sp, .int .i64 de, .int .i64 co], .int .i64 hi] w' fun e w'' => e = .returned (.int .i64 (Pl.ivl st sp de co hi)) ∧ Below w'.heap.size w' w'' := fun w h => interval_any st sp de co hi h w
  have KCn : ∀ w', Calls Tryd.prog 43 #[.agg #[.int .i64 lo, .int .i64 hi]] w' fun e w'' => e = .returned (.int .i64 (Pl.ivErr lo hi)) ∧ Below w'.heap.size w' w'' := KC
  replace KC := hid KC
  replace KI := hid KI
  clear KCn
  by_cases h1 : i < 1
  · have hE := hid (show Pl.hErr st sp de co s i lo hi = 3 by unfold Pl.hErr; rw [if_pos (.inl h1)])
    obtain ⟨c0, c1, c2, c3, c4, c7, x0, x1⟩ := K0.cells
    go_enter Tryd.func26, Tryd.ntmps26
    go_wp2
    go_ret
    exact hearP_err hE.out (by decide) K0.2.2
  by_cases h2 : co < i
  · have hE := hid (show Pl.hErr st sp de co s i lo hi = 3 by unfold Pl.hErr; rw [if_pos (.inr h2)])
    obtain ⟨c0, c1, c2, c3, c4, c7, x0, x1⟩ := K0.cells
    go_enter Tryd.func26, Tryd.ntmps26
    go_wp2
    go_ret
    exact hearP_err hE.out (by decide) K0.2.2
  have hE0 := hid (show ¬ (i < 1 ∨ co < i) by omega)
  obtain ⟨c0, c1, c2, c3, c4, c7, x0, x1⟩ := K0.cells
  go_enter Tryd.func26, Tryd.ntmps26
  go_wp2_with fail
  clear c0 c1 c2 c3 c4 c7 x0 x1
  generalize W.alloc (.cells #[.int .i64 lo, .int .i64 hi] 43) = w0 at *
  with_reducible refine (KC.out _).mono ?_
  rintro e w1 ⟨rfl, hb1⟩
  have K1 := K0.next hb1
  clear K0 hb1
  obtain ⟨c0, c1, c2, c3, c4, c7, x0, x1⟩ := K1.cells
  by_cases h3 : Pl.ivOk lo hi
  case neg =>
    have hE := hid (show Pl.hErr st sp de co s i lo hi = 2 by unfold Pl.hErr; rw [if_neg hE0.out, if_pos h3])
    have h3' := Pl.ivErr_no h3
    rw [h3']
    go_wp2
    go_ret
    exact hearP_err hE.out (by decide) K1.2.2
  have h3' := Pl.ivErr_yes h3
  rw [h3']
  have H3 := hid h3
  have hhi : hi ≤ 9223372036854775807 := by have := h3.2.2; omega
  clear h3 h3'
  have hw := IntWalk.i64_in (i + de) (by omega)
  go_wp2_with fail
  generalize hvl : Pl.ivl st sp de co hi = vl at *
  have HV := hid hvl
  clear hvl
  by_cases h4 : i + de ≤ vl
  · have hE := hid (show Pl.hErr st sp de co s i lo hi = 17 by unfold Pl.hErr; rw [if_neg hE0.out, if_neg (by simpa using H3.out), if_pos (by rw [HV.out]; exact h4)])
    refine region_class (fun w' => HrS W g (rcv st sp de co s.kn s.key.1 s.key.2 (.slice Av ln cv)) W.heap.size #[.int .i64 lo, .int .i64 hi] w') (by kernel_rfl) (by kernel_rfl) (HrS.drew K1) ?_
    clear K1 c0 c1 c2 c3 c4 c7 x0 x1
    repeat
      first
      | (refine BigFrame.wpQuiet_skip (by rfl) ?_
         simp only [Act.put, List.setIfInBounds_toArray, List.set_cons_zero, List.set_cons_succ])
      | (refine class_want (by rfl) ?_
         apply Exists.intro
         refine ⟨fun w1 h1 => ?_, ?_⟩
         focus
           obtain ⟨c0, c1, c2, c3, c4, c7, x0, x1⟩ := HrS.cells h1
           unfold Oper.quietAt Oper.quietUpon
           go_simp
           first
           | exact rfl
           | (with_reducible refine (KI.out _ hhi).mono ?_
              rintro e w2 ⟨rfl, hb⟩
              exact ⟨rfl, HrS.next h1 hb⟩)
         simp only [Act.put, List.setIfInBounds_toArray, List.set_cons_zero, List.set_cons_succ])
    refine wpQuiet_nil ?_
    intro w3 h3
    obtain ⟨c0, c1, c2, c3, c4, c7, x0, x1⟩ := HrS.cells h3
    go_wp2
    go_ret
    exact hearP_err hE.out (by decide) h3.2.2
  refine region_class (fun w' => HrS W g (rcv st sp de co s.kn s.key.1 s.key.2 (.slice Av ln cv)) W.heap.size #[.int .i64 lo, .int .i64 hi] w') (by kernel_rfl) (by kernel_rfl) (HrS.drew K1) ?_
  clear K1 c0 c1 c2 c3 c4 c7 x0 x1
  repeat
    first
    | (refine BigFrame.wpQuiet_skip (by rfl) ?_
       simp only [Act.put, List.setIfInBounds_toArray, List.set_cons_zero, List.set_cons_succ])
    | (refine class_want (by rfl) ?_
       apply Exists.intro
       refine ⟨fun w1 h1 => ?_, ?_⟩
       focus
         obtain ⟨c0, c1, c2, c3, c4, c7, x0, x1⟩ := HrS.cells h1
         unfold Oper.quietAt Oper.quietUpon
         go_simp
         first
         | exact rfl
         | (with_reducible refine (KI.out _ hhi).mono ?_
            rintro e w2 ⟨rfl, hb⟩
            exact ⟨rfl, HrS.next h1 hb⟩)
       simp only [Act.put, List.setIfInBounds_toArray, List.set_cons_zero, List.set_cons_succ])
  refine wpQuiet_nil ?_
  intro w3 h3
  obtain ⟨c0, c1, c2, c3, c4, c7, x0, x1⟩ := HrS.cells h3
  by_cases h5 : i ≤ s.kn
  · have hE := hid (show Pl.hErr st sp de co s i lo hi = 10 by unfold Pl.hErr; rw [if_neg hE0.out, if_neg (by simpa using H3.out), if_neg (by rw [HV.out]; exact h4), if_pos h5])
    go_wp2
    go_ret
    exact hearP_err hE.out (by decide) h3.2.2
  by_cases h6 : 64 ≤ ln
  · have hE := hid (show Pl.hErr st sp de co s i lo hi = 13 by unfold Pl.hErr; rw [if_neg hE0.out, if_neg (by simpa using H3.out), if_neg (by rw [HV.out]; exact h4), if_neg h5, if_pos (by rw [HLn.out]; exact h6)])
    go_wp2
    go_ret
    exact hearP_err hE.out (by decide) h3.2.2
  have hE := hid (show Pl.hErr st sp de co s i lo hi = 0 by unfold Pl.hErr; rw [if_neg hE0.out, if_neg (by simpa using H3.out), if_neg (by rw [HV.out]; exact h4), if_neg h5, if_neg (by rw [HLn.out]; exact h6)])
  have hm := run_make_bytes n hbl w3
  have hsz3 := h3.2.2.size
  have KB := Bk.new w3 5 (ints .u8 (List.replicate n 0))
  have SA := hid (IsSl.next HS0.out.2.2 (h3.2.2.alloc hsz3 (.cells (ints .u8 (List.replicate n 0)) 5)))
  have KB' := hid KB
  have HM3 := hid (HM.out.next h3.2.2)
  have B3 := hid h3.2.2
  have BA := hid ((Below.refl w3.heap.size w3).alloc (Nat.le_refl _) (.cells (ints .u8 (List.replicate n 0)) 5))
  have BB : Below w3.heap.size w3 (w3.alloc (.cells (ints .u8 (List.replicate n 0)) 5)) := BA.out
  have hW3 := hid (show W.heap.size ≤ w3.heap.size from hsz3)
  clear KB h3 BB
  obtain ⟨i0, hi0, hz⟩ := Option.map_eq_some_iff.1 info_msg
  simp only [Prod.mk.injEq] at hz
  have HI := hid hi0
  have HZ := hid hz
  clear hi0 hz
  have HLL : Hid (L.length = ln) := hid (by rw [← HLn.out, ← HM.out.ms]; simp)
  have SRC : ∀ (w4 : World) (j : Nat) (u : Value), ([.int .i64 i, .slice (some ⟨w3.heap.size, 0, none⟩) n n, .int .u64 t] : List Value)[j]? = some u → (w4.alloc (.cells #[.int .i64 i, .slice (some ⟨w3.heap.size, 0, none⟩) n n, .int .u64 t] 82)).cell? ((⟨w4.heap.size, 0, none⟩ : Addr).add j) = some u := by
    intro w4 j u hj
    rw [add_none, Bk.cell (Bk.new w4 82 _)]
    simpa using hj
  replace SRC := hid SRC
  have OWN : ∀ (w4 : World) (o : Obj), Below w3.heap.size w3 w4 → (w4.alloc o).ownsRow 0 82 3 (.slice Av ln cv) ln (mcells L) := by
    intro w4 o h
    have := (HM3.out.next (h.alloc h.size o)).own
    rwa [HLL.out] at this
  replace OWN := hid OWN
  have D7 : ∀ (w4 : World), Below w3.heap.size w3 w4 → w4.cell? ⟨g, 7, none⟩ = some (.slice Av ln cv) := fun w4 h => (HM3.out.next h).bk.cell 7
  replace D7 := hid D7
  have GK : ∀ (w4 : World) (o : Obj), Below w3.heap.size w3 w4 → ∀ w5, (w4.alloc o).grownBy w5 (Value.slice Av ln cv).ownBlock → Bk w5 g 76 (rcv st sp de co s.kn s.key.1 s.key.2 (.slice Av ln cv)) :=
    fun w4 o h w5 h5 => grown_bk h5 (HM3.out.next (h.alloc h.size o)).bk (fun e => (HM3.out.inh g e).2 rfl)
  replace GK := hid GK
  go_wp2_with (first | (refine wpList_copy_bytes (o := ⟨some 66, _, _, _, _, _⟩) (by rfl) (.tmp 64) (.tmp 65) (by rfl) w3.heap.size n A c b HBn.out (by rfl) (by rfl) KB'.out SA.out ?_; intro w4 hB4 hb4; have HB4 := hid hB4; have Hb4 := hid (BA.out.trans hb4); have d7 := D7.out w4 Hb4.out; clear hB4 hb4) | (at_builtin; refine wpList_append_own_at _ (by rfl) (.tmp 71) (.tmp 76) 74 (by rfl) 0 82 i0 _ 3 40 Tryd.underlying74 HI.out HZ.out.1 HZ.out.2.1 HZ.out.2.2 (by rfl) (by decide) (.slice Av ln cv) ln (mcells L) (by rfl) (OWN.out w4 _ Hb4.out) ⟨w4.heap.size, 0, none⟩ 1 1 [.int .i64 i, .slice (some ⟨w3.heap.size, 0, none⟩) n n, .int .u64 t] (by rfl) (by rfl) (SRC.out w4) (by simp [Value.oneCell']) (by simp only [maxLen]; omega) (by omega) (Nat.zero_le _) ?_; intro v' w5 O5 hg5 hn5 hat5; obtain ⟨g', cap', hv'⟩ := own_slice O5; have K5 := GK.out w4 _ Hb4.out w5 hg5; have e7 := K5.cell 7; have f7 := K5.free 7; have H5 := hid (And.intro O5 (And.intro hg5 hat5)); clear O5 hg5 hn5 hat5 K5 d7; subst hv'; simp only [rcv, List.getElem?_toArray, List.getElem?_cons_zero, List.getElem?_cons_succ] at e7))
  go_ret
  refine ⟨by rw [hE.out]; rfl, .inr ⟨hE.out, ?_⟩⟩
  obtain ⟨O5, hg5, hat5⟩ := H5.out
  refine hear_end HM.out HBn.out (bstep B3.out Hb4.out) HB4.out hW3.out hg5 (by rw [HLL.out]; exact O5) hat5
end Go.Proofs.YtmegiodajkeahaaDoor
