/- The contract of Disclose of package chain. -/
import Derived.Test.YtmegiodajkeahaaDoorChL4
import Derived.Test.YtmegiodajkeahaaDoorChC8
namespace Go.Proofs.YtmegiodajkeahaaDoor
open Go Go.RowKit
def DisP (W : World) (S : Nat → Prop) (g : Nat) (st sp de co : Int) (s : Pl.Rst) (i : Int) (key : Int × Int) (e : Ending) (w' : World) : Prop :=
  (Pl.dErr co s i key ≠ 0 ∧ e = .returned (.tuple #[.slice none 0 0, .int .i64 (Pl.dErr co s i key)]) ∧ Below W.heap.size W w') ∨
  (Pl.dErr co s i key = 0 ∧ ∃ rv S', e = .returned (.tuple #[rv, .int .i64 0]) ∧ RcvS w' S' g st sp de co (Pl.dSt s i key) ∧ IsBB w' S' rv (Pl.dOut i key s.ms) ∧ Fr S S' W w')
theorem disP_err {W w' : World} {S : Nat → Prop} {g : Nat} {st sp de co : Int} {s : Pl.Rst} {i : Int} {key : Int × Int} {x : Int} (h : Pl.dErr co s i key = x) (hx : x ≠ 0) (hb : Below W.heap.size W w') :
    DisP W S g st sp de co s i key (.returned (.tuple #[.slice none 0 0, .int .i64 x])) w' := .inl ⟨by rw [h]; exact hx, by rw [h], hb⟩
theorem far_isBB {w : World} {X : Nat → Prop} {g o : Nat} {u v : Value} {bs : List (List Int)} (h : IsBB w (fun k => X k ∧ k ≠ g) v bs) : IsBB (w.setCell ⟨g, o, none⟩ u) (fun k => X k ∧ k ≠ g) v bs :=
  h.fr (S := (· = g)) (S' := (· = g)) ((Fr.refl (· = g) w).setCell rfl u) (fun _ hk => hk.2)
theorem RcvS.setkey {w : World} {S : Nat → Prop} {g : Nat} {st sp de co : Int} {kn : Int} {key : Int × Int} {ms : List Pl.Msg} (h : RcvS w S g st sp de co ⟨kn, key, ms⟩) (kn' : Int) (key' : Int × Int) :
    RcvS (((w.setCell ⟨g, 4, none⟩ (.int .i64 kn')).setCell ⟨g, 5, none⟩ (.int .u64 key'.1)).setCell ⟨g, 6, none⟩ (.int .u64 key'.2)) S g st sp de co ⟨kn', key', ms⟩ := by
  obtain ⟨v, L, M⟩ := h
  have e : (((w.setCell ⟨g, 4, none⟩ (.int .i64 kn')).setCell ⟨g, 5, none⟩ (.int .u64 key'.1)).setCell ⟨g, 6, none⟩ (.int .u64 key'.2)).heap.size = w.heap.size := by simp [World.setCell]
  refine ⟨v, L, ⟨M.ms, ((M.bk.put 4 _).put 5 _).put 6 _, far_own (far_own (far_own M.own ?_) ?_) ?_, M.ing, M.inh, fun x hx => ?_, fun k hk => by rw [e]; exact M.lt k hk⟩⟩
  · exact fun k hk => (M.inh k hk).2
  · exact fun k hk => (M.inh k hk).2
  · exact fun k hk => (M.inh k hk).2
  · obtain ⟨a1, a2⟩ := M.byt x hx
    exact ⟨far_isl (far_isl (far_isl a1 (fun a ha => (a2 a ha).2.1)) (fun a ha => (a2 a ha).2.1)) (fun a ha => (a2 a ha).2.1), a2⟩
theorem run_make_keys' (N : Nat) (hn : N ≤ 100) (w : World) : (Instr.makeSlice 28 (.int .i64 ((N : Int) + 1)) (.int .i64 ((N : Int) + 1))).run Tryd.prog w = .ok (.slice (some ⟨w.heap.size, 0, none⟩) (N + 1) (N + 1)) (w.alloc (.cells (kcells (List.replicate (N + 1) (0, 0))).toArray 37)) := run_make_keys (N + 1) (by omega) w
theorem key_ne {a b : Int × Int} (h : a ≠ b) : (!(a.1 == b.1) || !(a.2 == b.2)) = true := by
  by_cases h1 : a.1 = b.1
  · by_cases h2 : a.2 = b.2
    · exact absurd (Prod.ext h1 h2) h
    · simp [h2]
  · simp [h1]
attribute [local simp high] guard_bind eql_key neq_key
set_option maxHeartbeats 2000000 in
set_option maxRecDepth 100000 in
theorem disclose_any (S : Nat → Prop) (g : Nat) (st sp de co : Int) (s : Pl.Rst) (i : Int) (key : Int × Int) (W : World) (M : RcvS W S g st sp de co s) (hs : Pl.okR co s) (hco : co ≤ 64) (hR : Rnd W) (hS : ∀ k, S k → 2 ≤ k) :
    Calls Tryd.prog 28 #[pt g, .int .i64 i, .agg #[.int .u64 key.1, .int .u64 key.2]] W (DisP W S g st sp de co s i key) := by
  have B0 := (Below.refl W.heap.size W).alloc (Nat.le_refl _) (.cells #[.int .u64 key.1, .int .u64 key.2] 37)
  have M0 := M.next B0
  have KX := Bk.new W 37 #[.int .u64 key.1, .int .u64 key.2]
  obtain ⟨x0, x1⟩ := KX.two
  obtain ⟨v, L, MM⟩ := M0
  have c3 : (W.alloc (.cells #[.int .u64 key.1, .int .u64 key.2] 37)).cell? ⟨g, 3, none⟩ = some (.int .i64 co) := MM.bk.cell 3
  have c4 : (W.alloc (.cells #[.int .u64 key.1, .int .u64 key.2] 37)).cell? ⟨g, 4, none⟩ = some (.int .i64 s.kn) := MM.bk.cell 4
  have hkn0 := hs.kn0
  have hkn1 := hs.kn1
  have hR0 := hR.next B0
  have HM := hid (show RcvS _ S g st sp de co s from ⟨v, L, MM⟩)
  have HS := hid (And.intro hs (And.intro hS M))
  clear hs hS M
  by_cases h1 : i < 1
  · have hE := hid (show Pl.dErr co s i key = 3 by unfold Pl.dErr; rw [if_pos (.inl h1)])
    go_enter Tryd.func28, Tryd.ntmps28
    go_wp2
    go_ret2
    exact disP_err hE.out (by decide) B0
  by_cases h2 : co < i
  · have hE := hid (show Pl.dErr co s i key = 3 by unfold Pl.dErr; rw [if_pos (.inr h2)])
    go_enter Tryd.func28, Tryd.ntmps28
    go_wp2
    go_ret2
    exact disP_err hE.out (by decide) B0
  by_cases h3 : i ≤ s.kn
  · have hE := hid (show Pl.dErr co s i key = 10 by unfold Pl.dErr; rw [if_neg (by omega), if_pos h3])
    go_enter Tryd.func28, Tryd.ntmps28
    go_wp2
    go_ret2
    exact disP_err hE.out (by decide) B0
  have hE0 : Pl.dErr co s i key = if Pl.dnN key (i - s.kn).toNat = s.key then 0 else 16 := by unfold Pl.dErr; rw [if_neg (by omega), if_neg h3]
  obtain ⟨N, hN⟩ : ∃ N : Nat, i = s.kn + (N : Int) := ⟨(i - s.kn).toNat, by omega⟩
  have hN64 : N ≤ 64 := by omega
  have hN1 : 1 ≤ N := by omega
  rw [show (i - s.kn).toNat = N by omega] at hE0
  have HE0 := hid hE0
  clear hE0
  have hwa : IntKind.i64.wrap (i - s.kn) = (N : Int) := by rw [IntWalk.i64_in _ (by omega)]; omega
  have hsz : (W.alloc (.cells #[.int .u64 key.1, .int .u64 key.2] 37)).heap.size = W.heap.size + 1 := by simp
  have hm := run_make_keys' N (by omega) (W.alloc (.cells #[.int .u64 key.1, .int .u64 key.2] 37))
  rw [hsz] at hm
  have HN := hid hN
  have hsub : i - s.kn = (N : Int) := by omega
  clear hwa hN
  have B1 := B0.alloc B0.size (.cells (kcells (List.replicate (N + 1) (0, 0))).toArray 37)
  have K1 : BkK ((W.alloc (.cells #[.int .u64 key.1, .int .u64 key.2] 37)).alloc (.cells (kcells (List.replicate (N + 1) (0, 0))).toArray 37)) (W.heap.size + 1) (List.replicate (N + 1) (0, 0)) := by
    have := Bk.new (W.alloc (.cells #[.int .u64 key.1, .int .u64 key.2] 37)) 37 (kcells (List.replicate (N + 1) (0, 0))).toArray
    rw [hsz] at this
    exact this
  have BA := (Below.refl (W.alloc (.cells #[.int .u64 key.1, .int .u64 key.2] 37)).heap.size (W.alloc (.cells #[.int .u64 key.1, .int .u64 key.2] 37))).alloc (Nat.le_refl _) (.cells (kcells (List.replicate (N + 1) (0, 0))).toArray 37)
  have KX1 := KX.next BA
  clear KX hsz MM BA HM
  generalize (W.alloc (.cells #[.int .u64 key.1, .int .u64 key.2] 37)).alloc (.cells (kcells (List.replicate (N + 1) (0, 0))).toArray 37) = w1 at *
  obtain ⟨x0', x1'⟩ := KX1.two
  obtain ⟨f0, f1⟩ := K1.frees N
  obtain ⟨y0, y1⟩ := K1.cells (i := N) (p := (0, 0)) (by simp)
  clear hR0 B0
  have K2 := hid (K1.set N key)
  have B2 := hid ((B1.setCell (p := ⟨W.heap.size + 1, N * 2, none⟩) (by dsimp only; omega) (.int .u64 key.1)).setCell (p := ⟨W.heap.size + 1, N * 2 + 1, none⟩) (by dsimp only; omega) (.int .u64 key.2))
  have X2 := hid ((KX1.far (p := ⟨W.heap.size + 1, N * 2, none⟩) (by dsimp only; omega) (.int .u64 key.1)).far (p := ⟨W.heap.size + 1, N * 2 + 1, none⟩) (by dsimp only; omega) (.int .u64 key.2))
  clear K1 B1 KX1
  go_enter Tryd.func28, Tryd.ntmps28
  go_wp2_with fail
  generalize (w1.setCell ⟨W.heap.size + 1, N * 2, none⟩ (.int .u64 key.1)).setCell ⟨W.heap.size + 1, N * 2 + 1, none⟩ (.int .u64 key.2) = w2 at *
  clear x0 x1 c3 c4 x0' x1' f0 f1 y0 y1 hm
  rw [show (N : Int) + 1 - 2 = (N : Int) - 1 from by omega]
  have HR := hid hR
  clear hR
  go_loopw [9] (fun iv wr => ∃ k : Nat, k ≤ N ∧ iv = .int .i64 ((k : Int) - 1) ∧ BkK wr (W.heap.size + 1) (Pl.partK key N k) ∧ Bk wr W.heap.size 37 #[.int .u64 key.1, .int .u64 key.2] ∧ Below W.heap.size W wr) (fun iv _ => (intOf iv + 1).toNat)
  case atStart => exact ⟨N, Nat.le_refl _, rfl, by rw [← Pl.partK_start]; exact K2.out, X2.out, B2.out⟩
  case round =>
    obtain ⟨k, hk, rfl, Kr, Xr, Br⟩ := hrel
    clear K2 B2 X2
    have hRr : Rnd wr := HR.out.next Br
    by_cases h0 : k = 0
    · subst h0
      have Kk : BkK wr (W.heap.size + 1) (Pl.keysL key N) := Kr
      obtain ⟨k0, k1⟩ := Kk.cells (Pl.keysL_get key N 0 (Nat.zero_le _))
      simp only [Nat.sub_zero, Nat.zero_mul, Nat.zero_add] at k0 k1
      obtain ⟨hs, hS, M⟩ := HS.out
      have Mr := M.next Br
      obtain ⟨v', L', MM⟩ := Mr
      have c5 : wr.cell? ⟨g, 5, none⟩ = some (.int .u64 s.key.1) := MM.bk.cell 5
      have c6 : wr.cell? ⟨g, 6, none⟩ = some (.int .u64 s.key.2) := MM.bk.cell 6
      have HMr := hid (show RcvS wr S g st sp de co s from ⟨v', L', MM⟩)
      have hgS : ¬ S (W.heap.size + 1) := fun h => by obtain ⟨v, L, M⟩ := M; have := M.lt _ h; omega
      have HG := hid hgS
      have HK := hid Kk
      have HX := hid Xr
      have HB := hid Br
      have hRr' := hid hRr
      clear Kr Kk Xr Br MM M hs hS hgS hRr
      by_cases heq : Pl.dnN key N = s.key
      · rw [heq] at k0 k1
        have hE := hid (show Pl.dErr co s i key = 0 by rw [HE0.out, if_pos heq])
        clear heq
        go_wp2_with fail
        go_quiet (fail)
        go_wp2_with fail
        have Md := HMr.out.next ((Below.refl wr.heap.size wr).drew)
        have Bd := bdrewN HB.out nq
        have hdn : Below wr.heap.size wr (wr.drewN nq) := bdrewN (Below.refl _ _) nq
        have hs := HS.out.1
        have hS := HS.out.2.1
        have RL := release_any S g st sp de co s i key (W.heap.size + 1) (N + 1) N (wr.drewN nq) (HMr.out.next hdn) hs hco h3 h2 HN.out.symm (BkK.is (Bk.next HK.out hdn)) HG.out (hRr'.out.next hdn) hS
        have RL' := hid RL
        have X3 := hid (HX.out.next hdn)
        clear RL Md hs hS
        with_reducible refine RL'.out.mono ?_
        rintro e w5 ⟨rv, S5, rfl, M5, BB5, F5⟩
        have HB5 := hid hdn
        have hW : ¬ S W.heap.size := fun h => by obtain ⟨v, L, M⟩ := HS.out.2.2; have := M.lt _ h; omega
        have X5 := F5.bk X3.out hW
        obtain ⟨x0, x1⟩ := X5.two
        obtain ⟨v5, L5, M5'⟩ := id M5
        have g4 : w5.cell? ⟨g, 4, none⟩ = some (.int .i64 s.kn) := M5'.bk.cell 4
        have g5 : w5.cell? ⟨g, 5, none⟩ = some (.int .u64 s.key.1) := M5'.bk.cell 5
        have g6 : w5.cell? ⟨g, 6, none⟩ = some (.int .u64 s.key.2) := M5'.bk.cell 6
        have f4 := M5'.bk.free 4
        have f5 := M5'.bk.free 5
        have f6 := M5'.bk.free 6
        have hgW : g ≠ W.heap.size := fun h => hW (by rw [← h]; exact (by obtain ⟨v, L, M⟩ := HS.out.2.2; exact M.ing))
        have H5 := hid (And.intro M5 (And.intro BB5 F5))
        clear M5 BB5 F5 M5' X5 k0 k1 c5 c6 Bd hW
        go_wp2_with fail
        go_region
        go_wp2
        go_ret2
        obtain ⟨M5, BB5, F5⟩ := H5.out
        obtain ⟨v5, L5, M5'⟩ := id M5
        have FW : Fr S S5 W w5 := (Fr.of_below (bstep HB.out HB5.out)).trans F5
        have hg5 := M5'.ing
        refine .inr ⟨hE.out, rv, S5, rfl, ?_, ?_, ?_⟩
        · exact (M5.setkey i key).next ((Below.refl _ _).drew)
        · have := far_isBB (o := 6) (u := .int .u64 key.2) (far_isBB (o := 5) (u := .int .u64 key.1) (far_isBB (o := 4) (u := .int .i64 i) BB5))
          exact (this.next ((Below.refl _ _).drew)).wide (fun _ hk => hk.1)
        · have F6 := ((FW.setCell (p := ⟨g, 4, none⟩) hg5 (.int .i64 i)).setCell (p := ⟨g, 5, none⟩) hg5 (.int .u64 key.1)).setCell (p := ⟨g, 6, none⟩) hg5 (.int .u64 key.2)
          exact ⟨F6.os, F6.tape, F6.output, F6.size, F6.block, F6.set⟩
      · have hE := hid (show Pl.dErr co s i key = 16 by rw [HE0.out, if_neg heq])
        have hne : (!((Pl.dnN key N).1 == s.key.1) || !((Pl.dnN key N).2 == s.key.2)) = true := key_ne heq
        have Hne := hid hne
        clear heq hne
        go_wp2_with fail
        go_quiet (fail)
        rw [Hne.out]
        go_wp2
        go_ret2
        exact disP_err hE.out (by decide) (bdrewN HB.out nq)
    · obtain ⟨m, rfl⟩ : ∃ m, k = m + 1 := ⟨k - 1, by omega⟩
      have hge : 0 ≤ (m : Int) := by omega
      rw [show ((m + 1 : Nat) : Int) - 1 = m from by omega]
      obtain ⟨c0, c1⟩ := Kr.cells (Pl.partK_get key N m (by omega))
      have hset := hid (Pl.partK_set key N m (by omega))
      generalize hdn : Pl.dnN key (N - (m + 1)) = dk at *
      clear hdn
      go_wp2_with fail
      refine (below_any _ _ _ hRr).mono ?_
      rintro e w4 ⟨rfl, hb4⟩
      have B4 := bstep Br hb4
      have K4 : BkK w4 (W.heap.size + 1) (Pl.partK key N (m + 1)) := Bk.next Kr hb4
      have X4 := Xr.next hb4
      have hsz := B4.size
      have Kn := K4.set m (Pl.dn dk)
      rw [hset.out] at Kn
      have HN2 := hid Kn
      obtain ⟨c0', c1'⟩ := K4.cells (Pl.partK_before key N m)
      obtain ⟨f0, f1⟩ := K4.frees m
      have X5 := hid ((X4.far (p := ⟨W.heap.size + 1, m * 2, none⟩) (by dsimp only; omega) (.int .u64 (Pl.dn dk).1)).far (p := ⟨W.heap.size + 1, m * 2 + 1, none⟩) (by dsimp only; omega) (.int .u64 (Pl.dn dk).2))
      clear c0 c1 Kn Kr Br hb4 hset Xr X4
      go_wp2
      go_roundw
      case rel =>
        exact ⟨m, by omega, by simp, HN2.out, X5.out, (B4.setCell (by dsimp only; omega) _).setCell (by dsimp only; omega) _⟩
      case measure => simp [intOf]
end Go.Proofs.YtmegiodajkeahaaDoor
