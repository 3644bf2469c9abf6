/- The contracts of sources: New, Next, Below, Range of package prng. What a call on a source may change is the one block of the source. -/
import Derived.Test.YtdfabmjkahhlmaaDoorMixC
import Derived.Test.YtdfabmjkahhlmaaDoorPermLaw
import Derived.Test.YtdfabmjkahhlmaaDoorOpen
import Derived.Test.YtdfabmjkahhlmaaDoorOwn
import Derived.Deep.RegionHeld3
import Derived.Laws.EntriesVeiled
namespace Go.Proofs.YtdfabmjkahhlmaaDoor
open Go Go.RowKit

/-- Of what was there block g alone may have changed. -/
def Only (g : Nat) (w w' : World) : Prop := w.grownBy w' (some g)
section
variable {g : Nat} {w w' w2 : World}
theorem Only.of_below (h : Below w.heap.size w w') : Only g w w' := ⟨h.os, h.tape, h.output, h.size, fun i hi _ => h.block i hi⟩
theorem Only.refl_ : Only g w w := Only.of_below (Below.refl _ _)
theorem Only.trans_ (h : Only g w w') (h' : Only g w' w2) : Only g w w2 :=
  ⟨h'.os.trans h.os, h'.tape.trans h.tape, h'.output.trans h.output, Nat.le_trans h.size h'.size, fun i hi hne => (h'.block i (Nat.lt_of_lt_of_le hi h.size) hne).trans (h.block i hi hne)⟩
theorem Only.put (h : Only g w w') (i : Nat) (u : Value) : Only g w (w'.setCell ⟨g, i, none⟩ u) :=
  ⟨h.os, h.tape, h.output, by simpa [World.setCell] using h.size, fun k hk hne => (Below.heap_setCell w' ⟨g, i, none⟩ u k (fun e => hne (by rw [e]))).trans (h.block k hk hne)⟩
theorem Only.drew (h : Only g w w') : Only g w w'.drew := ⟨h.os, h.tape, h.output, h.size, h.block⟩
theorem Only.alloc (h : Only g w w') (o : Obj) : Only g w (w'.alloc o) := h.trans_ (Only.of_below ((Below.refl _ _).alloc (Nat.le_refl _) o))
theorem Only.bk (ho : Only g w w') {h : Nat} {t : TypeId} {cs : Array Value} (H : Bk w h t cs) (hne : h ≠ g) : Bk w' h t cs := (ho.block h H.lt (fun e => hne (by injection e))).trans H
theorem Only.rnd (ho : Only g w w') (H : Rnd w) (hg : 0 < g) : Rnd w' := by
  have hl := H.lt
  obtain ⟨t, fr, h⟩ := H
  exact ⟨t, fr, (ho.block 0 hl (fun e => by injection e with e; omega)).trans h⟩
theorem Only.below (ho : Only g w w') {B : Nat} {a : World} (h : Below B a w) (hg : B ≤ g) (hB : B ≤ w.heap.size) : Below B a w' :=
  ⟨ho.os.trans h.os, ho.tape.trans h.tape, ho.output.trans h.output, Nat.le_trans h.size ho.size, fun k hk => (ho.block k (by omega) (fun e => by injection e with e; omega)).trans (h.block k hk)⟩
theorem Only.sl (ho : Only g w w') {A : Option Addr} {k : IntKind} {xs : List Int} (h : IsSl w A k xs) (hne : ∀ b o, A = some ⟨b, o, none⟩ → b ≠ g) : IsSl w' A k xs := by
  rcases h with h | ⟨b, off, h1, h2, h3⟩
  · exact .inl h
  · refine .inr ⟨b, off, h1, Nat.lt_of_lt_of_le h2 ho.size, fun i x hx => ?_⟩
    have := h3 i x hx
    rw [← this]
    exact World.cell?_of_block (ho.block b h2 (fun e => hne b off h1 (by injection e)))
end

/-- A source behind a pointer: its seed, its steps. -/
def Src (w : World) (g : Nat) (t : TypeId) (seed : Int) (n : Nat) : Prop := Bk w g t #[.int .u64 seed, .int .u64 (n : Int)]
theorem Src.all {w : World} {g : Nat} {t : TypeId} {seed : Int} {n : Nat} (h : Src w g t seed n) : w.cell? ⟨g, 0, none⟩ = some (.int .u64 seed) ∧ w.cell? ⟨g, 1, none⟩ = some (.int .u64 (n : Int)) := Bk.two h
/-- While a region of a call on a source runs. -/
def SrcS (W : World) (g : Nat) (t : TypeId) (seed : Int) (n : Nat) (w : World) : Prop := (w.cell? ⟨g, 0, none⟩ = some (.int .u64 seed)) ∧ (w.cell? ⟨g, 1, none⟩ = some (.int .u64 (n : Int))) ∧ Src w g t seed n ∧ Below W.heap.size W w
theorem SrcS.of {W : World} {g : Nat} {t : TypeId} {seed : Int} {n : Nat} {w : World} (h : Src w g t seed n) (hb : Below W.heap.size W w) : SrcS W g t seed n w := ⟨h.all.1, h.all.2, h, hb⟩
theorem SrcS.start {W : World} {g : Nat} {t : TypeId} {seed : Int} {n : Nat} (h : Src W g t seed n) : SrcS W g t seed n W.drew := SrcS.of (Bk.drew h) (Below.refl _ _).drew
theorem SrcS.next {W : World} {g : Nat} {t : TypeId} {seed : Int} {n : Nat} {w w' : World} (h : SrcS W g t seed n w) (hb : Below w.heap.size w w') : SrcS W g t seed n w' := SrcS.of (Bk.next h.2.2.1 hb) (bstep h.2.2.2 hb)
theorem SrcS.bel {W : World} {g : Nat} {t : TypeId} {seed : Int} {n : Nat} {w : World} (h : SrcS W g t seed n w) : Below W.heap.size W w := h.2.2.2
theorem SrcS.src {W : World} {g : Nat} {t : TypeId} {seed : Int} {n : Nat} {w : World} (h : SrcS W g t seed n w) : Src w g t seed n := h.2.2.1

theorem new_any (seed : Int) (w : World) : Calls Tryd.prog 14 #[.int .u64 seed] w fun e w' => e = .returned (pt w.heap.size) ∧ w' = w.alloc (.cells #[.int .u64 seed, .int .u64 0] 53) := by
  go_enter Tryd.func14, Tryd.ntmps14
  go_wp2
  go_ret
  exact ⟨rfl, rfl⟩
set_option maxHeartbeats 1000000 in
theorem next_any (g : Nat) (seed : Int) (n : Nat) (hn : n ≤ 1099511627776) (w : World) (hR : Rnd w) (H : Src w g 53 seed n) :
    Calls Tryd.prog 15 #[pt g] w fun e w' => e = .returned (.int .u64 (Pl.mix seed n)) ∧ Src w' g 53 seed (n + 1) ∧ Only g w w' := by
  obtain ⟨c0, c1⟩ := H.all
  go_enter Tryd.func15, Tryd.ntmps15
  go_wp2
  go_region_held3 (fun w' => (w'.cell? ⟨g, 0, none⟩ = some (.int .u64 seed)) ∧ (w'.cell? ⟨g, 1, none⟩ = some (.int .u64 (n : Int))) ∧ Src w' g 53 seed n ∧ Below w.heap.size w w')
    (first | exact SrcS.start H | exact SrcS.next (by assumption) hb)
    (first | (go_at_call 11; refine (mix_any _ _ _ (hR.next (SrcS.bel (g := g) (t := 53) (seed := seed) (n := n) (by assumption)))).mono ?_; rintro e w' ⟨rfl, hb⟩))
  have HS : SrcS w g 53 seed n w' := by assumption
  have H1 := HS.src
  have f1 := Bk.free H1 1
  have hb1 := HS.bel
  go_wp2
  go_ret
  refine ⟨rfl, ?_, (Only.of_below hb1).put 1 _⟩
  have := Bk.put H1 1 (.int .u64 ((n : Int) + 1))
  exact this
theorem next_nil (w : World) : Calls Tryd.prog 15 #[.pointer none] w fun e w' => e = .returned (.int .u64 0) ∧ w = w' := by
  go_enter Tryd.func15, Tryd.ntmps15
  go_wp2
  go_ret
  exact ⟨rfl, rfl⟩
/-- The remainder, or the number itself. -/
def rem0 (x m : Int) : Int := if m = 0 then x else x % m
set_option maxHeartbeats 1000000 in
theorem drawer_any (g : Nat) (seed : Int) (n : Nat) (hn : n ≤ 1099511627776) (m : Int) (hm : 0 ≤ m) (w : World) (hR : Rnd w) (H : Src w g 53 seed n) :
    Calls Tryd.prog 27 #[.agg #[.func (.func 15) #[pt g] #[]], .int .u64 m] w fun e w' => e = .returned (.int .u64 (rem0 (Pl.mix seed n) m)) ∧ Src w' g 53 seed (n + 1) ∧ Only g w w' := by
  have B0 := (Below.refl w.heap.size w).alloc (Nat.le_refl _) (.cells #[.func (.func 15) #[pt g] #[]] 59)
  have HR0 := hR.next B0
  have H0 := Bk.next H B0
  have hx := Pl.mix_nonneg seed n
  by_cases h0 : m = 0
  · have h0' : (m != 0) = false := by rw [h0]; rfl
    go_enter Tryd.func27, Tryd.ntmps27
    go_wp2_with fail
    refine (next_any g seed n hn _ HR0 H0).mono ?_
    rintro e w1 ⟨rfl, H1, ho⟩
    go_wp2
    go_ret
    exact ⟨ret_int (by unfold rem0; rw [if_pos h0]), H1, (Only.of_below B0).trans_ ho⟩
  · have h0' : (m != 0) = true := bne_iff_ne.2 h0
    have h1 : 1 ≤ m := by omega
    go_enter Tryd.func27, Tryd.ntmps27
    go_wp2_with fail
    refine (next_any g seed n hn _ HR0 H0).mono ?_
    rintro e w1 ⟨rfl, H1, ho⟩
    go_wp2
    go_ret
    exact ⟨ret_int (by unfold rem0; rw [if_neg h0]), H1, (Only.of_below B0).trans_ ho⟩
set_option maxHeartbeats 1000000 in
theorem below_any (g : Nat) (seed : Int) (n : Nat) (hn : n ≤ 1099511627776) (m : Int) (hm : 1 ≤ m ∧ m ≤ 9223372036854775807) (w : World) (hR : Rnd w) (H : Src w g 53 seed n) :
    Calls Tryd.prog 16 #[pt g, .int .i64 m] w fun e w' => e = .returned (.int .i64 (Pl.belowOf seed n m)) ∧ Src w' g 53 seed (n + 1) ∧ Only g w w' := by
  have B0 := (Below.refl w.heap.size w).alloc (Nat.le_refl _) (.cells #[.func (.func 15) #[pt g] #[]] 59)
  have HR0 := hR.next B0
  have H0 := Bk.next H B0
  have hlo : 0 ≤ Pl.belowOf seed n m := Int.emod_nonneg _ (by omega)
  have hhi : Pl.belowOf seed n m < m := Int.emod_lt_of_pos _ (by omega)
  have hmf : ∀ (fn : Fn) (first cap : Array Value) (w : World), (Instr.makeFunc fn first cap).run Tryd.prog w = .ok (.func fn first cap) w := fun _ _ _ _ => rfl
  go_enter Tryd.func16, Tryd.ntmps16
  go_wp2_with fail
  have C := drawer_any g seed n hn m (by omega) _ HR0 H0
  rw [show rem0 (Pl.mix seed n) m = Pl.belowOf seed n m from by unfold rem0 Pl.belowOf; rw [if_neg (by omega)]] at C
  refine C.mono ?_
  clear C
  rintro e w1 ⟨rfl, H1, ho⟩
  go_wp2
  go_ret
  exact ⟨rfl, H1, (Only.of_below B0).trans_ ho⟩
theorem below_nil (m : Int) (w : World) : Calls Tryd.prog 16 #[.pointer none, .int .i64 m] w fun e w' => e = .returned (.int .i64 0) ∧ w = w' := by
  go_enter Tryd.func16, Tryd.ntmps16
  go_wp2
  go_ret
  exact ⟨rfl, rfl⟩
theorem below_no (g : Nat) (m : Int) (hm : m < 1) (w : World) : Calls Tryd.prog 16 #[pt g, .int .i64 m] w fun e w' => e = .returned (.int .i64 0) ∧ w = w' := by
  go_enter Tryd.func16, Tryd.ntmps16
  go_wp2
  go_ret
  exact ⟨rfl, rfl⟩
/-- What Range returns. -/
def rangeOf (seed : Int) (n : Nat) (lo hi : Int) : Int := IntKind.i64.wrap (IntKind.u64.wrap (IntKind.u64.wrap lo + rem0 (Pl.mix seed n) (IntKind.u64.wrap (IntKind.u64.wrap (IntKind.u64.wrap hi - IntKind.u64.wrap lo) + 1))))
theorem range_nil (lo hi : Int) (w : World) : Calls Tryd.prog 17 #[.pointer none, .int .i64 lo, .int .i64 hi] w fun e w' => e = .returned (.int .i64 0) ∧ w = w' := by
  go_enter Tryd.func17, Tryd.ntmps17
  go_wp2
  go_ret
  exact ⟨rfl, rfl⟩
theorem range_no (g : Nat) (lo hi : Int) (h : hi < lo) (w : World) : Calls Tryd.prog 17 #[pt g, .int .i64 lo, .int .i64 hi] w fun e w' => e = .returned (.int .i64 lo) ∧ w = w' := by
  go_enter Tryd.func17, Tryd.ntmps17
  go_wp2
  go_ret
  exact ⟨rfl, rfl⟩
set_option maxHeartbeats 1000000 in
theorem range_any (g : Nat) (seed : Int) (n : Nat) (hn : n ≤ 1099511627776) (lo hi : Int) (h : lo ≤ hi) (w : World) (hR : Rnd w) (H : Src w g 53 seed n) :
    Calls Tryd.prog 17 #[pt g, .int .i64 lo, .int .i64 hi] w fun e w' => e = .returned (.int .i64 (rangeOf seed n lo hi)) ∧ Src w' g 53 seed (n + 1) ∧ Only g w w' := by
  have B0 := (Below.refl w.heap.size w).alloc (Nat.le_refl _) (.cells #[.func (.func 15) #[pt g] #[]] 59)
  have HR0 := hR.next B0
  have H0 := Bk.next H B0
  have hmf : ∀ (fn : Fn) (first cap : Array Value) (w : World), (Instr.makeFunc fn first cap).run Tryd.prog w = .ok (.func fn first cap) w := fun _ _ _ _ => rfl
  go_enter Tryd.func17, Tryd.ntmps17
  go_wp2_with fail
  have C := drawer_any g seed n hn (IntKind.u64.wrap (IntKind.u64.wrap (IntKind.u64.wrap hi - IntKind.u64.wrap lo) + 1)) (wrap_u64_nonneg _) _ HR0 H0
  refine C.mono ?_
  clear C
  rintro e w1 ⟨rfl, H1, ho⟩
  go_wp2
  go_ret
  exact ⟨ret_int (IntWalk.i64_left _).symm, H1, (Only.of_below B0).trans_ ho⟩
end Go.Proofs.YtdfabmjkahhlmaaDoor
