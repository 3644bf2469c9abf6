/- The walk of the law MacKeys: two keys are derived and boxed in an order that Go leaves open. -/
import Derived.Test.YtomlcfkendmjeaaDoorMacLaw3
import Derived.Deep.RegionWith
import Derived.Deep.DrawnRows
namespace Go.Proofs.YtomlcfkendmjeaaDoor
open Go Go.RowKit
theorem Bk.put2 {w : World} {g : Nat} {t : TypeId} {a b x y : Value} (h : Bk w g t #[x, y]) : Bk ((w.setCell ⟨g, 0, none⟩ a).setCell ⟨g, 1, none⟩ b) g t #[a, b] := (h.put 0 a).put 1 b
theorem bcells {w w' : World} (hb : Below w.heap.size w w') : (∀ b o, b < w.heap.size → w'.cell? ⟨b, o, none⟩ = w.cell? ⟨b, o, none⟩) ∧ (∀ b o, b < w.heap.size → w'.frozen? ⟨b, o, none⟩ = w.frozen? ⟨b, o, none⟩) :=
  ⟨fun b o h => hb.cell (p := ⟨b, o, none⟩) h, fun b o h => hb.frozen (p := ⟨b, o, none⟩) h⟩
theorem KeyS.alloc {W : World} {g : Nat} {a b : Int} {w : World} (h : KeyS W g a b w) (o : Obj) : KeyS W g a b (w.alloc o) := ⟨h.1.alloc o, h.2.alloc h.2.size o⟩
theorem KeyS.bel {W : World} {g : Nat} {a b : Int} {w : World} (h : KeyS W g a b w) : Below W.heap.size W w := h.2
theorem Bk.four {w : World} {g : Nat} {t : TypeId} {a b : Value} (h : Bk w g t #[a, b]) : (w.cell? ⟨g, 0, none⟩ = some a ∧ w.cell? ⟨g, 1, none⟩ = some b) ∧ w.frozen? ⟨g, 0, none⟩ = false ∧ w.frozen? ⟨g, 1, none⟩ = false := ⟨h.two, h.free 0, h.free 1⟩
theorem heldA {W : World} {g : Nat} {a b : Int} {w : World} (h : w.cell? ⟨g, 0, none⟩ = some (.int .u64 a) ∧ w.cell? ⟨g, 1, none⟩ = some (.int .u64 b) ∧ KeyS W g a b w) (o : Obj) :
    (w.alloc o).cell? ⟨g, 0, none⟩ = some (.int .u64 a) ∧ (w.alloc o).cell? ⟨g, 1, none⟩ = some (.int .u64 b) ∧ KeyS W g a b (w.alloc o) := (h.2.2.alloc o).all
theorem heldT {W : World} {a b : Int} {w : World} (h : w.cell? ⟨W.heap.size, 0, none⟩ = some (.int .u64 a) ∧ w.cell? ⟨W.heap.size, 1, none⟩ = some (.int .u64 b) ∧ KeyS W W.heap.size a b w) {p : Addr} (hp : W.heap.size < p.block) (u : Value) :
    (w.setCell p u).cell? ⟨W.heap.size, 0, none⟩ = some (.int .u64 a) ∧ (w.setCell p u).cell? ⟨W.heap.size, 1, none⟩ = some (.int .u64 b) ∧ KeyS W W.heap.size a b (w.setCell p u) :=
  KeyS.all ⟨h.2.2.1.far (by omega) _, h.2.2.2.setCell (by omega) _⟩
theorem KeyS.set {W : World} {a b : Int} {w : World} (h : KeyS W W.heap.size a b w) {p : Addr} (hp : W.heap.size < p.block) (u : Value) : KeyS W W.heap.size a b (w.setCell p u) := ⟨h.1.far (by omega) _, h.2.setCell (by omega) _⟩
theorem Bk.new1 (w : World) (o : Obj) (t : TypeId) (cs : Array Value) : Bk ((w.alloc o).alloc (.cells cs t)) (w.heap.size + 1) t cs := by simpa using Bk.new (w.alloc o) t cs
theorem Bk.newS (w : World) (p q : Addr) (a b : Value) (t : TypeId) (cs : Array Value) : Bk (((w.setCell p a).setCell q b).alloc (.cells cs t)) w.heap.size t cs := by
  have h := Bk.new ((w.setCell p a).setCell q b) t cs
  have e : ((w.setCell p a).setCell q b).heap.size = w.heap.size := by simp [World.setCell]
  rw [e] at h
  exact h
theorem Bk.far2 {w : World} {g p : Nat} {t : TypeId} {cs : Array Value} {a b : Value} (h : Bk w g t cs) (hp : g ≠ p) : Bk ((w.setCell ⟨p, 0, none⟩ a).setCell ⟨p, 1, none⟩ b) g t cs := (h.far (by exact hp) a).far (by exact hp) b
theorem held3 {W : World} {g : Nat} {a b : Int} {w : World} (h : w.cell? ⟨g, 0, none⟩ = some (.int .u64 a) ∧ w.cell? ⟨g, 1, none⟩ = some (.int .u64 b) ∧ KeyS W g a b w) : KeyS W g a b w := h.2.2
/-- Three keys that lie boxed. -/
def KeyR (W : World) (g h : Nat) (k0 k1 p1 p2 q1 q2 : Int) (w : World) : Prop := KeyS W W.heap.size k0 k1 w ∧ Bk w g 24 #[.int .u64 p1, .int .u64 p2] ∧ Bk w h 24 #[.int .u64 q1, .int .u64 q2]
def KeyT (W : World) (g h : Nat) (k0 k1 p1 p2 q1 q2 : Int) (w : World) : Prop :=
  (w.cell? ⟨W.heap.size, 0, none⟩ = some (.int .u64 k0)) ∧ (w.cell? ⟨W.heap.size, 1, none⟩ = some (.int .u64 k1)) ∧ (w.cell? ⟨g, 0, none⟩ = some (.int .u64 p1)) ∧ (w.cell? ⟨g, 1, none⟩ = some (.int .u64 p2)) ∧
    (w.cell? ⟨h, 0, none⟩ = some (.int .u64 q1)) ∧ (w.cell? ⟨h, 1, none⟩ = some (.int .u64 q2)) ∧ KeyR W g h k0 k1 p1 p2 q1 q2 w
section
variable {W : World} {g h : Nat} {k0 k1 p1 p2 q1 q2 : Int} {w w' : World}
theorem KeyR.all (H : KeyR W g h k0 k1 p1 p2 q1 q2 w) : KeyT W g h k0 k1 p1 p2 q1 q2 w := ⟨H.1.1.cell 0, H.1.1.cell 1, H.2.1.cell 0, H.2.1.cell 1, H.2.2.cell 0, H.2.2.cell 1, H⟩
theorem KeyR.drew (H : KeyR W g h k0 k1 p1 p2 q1 q2 w) : KeyR W g h k0 k1 p1 p2 q1 q2 w.drew := ⟨H.1.drew, H.2.1, H.2.2⟩
theorem KeyR.next (H : KeyR W g h k0 k1 p1 p2 q1 q2 w) (hb : Below w.heap.size w w') : KeyR W g h k0 k1 p1 p2 q1 q2 w' := ⟨H.1.next hb, H.2.1.next hb, H.2.2.next hb⟩
theorem KeyT.next (H : KeyT W g h k0 k1 p1 p2 q1 q2 w) (hb : Below w.heap.size w w') : KeyT W g h k0 k1 p1 p2 q1 q2 w' := (H.2.2.2.2.2.2.next hb).all
theorem KeyT.bel (H : KeyT W g h k0 k1 p1 p2 q1 q2 w) : Below W.heap.size W w := H.2.2.2.2.2.2.1.2
end
theorem dif_derive {k0 k1 : Int} {xs ys : List Int} (hl : xs.length = ys.length) (h8 : xs.length ≤ 8) (hx : IsBytes xs) (hy : IsBytes ys) :
    ((Pl.d1 k0 k1 xs == Pl.d1 k0 k1 ys) && (Pl.d2 k0 k1 xs == Pl.d2 k0 k1 ys)) = !dif xs ys xs.length := by
  rw [← dif_tag (k0 := k0) (k1 := k1) hl h8 hx hy]
  by_cases e : Pl.tagOf k0 k1 xs = Pl.tagOf k0 k1 ys
  · unfold Pl.d1 Pl.d2; rw [e]; simp
  · have h1 : Pl.d1 k0 k1 xs ≠ Pl.d1 k0 k1 ys := fun h => e (Pl.d1_inj h)
    rw [beq_eq_false_iff_ne.2 e, beq_eq_false_iff_ne.2 h1]; rfl
attribute [local simp high] guard_bind eql_key neq_key
attribute [local go_sem ↓] Go.wp_at_zero Go.wp_at_succ
set_option maxHeartbeats 8000000 in
theorem macKeys_walk (k0 k1 : Int) (A B : Option Addr) (c c' : Nat) (xs ys : List Int) (W : World) (hR : Rnd W) (hS : IsSl W A .u8 xs) (hS' : IsSl W B .u8 ys) (hx : IsBytes xs) (hy : IsBytes ys) :
    Calls Tryd.prog 8 #[.agg #[.int .u64 k0, .int .u64 k1], .slice A xs.length c, .slice B ys.length c'] W fun e w' => e = .returned (.bool true) ∧ Below W.heap.size W w' := by
  have B0 := (Below.refl W.heap.size W).alloc (Nat.le_refl _) (.cells #[.int .u64 k0, .int .u64 k1] 24)
  have HX := hid hx
  have HY := hid hy
  clear hx hy
  by_cases h1 : xs.length = ys.length
  · generalize hN : xs.length = n at h1 ⊢
    have HN := hid hN
    have HM := hid h1
    rw [← h1]
    clear hN h1
    by_cases h2 : (8 : Int) < (n : Int)
    · go_enter Tryd.func8, Tryd.ntmps8
      go_wp2_with fail
      refine (awake_any _ (hR.next B0)).mono ?_
      rintro e w1 ⟨rfl, hb⟩
      go_wp2
      go_ret
      exact ⟨rfl, bstep B0 hb⟩
    · have K0 := KeyS.of (Bk.new W 24 #[.int .u64 k0, .int .u64 k1]) B0
      go_enter Tryd.func8, Tryd.ntmps8
      go_wp2_with fail
      generalize W.alloc (.cells #[.int .u64 k0, .int .u64 k1] 24) = w0 at *
      go_loopw [7, 8] (fun d i wr => ∃ k : Nat, k ≤ n ∧ i = .int .i64 k ∧ d = .bool (dif xs ys k) ∧ KeyS W W.heap.size k0 k1 wr) (fun _ i _ => n - (intOf i).toNat)
      case atStart => exact ⟨0, Nat.zero_le _, rfl, rfl, K0⟩
      case round =>
        obtain ⟨k, hk, rfl, rfl, hK⟩ := hrel
        by_cases hlt : k < n
        · obtain ⟨x, hx⟩ : ∃ x, xs[k]? = some x := ⟨xs[k]'(by have := HN.out; omega), List.getElem?_eq_getElem _⟩
          obtain ⟨y, hy⟩ : ∃ y, ys[k]? = some y := ⟨ys[k]'(by have := HM.out; omega), List.getElem?_eq_getElem _⟩
          rcases (hS.next hK.2).row with h0 | ⟨bb, off, rfl, hbb', hcell⟩
          · have := HN.out; omega
          · rcases (hS'.next hK.2).row with h0 | ⟨bc, off', rfl, hbc', hcell'⟩
            · have := HM.out; omega
            · have hc1 : wr.cell? ⟨bb, off + k, none⟩ = some (.int .u8 x) := hcell k x hx
              have hc2 : wr.cell? ⟨bc, off' + k, none⟩ = some (.int .u8 y) := hcell' k y hy
              have HE := hid (dif_next hx hy)
              clear hx hy hcell hcell'
              have hi0 : (0 : Int) ≤ (k : Int) := by omega
              have hi1 : (k : Int) < (n : Int) := by omega
              cases hd : dif xs ys k
              · go_wp2
                go_quiet (fail)
                go_wp2
                exact ⟨⟨k + 1, by omega, by go_num, by rw [HE.out, hd]; rfl, hK.drewN nq⟩, by simp [intOf]; omega⟩
              · go_wp2
                go_quiet (fail)
                go_wp2
                exact ⟨⟨k + 1, by omega, by go_num, by rw [HE.out, hd]; rfl, hK.drewN nq⟩, by simp [intOf]; omega⟩
        · obtain rfl : k = n := by omega
          have hdt := dif_derive (k0 := k0) (k1 := k1) (HN.out.trans HM.out) (by have := HN.out; omega) HX.out HY.out
          rw [HN.out] at hdt
          have hne : (Pl.d1 k0 k1 xs != Pl.d2 k0 k1 xs) = true := bne_iff_ne.2 (Pl.d_ne k0 k1 xs)
          have CA : ∀ w, Rnd w → IsSl w A .u8 xs → Calls Tryd.prog 13 #[.agg #[.int .u64 k0, .int .u64 k1], .slice A k c] w fun e w' => e = .returned (.agg #[.int .u64 (Pl.d1 k0 k1 xs), .int .u64 (Pl.d2 k0 k1 xs)]) ∧ Below w.heap.size w w' := fun w h1 h2 => by
            have := derive_any k0 k1 A c xs w h1 h2 HX.out (by have := HN.out; omega)
            rw [HN.out] at this; exact this
          have CB : ∀ w, Rnd w → IsSl w B .u8 ys → Calls Tryd.prog 13 #[.agg #[.int .u64 k0, .int .u64 k1], .slice B k c'] w fun e w' => e = .returned (.agg #[.int .u64 (Pl.d1 k0 k1 ys), .int .u64 (Pl.d2 k0 k1 ys)]) ∧ Below w.heap.size w w' := fun w h1 h2 => by
            have := derive_any k0 k1 B c' ys w h1 h2 HY.out (by have := HM.out; omega)
            rw [← HM.out] at this; exact this
          generalize Pl.d1 k0 k1 xs = P1 at *
          generalize Pl.d2 k0 k1 xs = P2 at *
          generalize Pl.d1 k0 k1 ys = Q1 at *
          generalize Pl.d2 k0 k1 ys = Q2 at *
          generalize dif xs ys k = D at *
          have CA := hid CA
          have CB := hid CB
          have Hdt := hid hdt
          have Hne := hid hne
          clear hdt hne
          go_upto_region 8 with (fail)
          go_cut [9, 10] (fun s9 s10 wx => ∃ g h : Nat, s9 = .pointer (some ⟨g, 0, none⟩) ∧ s10 = .pointer (some ⟨h, 0, none⟩) ∧ Bk wx g 24 #[.int .u64 P1, .int .u64 P2] ∧ Bk wx h 24 #[.int .u64 Q1, .int .u64 Q2] ∧ KeyS W W.heap.size k0 k1 wx)
          case first =>
            obtain ⟨ka, kb⟩ := hK.1.two
            have hlk := hK.1.lt
            have hlk2 := hK.2.size
            have hbK := hK.2
            go_region_held3 (fun w' => (w'.cell? ⟨W.heap.size, 0, none⟩ = some (.int .u64 k0)) ∧ (w'.cell? ⟨W.heap.size, 1, none⟩ = some (.int .u64 k1)) ∧ KeyS W W.heap.size k0 k1 w')
              (exact KeyS.all (by repeat (first | (with_reducible exact K2) | (with_reducible exact K1) | (with_reducible exact hK) | (with_reducible refine KeyS.drew ?_) | (with_reducible refine KeyS.alloc ?_ _) | (with_reducible refine KeyS.set ?_ (by dsimp only; omega) _))))
              (first | (go_at_call_of 13 (Value.slice A k c); refine (CA.out _ (hR.next (heldB (by assumption))) (hS.next (heldB (by assumption)))).mono ?_; rintro e w1 ⟨rfl, hb1⟩; have hs1 := hb1.size; have K1 := (heldN (by assumption) hb1).2.2; have q1 := K1.1.lt; (first | (have N1 : Bk w1 wr.heap.size 24 #[.int .u64 0, .int .u64 0] := ((Bk.new wr.drew 24 #[.int .u64 0, .int .u64 0]).alloc (.cells #[.int .u64 0, .int .u64 0] 24)).next hb1; have N2 : Bk w1 (wr.heap.size + 1) 24 #[.int .u64 0, .int .u64 0] := (by simpa using (Bk.new (wr.drew.alloc (.cells #[.int .u64 0, .int .u64 0] 24)) 24 #[.int .u64 0, .int .u64 0]).next hb1); have n1 := N1.four; have n1l := N1.lt; have n1e := Nat.ne_of_lt N1.lt; have n2 := N2.four; have n2l := N2.lt; have n2e := Nat.ne_of_lt N2.lt) | (have N1 : Bk w1 wr.heap.size 24 #[.int .u64 0, .int .u64 0] := (Bk.new wr.drew 24 #[.int .u64 0, .int .u64 0]).next hb1; have n1 := N1.four; have n1l := N1.lt; have n1e := Nat.ne_of_lt N1.lt) | skip))
                     | (go_at_call_of 13 (Value.slice B k c'); refine (CB.out _ (hR.next (heldB (by assumption))) (hS'.next (heldB (by assumption)))).mono ?_; rintro e w2 ⟨rfl, hb2⟩; have hs2 := hb2.size; have K2 := (heldN (by assumption) hb2).2.2; have q2 := K2.1.lt; (first | (have M1 := ((Bk.new w1 24 #[.int .u64 0, .int .u64 0]).alloc (.cells #[.int .u64 0, .int .u64 0] 24)).next hb2; have M2 : Bk w2 (w1.heap.size + 1) 24 #[.int .u64 0, .int .u64 0] := (by simpa using (Bk.new (w1.alloc (.cells #[.int .u64 0, .int .u64 0] 24)) 24 #[.int .u64 0, .int .u64 0]).next hb2); have m1 := M1.four; have m1l := M1.lt; have m1e := Nat.ne_of_lt M1.lt; have m2 := M2.four; have m2l := M2.lt; have m2e := Nat.ne_of_lt M2.lt) | (have M1 := (Bk.new w1 24 #[.int .u64 0, .int .u64 0]).next hb2; have m1 := M1.four; have m1l := M1.lt; have m1e := Nat.ne_of_lt M1.lt) | skip); (first | (have N1' := N1.next hb2; have n1' := N1'.four; have n1'l := N1'.lt; have n1'e := Nat.ne_of_lt N1'.lt) | (have N1' := (N1.alloc (.cells #[.int .u64 0, .int .u64 0] 24)).next hb2; have n1' := N1'.four; have n1'l := N1'.lt; have n1'e := Nat.ne_of_lt N1'.lt) | skip); (first | (have N2' := N2.next hb2; have n2' := N2'.four; have n2'l := N2'.lt; have n2'e := Nat.ne_of_lt N2'.lt) | skip)))
            all_goals
              have hKf := held3 (W := W) (g := W.heap.size) (a := k0) (b := k1) (by assumption)
              go_wp2_with fail
              go_meet
              refine ⟨_, _, rfl, rfl, ?_, ?_, hKf⟩
            all_goals
              repeat (first
                | (with_reducible exact Bk.new _ _ _) | (with_reducible exact Bk.new1 _ _ _ _) | (with_reducible exact Bk.newS _ _ _ _ _ _ _) | (with_reducible exact M1) | (with_reducible exact M2) | (with_reducible exact N1') | (with_reducible exact N2')
                | (with_reducible refine Bk.put2 (x := .int .u64 0) (y := .int .u64 0) ?_) | (with_reducible refine Bk.alloc ?_ _) | (with_reducible refine Bk.far2 ?_ (by omega)))
          case rest =>
            obtain ⟨g, h, rfl, rfl, HG, HH, hK2⟩ := hcut
            have HR : KeyR W g h k0 k1 P1 P2 Q1 Q2 wc := ⟨hK2, HG, HH⟩
            have hne := Hne.out
            have hdt := Hdt.out
            go_wp2_with fail
            go_region_held3 (fun w => (w.cell? ⟨W.heap.size, 0, none⟩ = some (.int .u64 k0)) ∧ (w.cell? ⟨W.heap.size, 1, none⟩ = some (.int .u64 k1)) ∧ (w.cell? ⟨g, 0, none⟩ = some (.int .u64 P1)) ∧ (w.cell? ⟨g, 1, none⟩ = some (.int .u64 P2)) ∧
    (w.cell? ⟨h, 0, none⟩ = some (.int .u64 Q1)) ∧ (w.cell? ⟨h, 1, none⟩ = some (.int .u64 Q2)) ∧ KeyR W g h k0 k1 P1 P2 Q1 Q2 w)
              (first | exact KeyR.all (KeyR.drew HR) | exact KeyT.next (by assumption) hb5)
              (first | (go_at_call 13; refine (CA.out _ (hR.next (KeyT.bel (g := g) (h := h) (k0 := k0) (k1 := k1) (p1 := P1) (p2 := P2) (q1 := Q1) (q2 := Q2) (by assumption))) (hS.next (KeyT.bel (g := g) (h := h) (k0 := k0) (k1 := k1) (p1 := P1) (p2 := P2) (q1 := Q1) (q2 := Q2) (by assumption)))).mono ?_; rintro e w5 ⟨rfl, hb5⟩)
                     | (go_at_call 9; refine (awake_any _ (hR.next (KeyT.bel (g := g) (h := h) (k0 := k0) (k1 := k1) (p1 := P1) (p2 := P2) (q1 := Q1) (q2 := Q2) (by assumption)))).mono ?_; rintro e w5 ⟨rfl, hb5⟩))
            have hfin : Below W.heap.size W w5 := KeyT.bel (g := g) (h := h) (k0 := k0) (k1 := k1) (p1 := P1) (p2 := P2) (q1 := Q1) (q2 := Q2) (by assumption)
            go_wp2
            go_ret
            exact ⟨rfl, hfin⟩
  · have h1' : ((xs.length : Int) != (ys.length : Int)) = true := by rw [bne_iff_ne]; omega
    go_enter Tryd.func8, Tryd.ntmps8
    go_wp2_with fail
    refine (awake_any _ (hR.next B0)).mono ?_
    rintro e w1 ⟨rfl, hb⟩
    go_wp2
    go_ret
    exact ⟨rfl, bstep B0 hb⟩
end Go.Proofs.YtomlcfkendmjeaaDoor
