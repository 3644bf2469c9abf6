/- Pop of package agenda. -/
import Derived.Test.YtjeojnlkjecojaaDoorLinkH8
namespace Go.Proofs.YtjeojnlkjecojaaDoor
open Go Go.RowKit
open Hp
theorem HpM.far {w : World} {g b m cap N : Nat} {L : List Ev} {Y : List Value} {lim tm pu : Int} (h : HpM w g b m cap L Y N lim tm pu) {p : Addr} (h1 : g ≠ p.block) (h2 : b ≠ p.block) (h3 : m ≠ p.block) (u : Value) : HpM (w.setCell p u) g b m cap L Y N lim tm pu := by
  obtain ⟨D, hD⟩ := h.mp
  exact ⟨h.q.far h1 _, h.l.far h2 _, h.sz, ⟨D, hD.setCell h3 _⟩, h.gb, h.gm, h.bm, h.cm⟩
theorem HpM.settm {w : World} {g b m cap N : Nat} {L : List Ev} {Y : List Value} {lim tm pu : Int} (h : HpM w g b m cap L Y N lim tm pu) (p : Int) : HpM (w.setCell ⟨g, 3, none⟩ (.int .i64 p)) g b m cap L Y N lim p pu := by
  obtain ⟨D, hD⟩ := h.mp
  exact ⟨h.q.put 3 _, h.l.far (fun e => h.gb e.symm) _, h.sz, ⟨D, hD.setCell (fun e => h.gm e.symm) _⟩, h.gb, h.gm, h.bm, h.cm⟩
set_option maxHeartbeats 2000000 in
theorem agPop_nil {w : World} {S : Nat → Prop} {g : Nat} {L : List Ev} {N : Nat} {lim tm pu : Int} (h : QuS w S g L N lim tm pu) (hl : L = []) : Calls Tryd.prog 29 #[pt g] w fun e w' => e = .returned (.tuple #[zev, .bool false]) ∧ Below w.heap.size w w' := by
  have B := (Below.refl w.heap.size w).alloc (Nat.le_refl _) (.cells #[.int .i64 0, .int .i64 0, .int .i64 0] 53)
  have HB := hid B
  have PK := hid (peek_nil (h.next B) hl)
  have KR := hid (Bk.new w 53 #[.int .i64 0, .int .i64 0, .int .i64 0])
  clear B h
  go_enter Tryd.func29, Tryd.ntmps29
  go_wp2_with fail
  generalize hw1 : w.alloc (.cells #[.int .i64 0, .int .i64 0, .int .i64 0] 53) = w1 at *
  refine PK.out.mono ?_
  rintro e w2 ⟨rfl, hb2⟩
  have KR2 := hid (KR.out.next hb2)
  have HB2 := hid (bstep HB.out hb2)
  have HB3 := hid (HB2.out.alloc HB2.out.size (.cells #[.int .i64 0, .int .i64 0, .int .i64 0] 53))
  have KR3 := hid (KR2.out.alloc (.cells #[.int .i64 0, .int .i64 0, .int .i64 0] 53))
  have f0 := KR3.out.free 0
  have f1 := KR3.out.free 1
  have f2 := KR3.out.free 2
  obtain ⟨c0, c1, c2⟩ := bk3 KR3.out
  clear hb2 PK hw1
  go_wp2_with fail
  have HW := hid (((HB3.out.setCell (p := ⟨w.heap.size, 0, none⟩) (Nat.le_refl _) (.int .i64 0)).setCell (p := ⟨w.heap.size, 1, none⟩) (Nat.le_refl _) (.int .i64 0)).setCell (p := ⟨w.heap.size, 2, none⟩) (Nat.le_refl _) (.int .i64 0))
  have KZ := ((KR3.out.put 0 (.int .i64 0)).put 1 (.int .i64 0)).put 2 (.int .i64 0)
  clear c0 c1 c2 f0 f1 f2 HB3 KR3
  generalize (((w2.alloc (.cells #[.int .i64 0, .int .i64 0, .int .i64 0] 53)).setCell ⟨w.heap.size, 0, none⟩ (.int .i64 0)).setCell ⟨w.heap.size, 1, none⟩ (.int .i64 0)).setCell ⟨w.heap.size, 2, none⟩ (.int .i64 0) = wz at *
  obtain ⟨z0, z1, z2⟩ := bk3 (show Bk wz w.heap.size 53 #[.int .i64 0, .int .i64 0, .int .i64 0] from KZ)
  exact bodyPost_ret (v := .tuple #[zev, .bool false]) (by simp [results, Tryd.results29, go_sem, z0, z1, z2]) rfl ⟨rfl, HW.out⟩
set_option maxHeartbeats 4000000 in
theorem agPop_some {w : World} {S : Nat → Prop} {g n : Nat} {L : List Ev} {N : Nat} {lim tm pu : Int} {x : Ev} (h : QuS w S g L N lim tm pu) (hl : L.length = n + 1) (hx : L[0]? = some x) (hh : HeapF (ats L) L.length) (hL : n + 1 ≤ 1000) (hid_ : ∀ x ∈ L, 0 ≤ x.id ∧ x.id ≤ 1000000) (hN : N + 2 * n + 10 ≤ 900000) :
    Calls Tryd.prog 29 #[pt g] w fun e w' => e = .returned (.tuple #[evV x, .bool true]) ∧ ∃ S' L' N', QuS w' S' g L' N' lim x.at_ pu ∧ (L' ++ [x]).Perm L ∧ HeapF (ats L') L'.length ∧ N' ≤ N + 2 + 2 * n ∧ Gr S S' w w' := by
  rcases h.st with ⟨h1, _⟩ | ⟨b, m, cap, Y, M, hSb, hSm⟩
  · rw [h1] at hl; simp at hl
  have HS := hid (And.intro h.ing (And.intro hSb hSm))
  obtain ⟨hgl, hbl, hml⟩ := M.lts
  have hgd : L.getD 0 ev0 = x := by simp [List.getD, hx]
  have HGD := hid hgd
  have B := (Below.refl w.heap.size w).alloc (Nat.le_refl _) (.cells #[.int .i64 0, .int .i64 0, .int .i64 0] 53)
  have HB := hid B
  have HM1 := hid (M.next B)
  have PK := hid (peek_some (M.next B) hl hx)
  have KR := hid (Bk.new w 53 #[.int .i64 0, .int .i64 0, .int .i64 0])
  have HL := hid (And.intro hl (And.intro hh hid_))
  clear B h M hl hh hid_ hgd hx hSb hSm
  go_enter Tryd.func29, Tryd.ntmps29
  go_wp2_with fail
  generalize hw1 : w.alloc (.cells #[.int .i64 0, .int .i64 0, .int .i64 0] 53) = w1 at *
  refine PK.out.mono ?_
  rintro e w2 ⟨rfl, hb2⟩
  have BB := (Below.refl w2.heap.size w2).alloc (Nat.le_refl _) (.cells #[.int .i64 x.at_, .int .i64 x.id, .int .i64 x.item] 53)
  have HM3 := hid ((HM1.out.next hb2).next BB)
  have KR3 := hid ((KR.out.next hb2).next BB)
  have KX3 := hid (Bk.new w2 53 #[.int .i64 x.at_, .int .i64 x.id, .int .i64 x.item])
  have HB3 := hid (bstep (bstep HB.out hb2) BB)
  have HZ2 := hid (show w.heap.size < w2.heap.size by have := KR.out.lt; exact Nat.lt_of_lt_of_le this hb2.size)
  clear hb2 PK BB hw1 HM1 KR HB
  go_wp2_with fail
  generalize w2.alloc (.cells #[.int .i64 x.at_, .int .i64 x.id, .int .i64 x.item] 53) = w3 at *
  generalize w2.heap.size = bx at *
  have RM := hid (remove_any g b m cap n L Y N lim tm pu w3 HM3.out HL.out.1 HL.out.2.1 hL HL.out.2.2 hN)
  refine RM.out.mono ?_
  rintro e w4 ⟨rfl, L', Y', N', M4, P4, hh4, hN4, F4⟩
  rw [HGD.out] at P4
  have H4 := hid (And.intro P4 (And.intro hh4 (And.intro hN4 F4)))
  have HM4 := hid M4
  have hz2 := HZ2.out
  have KR4 := hid (F4.bk KR3.out (by rintro (e | e | e) <;> omega))
  have KX4 := hid (F4.bk KX3.out (by rintro (e | e | e) <;> omega))
  obtain ⟨x0, x1, x2⟩ := bk3 KX4.out
  have g3 := M4.q.cell 3
  have fg3 := M4.q.free 3
  simp only [List.getElem?_toArray, List.getElem?_cons_zero, List.getElem?_cons_succ] at g3
  have HM5 := hid (M4.settm x.at_)
  have KR5 := hid (KR4.out.far (p := ⟨g, 3, none⟩) (by dsimp only; omega) (.int .i64 x.at_))
  have KX5 := hid (KX4.out.far (p := ⟨g, 3, none⟩) (by dsimp only; omega) (.int .i64 x.at_))
  have HF5 := hid (((Fr.of_below (S := fun k => S k ∨ w.heap.size ≤ k) HB3.out).trans (F4.sub (fun k e => by
    rcases e with rfl | rfl | rfl
    · exact .inl HS.out.1
    · exact .inl HS.out.2.1
    · exact .inl HS.out.2.2))).trans (Fr.put (p := ⟨g, 3, none⟩) (.inl HS.out.1) (.int .i64 x.at_)))
  clear M4 P4 hh4 hN4 F4 RM HM3 KR3 KX3 HB3 HZ2
  obtain ⟨r0, r1, r2⟩ := bk3 KR5.out
  obtain ⟨y0, y1, y2⟩ := bk3 KX5.out
  have f0 := KR5.out.free 0
  have f1 := KR5.out.free 1
  have f2 := KR5.out.free 2
  go_wp2_with fail
  generalize w4.setCell ⟨g, 3, none⟩ (.int .i64 x.at_) = w5 at *
  have KZ := hid (bk3set KR5.out x)
  have HM6 := hid (((HM5.out.far (p := ⟨w.heap.size, 0, none⟩) (by dsimp only; omega) (by dsimp only; omega) (by dsimp only; omega) (.int .i64 x.at_)).far (p := ⟨w.heap.size, 1, none⟩) (by dsimp only; omega) (by dsimp only; omega) (by dsimp only; omega) (.int .i64 x.id)).far (p := ⟨w.heap.size, 2, none⟩) (by dsimp only; omega) (by dsimp only; omega) (by dsimp only; omega) (.int .i64 x.item))
  have HF6 := hid (((HF5.out.trans (Fr.put (p := ⟨w.heap.size, 0, none⟩) (.inr (Nat.le_refl _)) (.int .i64 x.at_))).trans (Fr.put (p := ⟨w.heap.size, 1, none⟩) (.inr (Nat.le_refl _)) (.int .i64 x.id))).trans (Fr.put (p := ⟨w.heap.size, 2, none⟩) (.inr (Nat.le_refl _)) (.int .i64 x.item)))
  clear r0 r1 r2 y0 y1 y2 f0 f1 f2 x0 x1 x2 g3 fg3 KR5 KX5 HM5 HF5
  generalize ((w5.setCell ⟨w.heap.size, 0, none⟩ (.int .i64 x.at_)).setCell ⟨w.heap.size, 1, none⟩ (.int .i64 x.id)).setCell ⟨w.heap.size, 2, none⟩ (.int .i64 x.item) = wz at *
  obtain ⟨z0, z1, z2⟩ := bk3 KZ.out
  obtain ⟨P4, hh4, hN4, _⟩ := H4.out
  exact bodyPost_ret (v := .tuple #[evV x, .bool true]) (by simp [results, Tryd.results29, go_sem, z0, z1, z2]) rfl ⟨rfl, _, L', N', ⟨⟨.inl HS.out.1, HM6.out.lts.1⟩, fun k hk => hk.2, .inr ⟨b, m, cap, Y', HM6.out, ⟨.inl HS.out.2.1, HM6.out.lts.2.1⟩, ⟨.inl HS.out.2.2, HM6.out.lts.2.2⟩⟩⟩, P4, hh4, hN4, Gr.of HF6.out⟩
end Go.Proofs.YtjeojnlkjecojaaDoor
