/- New, Peek, Pop and Push of package agenda. -/
import Derived.Test.YtjeojnlkjecojaaDoorLinkH7
namespace Go.Proofs.YtjeojnlkjecojaaDoor
open Go Go.RowKit
open Hp
theorem agNew_any (lim : Int) (w : World) (h1 : 1 ≤ lim) (h2 : lim ≤ 4096) : Calls Tryd.prog 27 #[.int .i64 lim] w fun e w' => ∃ g, w.heap.size ≤ g ∧ e = .returned (pt g) ∧ QuS w' (· = g) g [] 0 lim 0 0 ∧ Below w.heap.size w w' := by
  have K := hid (Bk.new w 73 #[.slice none 0 0, .map none, .int .i64 lim, .int .i64 0, .int .i64 0])
  have B := hid ((Below.refl w.heap.size w).alloc (Nat.le_refl _) (.cells #[.slice none 0 0, .map none, .int .i64 lim, .int .i64 0, .int .i64 0] 73))
  go_enter Tryd.func27, Tryd.ntmps27
  go_wp2_with fail
  go_ret
  exact ⟨w.heap.size, Nat.le_refl _, rfl, ⟨rfl, fun k hk => by rw [hk]; exact K.out.lt, .inl ⟨rfl, K.out⟩⟩, B.out⟩
theorem QuS.g0 {w : World} {S : Nat → Prop} {g : Nat} {L : List Ev} {N : Nat} {lim tm pu : Int} (h : QuS w S g L N lim tm pu) : ∃ A c mv, Bk w g 73 #[.slice A L.length c, mv, .int .i64 lim, .int .i64 tm, .int .i64 pu] := by
  rcases h.st with ⟨rfl, h2⟩ | ⟨b, m, cap, Y, h1, _⟩
  · exact ⟨_, _, _, h2⟩
  · exact ⟨_, _, _, h1.q⟩
theorem QuS.c4 {w : World} {S : Nat → Prop} {g : Nat} {L : List Ev} {N : Nat} {lim tm pu : Int} (h : QuS w S g L N lim tm pu) : w.cell? ⟨g, 4, none⟩ = some (.int .i64 pu) := by
  obtain ⟨A, c, mv, h⟩ := h.g0
  exact h.cell 4
theorem QuS.setpu {w : World} {S : Nat → Prop} {g : Nat} {L : List Ev} {N : Nat} {lim tm pu : Int} (h : QuS w S g L N lim tm pu) (p : Int) : QuS (w.setCell ⟨g, 4, none⟩ (.int .i64 p)) S g L N lim tm p := by
  refine ⟨h.ing, fun k hk => by simpa [World.setCell] using h.lt k hk, ?_⟩
  rcases h.st with ⟨h1, h2⟩ | ⟨b, m, cap, Y, h1, h2⟩
  · exact .inl ⟨h1, h2.put 4 _⟩
  · obtain ⟨D, hD⟩ := h1.mp
    exact .inr ⟨b, m, cap, Y, ⟨h1.q.put 4 _, h1.l.far (fun e => h1.gb e.symm) _, h1.sz, ⟨D, hD.setCell (fun e => h1.gm e.symm) _⟩, h1.gb, h1.gm, h1.bm, h1.cm⟩, h2⟩
theorem QuS.settm {w : World} {S : Nat → Prop} {g : Nat} {L : List Ev} {N : Nat} {lim tm pu : Int} (h : QuS w S g L N lim tm pu) (p : Int) : QuS (w.setCell ⟨g, 3, none⟩ (.int .i64 p)) S g L N lim p pu := by
  refine ⟨h.ing, fun k hk => by simpa [World.setCell] using h.lt k hk, ?_⟩
  rcases h.st with ⟨h1, h2⟩ | ⟨b, m, cap, Y, h1, h2⟩
  · exact .inl ⟨h1, h2.put 3 _⟩
  · obtain ⟨D, hD⟩ := h1.mp
    exact .inr ⟨b, m, cap, Y, ⟨h1.q.put 3 _, h1.l.far (fun e => h1.gb e.symm) _, h1.sz, ⟨D, hD.setCell (fun e => h1.gm e.symm) _⟩, h1.gb, h1.gm, h1.bm, h1.cm⟩, h2⟩
theorem quLen_any {w : World} {S : Nat → Prop} {g : Nat} {L : List Ev} {N : Nat} {lim tm pu : Int} (h : QuS w S g L N lim tm pu) : Calls Tryd.prog 30 #[pt g] w fun e w' => e = .returned (.int .i64 (L.length : Int)) ∧ w = w' := by
  obtain ⟨A, c, mv, h⟩ := h.g0
  exact len_any g A _ c w (h.cell 0)
abbrev zev : Value := .agg #[.int .i64 0, .int .i64 0, .int .i64 0]
set_option maxHeartbeats 1000000 in
theorem peek_nil {w : World} {S : Nat → Prop} {g : Nat} {L : List Ev} {N : Nat} {lim tm pu : Int} (h : QuS w S g L N lim tm pu) (hl : L = []) : Calls Tryd.prog 40 #[pt g] w fun e w' => e = .returned (.tuple #[zev, .bool false]) ∧ Below w.heap.size w w' := by
  subst hl
  have B := (Below.refl w.heap.size w).alloc (Nat.le_refl _) (.cells #[.int .i64 0, .int .i64 0, .int .i64 0] 53)
  have HB := hid B
  have LN := hid (quLen_any (h.next B))
  obtain ⟨c0, c1, c2⟩ := bk3 (Bk.new w 53 #[.int .i64 0, .int .i64 0, .int .i64 0])
  have f0 := (Bk.new w 53 #[.int .i64 0, .int .i64 0, .int .i64 0]).free 0
  have f1 := (Bk.new w 53 #[.int .i64 0, .int .i64 0, .int .i64 0]).free 1
  have f2 := (Bk.new w 53 #[.int .i64 0, .int .i64 0, .int .i64 0]).free 2
  clear B h
  go_enter Tryd.func40, Tryd.ntmps40
  go_wp2_with fail
  refine LN.out.mono ?_
  rintro e w1 ⟨rfl, rfl⟩
  go_wp2_with fail
  exact bodyPost_ret (v := .tuple #[zev, .bool false]) (by simp [results, Tryd.results40, go_sem]) rfl ⟨rfl, HB.out⟩
set_option maxHeartbeats 1000000 in
theorem peek_some {w : World} {g b m cap n : Nat} {L : List Ev} {Y : List Value} {N : Nat} {lim tm pu : Int} {x : Ev} (h : HpM w g b m cap L Y N lim tm pu) (hl : L.length = n + 1) (hx : L[0]? = some x) : Calls Tryd.prog 40 #[pt g] w fun e w' => e = .returned (.tuple #[evV x, .bool true]) ∧ Below w.heap.size w w' := by
  have B := (Below.refl w.heap.size w).alloc (Nat.le_refl _) (.cells #[.int .i64 0, .int .i64 0, .int .i64 0] 53)
  have h2 := h.next B
  have q0 := h2.q.cell 0
  simp only [List.getElem?_toArray, List.getElem?_cons_zero] at q0
  rw [hl] at q0
  have LN := hid (len_any g _ _ _ _ q0)
  obtain ⟨e0, e1, e2⟩ := h2.elem hx
  simp only [Nat.zero_mul, Nat.zero_add] at e0 e1 e2
  obtain ⟨c0, c1, c2⟩ := bk3 (Bk.new w 53 #[.int .i64 0, .int .i64 0, .int .i64 0])
  have f0 := (Bk.new w 53 #[.int .i64 0, .int .i64 0, .int .i64 0]).free 0
  have f1 := (Bk.new w 53 #[.int .i64 0, .int .i64 0, .int .i64 0]).free 1
  have f2 := (Bk.new w 53 #[.int .i64 0, .int .i64 0, .int .i64 0]).free 2
  have KZ := Bk.new w 53 #[.int .i64 x.at_, .int .i64 x.id, .int .i64 x.item]
  have BZ := hid ((Below.refl w.heap.size w).alloc (Nat.le_refl _) (.cells #[.int .i64 x.at_, .int .i64 x.id, .int .i64 x.item] 53))
  obtain ⟨z0, z1, z2⟩ := bk3 KZ
  clear B h h2 hl hx KZ
  go_enter Tryd.func40, Tryd.ntmps40
  go_wp2_with fail
  refine LN.out.mono ?_
  rintro e w1 ⟨rfl, rfl⟩
  have hn1 : ((n : Int) + 1 == 0) = false := by rw [beq_eq_false_iff_ne]; omega
  go_wp2_with fail
  exact bodyPost_ret (v := .tuple #[evV x, .bool true]) (by simp [results, Tryd.results40, go_sem]) rfl ⟨rfl, BZ.out⟩
set_option maxHeartbeats 4000000 in
theorem agPush_any (g : Nat) (S : Nat → Prop) (L : List Ev) (N : Nat) (lim tm pu at_ item : Int) (w : World) (Q : QuS w S g L N lim tm pu) (hh : HeapF (ats L) L.length) (hL : L.length + 1 ≤ 1000) (hid_ : ∀ x ∈ L, 0 ≤ x.id ∧ x.id ≤ 1000000) (hpu : 0 ≤ pu ∧ pu + 1 ≤ 1000000) (hN : N + 2 * L.length + 3 ≤ 800000)
    (h0 : 0 ≤ at_) (h1 : tm ≤ at_) (h2 : (L.length : Int) < lim) :
    Calls Tryd.prog 28 #[pt g, .int .i64 at_, .int .i64 item] w fun e w' => e = .returned (.tuple #[.int .i64 (pu + 1), .int .i64 0]) ∧ ∃ S' L' N', QuS w' S' g L' N' lim tm (pu + 1) ∧ L'.Perm (L ++ [⟨at_, pu + 1, item⟩]) ∧ HeapF (ats L') L'.length ∧ N' ≤ N + 2 * L.length + 3 ∧ Gr S S' w w' := by
  obtain ⟨hp0, hp1⟩ := hpu
  have HQ := hid Q
  obtain ⟨A, c, mv, K⟩ := Q.g0
  have HK := hid K
  have q0 := K.cell 0
  have q2 := K.cell 2
  have q3 := K.cell 3
  have q4 := K.cell 4
  have f4 := K.free 4
  simp only [List.getElem?_toArray, List.getElem?_cons_zero, List.getElem?_cons_succ] at q0 q2 q3 q4
  obtain ⟨lv, hlv⟩ : ∃ lv : Value, lv = .slice A L.length c := ⟨_, rfl⟩
  rw [← hlv] at q0
  have LN := hid (quLen_any (Q.next (Below.refl w.heap.size w).drew))
  have HSX : Hid ((w.drew.cell? ⟨g, 0, none⟩ = some lv) ∧ (w.drew.cell? ⟨g, 2, none⟩ = some (.int .i64 lim))) := hid ⟨q0, q2⟩
  have HH := hid hh
  have HI := hid hid_
  clear K Q hh hid_ hlv
  go_enter Tryd.func28, Tryd.ntmps28
  go_wp2_with fail
  refine wp_region_held_drew (S := (fun w' => (w'.cell? ⟨g, 0, none⟩ = some lv) ∧ (w'.cell? ⟨g, 2, none⟩ = some (.int .i64 lim)))) (by kernel_rfl) HSX.out (fun hHeld => ?_)
  refine wpAnyH_take (i := 0) (oi := ⟨some 22, _, _, _, _, _⟩) (v := ?_) rfl (by kernel_rfl) (by kernel_rfl) (by kernel_rfl) (fun _ _ _ h => h) (Or.inl ⟨by rfl, ?_⟩) (by assumption) ?_
  rotate_left
  focus
    intro w hSw
    try dsimp only at hSw
    go_simp
    first
    | done
    | with_reducible rfl
  try simp only [Act.put, List.setIfInBounds_toArray, List.set_cons_zero, List.set_cons_succ]
  refine wpAnyH_take (i := 2) (oi := ⟨some 24, _, _, _, _, _⟩) (v := ?_) rfl (by kernel_rfl) (by kernel_rfl) (by kernel_rfl) (fun _ _ _ h => h) (Or.inl ⟨by rfl, ?_⟩) (by assumption) ?_
  rotate_left
  focus
    intro w hSw
    try dsimp only at hSw
    go_simp
    first
    | done
    | with_reducible rfl
  try simp only [Act.put, List.setIfInBounds_toArray, List.set_cons_zero, List.set_cons_succ]
  refine wpAnyH_take (i := 3) (oi := ⟨some 25, _, _, _, _, _⟩) (v := ?_) rfl (by kernel_rfl) (by kernel_rfl) (by kernel_rfl) (fun _ _ _ h => h) (Or.inl ⟨by rfl, ?_⟩) (by assumption) ?_
  rotate_left
  focus
    intro w hSw
    try dsimp only at hSw
    go_simp
    first
    | done
    | with_reducible rfl
  try simp only [Act.put, List.setIfInBounds_toArray, List.set_cons_zero, List.set_cons_succ]
  refine wpAnyH_take (i := 4) (oi := ⟨some 26, _, _, _, _, _⟩) (v := ?_) rfl (by kernel_rfl) (by kernel_rfl) (by kernel_rfl) (fun _ _ _ h => h) (Or.inl ⟨by rfl, ?_⟩) (by assumption) ?_
  rotate_left
  focus
    intro w hSw
    try dsimp only at hSw
    go_simp
    first
    | done
    | with_reducible rfl
  try simp only [Act.put, List.setIfInBounds_toArray, List.set_cons_zero, List.set_cons_succ]
  refine wpAnyH_take (i := 5) (oi := ⟨some 27, _, _, _, _, _⟩) (v := ?_) rfl (by kernel_rfl) (by kernel_rfl) (by kernel_rfl) (fun _ _ _ h => h) (Or.inl ⟨by rfl, ?_⟩) (by assumption) ?_
  rotate_left
  focus
    intro w hSw
    try dsimp only at hSw
    go_simp
    first
    | done
    | with_reducible rfl
  try simp only [Act.put, List.setIfInBounds_toArray, List.set_cons_zero, List.set_cons_succ]
  refine wpAnyH_ready (rs := [1]) (by kernel_rfl) (by simp) ?_
  refine AllReadyH.cons (o := ⟨some 23, _, _, _, _, _⟩) rfl (fun K hK => ?_) AllReadyH.nil
  go_simp
  refine LN.out.mono ?_
  rintro e wq ⟨rfl, rfl⟩
  refine hK.out _ _ HSX.out (fun hHeld => ?_)
  clear hK K
  try simp only [Act.put, List.setIfInBounds_toArray, List.set_cons_zero, List.set_cons_succ]
  refine wpAnyH_take (i := 6) (oi := ⟨some 28, _, _, _, _, _⟩) (v := ?_) rfl (by kernel_rfl) (by kernel_rfl) (by kernel_rfl) (fun _ _ _ h => h) (Or.inl ⟨by rfl, ?_⟩) (by assumption) ?_
  rotate_left
  focus
    intro w hSw
    try dsimp only at hSw
    go_simp
    first
    | done
    | with_reducible rfl
  try simp only [Act.put, List.setIfInBounds_toArray, List.set_cons_zero, List.set_cons_succ]
  refine wpAnyH_take (i := 7) (oi := ⟨some 21, _, _, _, _, _⟩) (v := ?_) rfl (by kernel_rfl) (by kernel_rfl) (by kernel_rfl) (fun _ _ _ h => h) (Or.inl ⟨by rfl, ?_⟩) (by assumption) ?_
  rotate_left
  focus
    intro w hSw
    try dsimp only at hSw
    go_simp
    first
    | done
    | with_reducible rfl
  try simp only [Act.put, List.setIfInBounds_toArray, List.set_cons_zero, List.set_cons_succ]
  refine wpAnyH_done (by kernel_rfl) ?_ _
  clear hHeld HSX LN q0 q2 q3
  have HQd := hid (HQ.out.next (Below.refl w.heap.size w).drew)
  have HBd : Hid (Below w.heap.size w w.drew) := hid ((Below.refl w.heap.size w).drew)
  have q4' : w.drew.cell? ⟨g, 4, none⟩ = some (.int .i64 pu) := q4
  have f4' : w.drew.frozen? ⟨g, 4, none⟩ = false := f4
  clear q4 f4
  generalize w.drew = wa at *
  have Q2 := hid (HQd.out.setpu (pu + 1))
  have F2 := hid ((Fr.of_below (S := S) HBd.out).trans (Fr.put (p := ⟨g, 4, none⟩) HQ.out.ing (.int .i64 (pu + 1))))
  go_wp2_with fail
  clear q4' f4'
  generalize wa.setCell ⟨g, 4, none⟩ (.int .i64 (pu + 1)) = wb at *
  have PC := hid (push_any g S L N lim tm (pu + 1) ⟨at_, pu + 1, item⟩ wb.drew (Q2.out.next (Below.refl wb.heap.size wb).drew) HH.out hL HI.out ⟨by show 0 ≤ pu + 1; omega, by show pu + 1 ≤ 1000000; omega⟩ hN)
  have HSY : Hid (wb.drew.cell? ⟨g, 4, none⟩ = some (.int .i64 (pu + 1))) := hid Q2.out.c4
  have HF3 : Hid (Fr S w wb.drew) := hid (F2.out.trans (Fr.of_below (Below.refl wb.heap.size wb).drew))
  refine wp_region_held_drew (S := (fun w' => w'.cell? ⟨g, 4, none⟩ = some (.int .i64 (pu + 1)))) (by kernel_rfl) HSY.out (fun hHeld => ?_)
  refine wpAnyH_take (i := 0) (oi := ⟨some 36, _, _, _, _, _⟩) (v := ?_) rfl (by kernel_rfl) (by kernel_rfl) (by kernel_rfl) (fun _ _ _ h => h) (Or.inl ⟨by rfl, ?_⟩) (by assumption) ?_
  rotate_left
  focus
    intro w hSw
    try dsimp only at hSw
    go_simp
    first
    | done
    | with_reducible rfl
  try simp only [Act.put, List.setIfInBounds_toArray, List.set_cons_zero, List.set_cons_succ]
  refine wpAnyH_take (i := 1) (oi := ⟨some 37, _, _, _, _, _⟩) (v := ?_) rfl (by kernel_rfl) (by kernel_rfl) (by kernel_rfl) (fun _ _ _ h => h) (Or.inl ⟨by rfl, ?_⟩) (by assumption) ?_
  rotate_left
  focus
    intro w hSw
    try dsimp only at hSw
    go_simp
    first
    | done
    | with_reducible rfl
  try simp only [Act.put, List.setIfInBounds_toArray, List.set_cons_zero, List.set_cons_succ]
  refine wpAnyH_take (i := 2) (oi := ⟨some 38, _, _, _, _, _⟩) (v := ?_) rfl (by kernel_rfl) (by kernel_rfl) (by kernel_rfl) (fun _ _ _ h => h) (Or.inl ⟨by rfl, ?_⟩) (by assumption) ?_
  rotate_left
  focus
    intro w hSw
    try dsimp only at hSw
    go_simp
    first
    | done
    | with_reducible rfl
  try simp only [Act.put, List.setIfInBounds_toArray, List.set_cons_zero, List.set_cons_succ]
  refine wpAnyH_take (i := 3) (oi := ⟨some 39, _, _, _, _, _⟩) (v := ?_) rfl (by kernel_rfl) (by kernel_rfl) (by kernel_rfl) (fun _ _ _ h => h) (Or.inl ⟨by rfl, ?_⟩) (by assumption) ?_
  rotate_left
  focus
    intro w hSw
    try dsimp only at hSw
    go_simp
    first
    | done
    | with_reducible rfl
  try simp only [Act.put, List.setIfInBounds_toArray, List.set_cons_zero, List.set_cons_succ]
  refine wpAnyH_take (i := 4) (oi := ⟨some 40, _, _, _, _, _⟩) (v := ?_) rfl (by kernel_rfl) (by kernel_rfl) (by kernel_rfl) (fun _ _ _ h => h) (Or.inl ⟨by rfl, ?_⟩) (by assumption) ?_
  rotate_left
  focus
    intro w hSw
    try dsimp only at hSw
    go_simp
    first
    | done
    | with_reducible rfl
  try simp only [Act.put, List.setIfInBounds_toArray, List.set_cons_zero, List.set_cons_succ]
  refine wpAnyH_take (i := 5) (oi := ⟨some 41, _, _, _, _, _⟩) (v := ?_) rfl (by kernel_rfl) (by kernel_rfl) (by kernel_rfl) (fun _ _ _ h => h) (Or.inl ⟨by rfl, ?_⟩) (by assumption) ?_
  rotate_left
  focus
    intro w hSw
    try dsimp only at hSw
    go_simp
    first
    | done
    | with_reducible rfl
  try simp only [Act.put, List.setIfInBounds_toArray, List.set_cons_zero, List.set_cons_succ]
  refine wpAnyH_take (i := 6) (oi := ⟨some 42, _, _, _, _, _⟩) (v := ?_) rfl (by kernel_rfl) (by kernel_rfl) (by kernel_rfl) (fun _ _ _ h => h) (Or.inl ⟨by rfl, ?_⟩) (by assumption) ?_
  rotate_left
  focus
    intro w hSw
    try dsimp only at hSw
    go_simp
    first
    | done
    | with_reducible rfl
  try simp only [Act.put, List.setIfInBounds_toArray, List.set_cons_zero, List.set_cons_succ]
  refine wpAnyH_take (i := 7) (oi := ⟨some 43, _, _, _, _, _⟩) (v := ?_) rfl (by kernel_rfl) (by kernel_rfl) (by kernel_rfl) (fun _ _ _ h => h) (Or.inl ⟨by rfl, ?_⟩) (by assumption) ?_
  rotate_left
  focus
    intro w hSw
    try dsimp only at hSw
    go_simp
    first
    | done
    | with_reducible rfl
  try simp only [Act.put, List.setIfInBounds_toArray, List.set_cons_zero, List.set_cons_succ]
  refine wpAnyH_take (i := 8) (oi := ⟨some 44, _, _, _, _, _⟩) (v := ?_) rfl (by kernel_rfl) (by kernel_rfl) (by kernel_rfl) (fun _ _ _ h => h) (Or.inl ⟨by rfl, ?_⟩) (by assumption) ?_
  rotate_left
  focus
    intro w hSw
    try dsimp only at hSw
    go_simp
    first
    | done
    | with_reducible rfl
  try simp only [Act.put, List.setIfInBounds_toArray, List.set_cons_zero, List.set_cons_succ]
  refine wpAnyH_take (i := 9) (oi := ⟨some 45, _, _, _, _, _⟩) (v := ?_) rfl (by kernel_rfl) (by kernel_rfl) (by kernel_rfl) (fun _ _ _ h => h) (Or.inl ⟨by rfl, ?_⟩) (by assumption) ?_
  rotate_left
  focus
    intro w hSw
    try dsimp only at hSw
    go_simp
    first
    | done
    | with_reducible rfl
  try simp only [Act.put, List.setIfInBounds_toArray, List.set_cons_zero, List.set_cons_succ]
  refine wpAnyH_take (i := 10) (oi := ⟨some 46, _, _, _, _, _⟩) (v := ?_) rfl (by kernel_rfl) (by kernel_rfl) (by kernel_rfl) (fun _ _ _ h => h) (Or.inl ⟨by rfl, ?_⟩) (by assumption) ?_
  rotate_left
  focus
    intro w hSw
    try dsimp only at hSw
    go_simp
    first
    | done
    | with_reducible rfl
  try simp only [Act.put, List.setIfInBounds_toArray, List.set_cons_zero, List.set_cons_succ]
  refine wpAnyH_ready (rs := [11]) (by kernel_rfl) (by simp) ?_
  refine AllReadyH.cons (o := ⟨some 47, _, _, _, _, _⟩) rfl (fun K hK => ?_) AllReadyH.nil
  go_simp
  refine PC.out.mono ?_
  rintro e wq ⟨rfl, S', L', N', Q', P', hh', hN', G'⟩
  have HQ' := hid (And.intro Q' (And.intro P' (And.intro hh' (And.intro hN' G'))))
  clear Q' P' hh' hN' G'
  refine hK.out _ _ HQ'.out.1.c4 (fun hHeld => ?_)
  clear hK K
  try simp only [Act.put, List.setIfInBounds_toArray, List.set_cons_zero, List.set_cons_succ]
  refine wpAnyH_done (by kernel_rfl) ?_ _
  clear hHeld HSY PC
  have c4 := HQ'.out.1.c4
  go_wp2_with fail
  go_ret2
  obtain ⟨Q', P', hh', hN', G'⟩ := HQ'.out
  exact ⟨rfl, S', L', N', Q', P', hh', hN', Gr.trans ⟨HF3.out, fun k _ h => h⟩ G'⟩
end Go.Proofs.YtjeojnlkjecojaaDoor
