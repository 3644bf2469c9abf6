/- push of package agenda. -/
import Derived.Test.YtjeojnlkjecojaaDoorLinkH5
import Derived.Deep.AppendLies
namespace Go.Proofs.YtjeojnlkjecojaaDoor
open Go Go.RowKit
open Hp
theorem grown_bk {w w' : World} {r : Option Nat} (h : w.grownBy w' r) {g : Nat} {t : TypeId} {cs : Array Value} (hb : Bk w g t cs) (hg : r ≠ some g) : Bk w' g t cs :=
  (h.block g hb.lt (fun e => hg e.symm)).trans hb
theorem fr_grown {w w' : World} {r : Option Nat} {T : Nat → Prop} (hr : ∀ k, r = some k → T k) (hg : w.grownBy w' r) : Fr T w w' := ⟨hg.os, hg.tape, hg.output, hg.size, fun k hk hs => hg.block k hk (fun e => hs (hr k e.symm))⟩
/-- Before an append: the list at v, the map at m. -/
structure PreM (w : World) (g : Nat) (v : Value) (m : Nat) (L : List Ev) (N : Nat) (lim tm pu : Int) : Prop where
  q : Bk w g 73 #[v, .map (some m), .int .i64 lim, .int .i64 tm, .int .i64 pu]
  own : w.ownsRow 0 76 3 v L.length (ecells L)
  mp : ∃ D, w.ownsMap Tryd.prog 3 (plainElem (H := Unit) Tryd.prog 3) m N D
  gm : g ≠ m
section
variable {w w1 : World} {g m N n : Nat} {v : Value} {L : List Ev} {lim tm pu : Int} {x : Ev}
theorem PreM.blk (h : PreM w g v m L N lim tm pu) {k : Nat} (hk : v.ownBlock = some k) : ∃ cs, Bk w k 76 cs := by
  rcases h.own.2 with ⟨rfl, _⟩ | ⟨g', cap, cur, rfl, _, hh, _⟩
  · cases hk
  · obtain rfl : g' = k := by simpa [Value.ownBlock] using hk
    exact ⟨cur, hh⟩
theorem PreM.ne_g (h : PreM w g v m L N lim tm pu) : v.ownBlock ≠ some g := fun e => by
  obtain ⟨cs, hcs⟩ := h.blk e
  have e3 := (show w.heap[g]? = _ from h.q).symm.trans hcs
  simp only [Option.some.injEq, Obj.cells.injEq] at e3
  exact absurd e3.2.1 (by decide)
theorem PreM.ne_m (h : PreM w g v m L N lim tm pu) : v.ownBlock ≠ some m := fun e => by
  obtain ⟨cs, hcs⟩ := h.blk e
  obtain ⟨D, es, cl, hm, _⟩ := h.mp
  have e3 := hm.symm.trans hcs
  cases e3
theorem PreM.next (h : PreM w g v m L N lim tm pu) (hb : Below w.heap.size w w1) : PreM w1 g v m L N lim tm pu := by
  obtain ⟨D, hD⟩ := h.mp
  refine ⟨h.q.next hb, ⟨h.own.1, ?_⟩, ⟨D, own_map_below hD hb⟩, h.gm⟩
  rcases h.own.2 with h2 | ⟨b, cap, cur, hv, hB, hh, r⟩
  · exact .inl h2
  · exact .inr ⟨b, cap, cur, hv, hB, Bk.next (t := 76) hh hb, r⟩
theorem PreM.done {b cap : Nat} (h : PreM w g v m L N lim tm pu) (O : w1.ownsRow 0 76 3 (.slice (some ⟨b, 0, none⟩) (n + 1) cap) (n + 1) (ecells L ++ ecell x)) (hg : w.grownBy w1 v.ownBlock) (hat : v.ownBlock = some b ∨ b = w.heap.size) (hn : L.length = n) :
    ∃ Y, HpM (w1.setCell ⟨g, 0, none⟩ (.slice (some ⟨b, 0, none⟩) (n + 1) cap)) g b m cap (L ++ [x]) Y N lim tm pu ∧ (v.ownBlock = some b ∨ b = w.heap.size) := by
  subst hn
  obtain ⟨D, hD⟩ := h.mp
  have hgl := h.q.lt
  have hml := hD.lt
  have hgb : g ≠ b := by
    rcases hat with e | e
    · intro e2; subst e2; exact h.ne_g e
    · omega
  have hbm : b ≠ m := by
    rcases hat with e | e
    · intro e2; subst e2; exact h.ne_m e
    · omega
  rcases O.2 with ⟨h1, _⟩ | ⟨b', cap', cur, hv, _, hh, hnc, hcm, hcs, ht⟩
  · cases h1
  · simp only [Value.slice.injEq, Option.some.injEq, Addr.mk.injEq, and_true, true_and] at hv
    obtain ⟨rfl, rfl⟩ := hv
    have e1 : ecells L ++ ecell x = ecells (L ++ [x]) := by rw [ecells_append]; rfl
    refine ⟨cur.toList.drop ((L.length + 1) * 3), ⟨?_, ?_, ?_, ⟨D, (hD.kept hg (fun e => h.ne_m e.symm)).setCell (fun e => h.gm e.symm) _⟩, hgb, h.gm, hbm, hcm⟩, hat⟩
    · have := (grown_bk hg h.q h.ne_g).put 0 (.slice (some ⟨b, 0, none⟩) (L.length + 1) cap)
      rw [List.length_append]
      exact this
    · have h3 : Bk w1 b 76 (ecells (L ++ [x]) ++ cur.toList.drop ((L.length + 1) * 3)).toArray := by
        rw [← e1, ← ht, List.take_append_drop]
        exact hh
      exact h3.far (fun e => hgb e.symm) _
    · rw [← e1, ← ht, List.take_append_drop]
      simpa using hcs
theorem HpM.pre {b cap : Nat} {Y : List Value} (h : HpM w g b m cap L Y N lim tm pu) : PreM w g (.slice (some ⟨b, 0, none⟩) L.length cap) m L N lim tm pu := by
  have hz := h.sz
  rw [List.length_append, ecells_len] at hz
  have hcap : cap ≤ maxLen := h.cm
  exact ⟨h.q, ⟨ecells_len L, .inr ⟨b, cap, (ecells L ++ Y).toArray, rfl, Nat.zero_le _, h.l, by omega, hcap, by simpa using h.sz, by
    show List.take (L.length * 3) (ecells L ++ Y) = _
    rw [List.take_append_of_le_length (by rw [ecells_len]; exact Nat.le_refl _), List.take_of_length_le (by rw [ecells_len]; exact Nat.le_refl _)]⟩⟩, h.mp, h.gm⟩
theorem PreM.ne_box {bx : Nat} {cs : Array Value} (_h : PreM w g v m L N lim tm pu) (_hg : w.grownBy w1 v.ownBlock) (_hb : Bk w bx 76 cs) (hn : v.ownBlock ≠ some bx) : v.ownBlock ≠ some bx := hn
end
theorem info_ev : (Tryd.prog.info? 76).map (fun i => (i.zero, i.size, i.bytes)) = some (some (.agg #[.int .i64 0, .int .i64 0, .int .i64 0]), 3, 24) := by kernel_rfl
/-- An append of an event, as one step of a region that draws. -/
theorem step_app_ev {ops : Array Oper} {o : Oper} {a : Act} {w : World} {K : Act → World → Prop} {Q : Exit → Act → World → Prop} {E : Prop} (hgd : o.guard = none) (s y : Operand)
    (ho : o.op = .call { callee := .builtin .append, args := #[s, y], argTypes := #[68, 68] }) (v : Value) (n : Nat) (L : List Ev) (hs : a.eval s = v) (hown : w.ownsRow 0 76 3 v L.length (ecells L)) (hl : L.length = n)
    (p : Nat) (x : Ev) (hx : a.eval y = .slice (some ⟨p, 0, none⟩) 1 1) (hp : Bk w p 76 #[.int .i64 x.at_, .int .i64 x.id, .int .i64 x.item]) (hb : n ≤ 1000)
    (h : ∀ g cap w', w'.ownsRow 0 76 3 (.slice (some ⟨g, 0, none⟩) (n + 1) cap) (n + 1) (ecells L ++ ecell x) → w.grownBy w' v.ownBlock → (v.ownBlock = some g ∨ g = w.heap.size) → g < w'.heap.size → K (a.put o.dst (.slice (some ⟨g, 0, none⟩) (n + 1) cap)) w') : if Region.wanted o (yielded ops a.tmps) = true then Oper.wp Tryd.prog o a w K Q else E := by
  subst hl
  have hw : Region.wanted o (yielded ops a.tmps) = true := by simp [Region.wanted, hgd]
  rw [if_pos hw]
  obtain ⟨i0, hi', hz⟩ := Option.map_eq_some_iff.1 info_ev
  simp only [Prod.mk.injEq] at hz
  obtain ⟨hz0, hz1, hz2⟩ := hz
  refine wp_append_lies w s y 68 ho 0 76 i0 _ 3 24 Tryd.underlying68 hi' hz0 hz1 hz2 rfl (by omega) v L.length _ hs hown ⟨p, 0, none⟩ 1 1 (ecell x) hx rfl (fun j u hj => ?_) (fun u hu => by simp [ecell] at hu; rcases hu with rfl | rfl | rfl <;> rfl) (by omega) (by simp only [maxLen]; omega) (by omega) (Nat.zero_le _) _ rfl h
  have e1 : (⟨p, 0, none⟩ : Addr).add j = ⟨p, j, none⟩ := by unfold Addr.add; split <;> simp_all
  rw [e1, hp.cell]
  unfold ecell at hj
  simpa using hj
/-- The queue, and the blocks that are its own. -/
structure QuS (w : World) (S : Nat → Prop) (g : Nat) (L : List Ev) (N : Nat) (lim tm pu : Int) : Prop where
  ing : S g
  lt : ∀ k, S k → k < w.heap.size
  st : (L = [] ∧ Bk w g 73 #[.slice none 0 0, .map none, .int .i64 lim, .int .i64 tm, .int .i64 pu]) ∨ ∃ b m cap Y, HpM w g b m cap L Y N lim tm pu ∧ S b ∧ S m
/-- A call that writes blocks of S alone; S' is S and new ones. -/
structure Gr (S S' : Nat → Prop) (w w' : World) : Prop where
  fr : Fr S w w'
  set : ∀ k, k < w.heap.size → S' k → S k
theorem Gr.of {S : Nat → Prop} {w w' : World} (F : Fr (fun k => S k ∨ w.heap.size ≤ k) w w') : Gr S (fun k => (S k ∨ w.heap.size ≤ k) ∧ k < w'.heap.size) w w' :=
  ⟨⟨F.os, F.tape, F.output, F.size, fun k hk hs => F.block k hk (fun h => h.elim hs (fun h2 => by omega))⟩, fun k hk h => h.1.elim id (fun h2 => by omega)⟩
theorem Gr.trans {S S' S'' : Nat → Prop} {a b c : World} (h : Gr S S' a b) (k : Gr S' S'' b c) : Gr S S'' a c :=
  ⟨⟨k.fr.os.trans h.fr.os, k.fr.tape.trans h.fr.tape, k.fr.output.trans h.fr.output, Nat.le_trans h.fr.size k.fr.size, fun i hi hs => (k.fr.block i (Nat.lt_of_lt_of_le hi h.fr.size) (fun h' => hs (h.set i hi h'))).trans (h.fr.block i hi hs)⟩,
    fun i hi hs => h.set i hi (k.set i (Nat.lt_of_lt_of_le hi h.fr.size) hs)⟩
theorem Gr.of_below {S : Nat → Prop} {w w' : World} (h : Below w.heap.size w w') : Gr S S w w' := ⟨Fr.of_below h, fun _ _ h => h⟩
theorem QuS.next {w w' : World} {S : Nat → Prop} {g : Nat} {L : List Ev} {N : Nat} {lim tm pu : Int} (h : QuS w S g L N lim tm pu) (hb : Below w.heap.size w w') : QuS w' S g L N lim tm pu := by
  refine ⟨h.ing, fun k hk => Nat.lt_of_lt_of_le (h.lt k hk) hb.size, ?_⟩
  rcases h.st with ⟨h1, h2⟩ | ⟨b, m, cap, Y, h1, h2⟩
  · exact .inl ⟨h1, h2.next hb⟩
  · exact .inr ⟨b, m, cap, Y, h1.next hb, h2⟩
def PuP (w : World) (S : Nat → Prop) (g : Nat) (L : List Ev) (N : Nat) (lim tm pu : Int) (e : Ending) (w' : World) : Prop :=
  e = .returned (.tuple #[]) ∧ ∃ S' L' N', QuS w' S' g L' N' lim tm pu ∧ L'.Perm L ∧ HeapF (ats L') L'.length ∧ N' ≤ N ∧ Gr S S' w w'
theorem eql_map_nil (w : World) : (binOp .eql 69 (.map none) (.map none)).run Tryd.prog w = .ok (.bool true) w := by kernel_rfl
theorem eql_map_some (m : Nat) (w : World) : (binOp .eql 69 (.map (some m)) (.map none)).run Tryd.prog w = .ok (.bool false) w := by kernel_rfl
theorem run_make69 (w : World) : (Instr.makeMap 69 none).run Tryd.prog w = .ok (.map (some w.heap.size)) (w.alloc (.map #[] 0)) := by kernel_rfl
set_option maxHeartbeats 8000000 in
theorem push_any (g : Nat) (S : Nat → Prop) (L : List Ev) (N : Nat) (lim tm pu : Int) (x : Ev) (w : World) (Q : QuS w S g L N lim tm pu) (hh : HeapF (ats L) L.length) (hL : L.length + 1 ≤ 1000) (hid_ : ∀ x ∈ L, 0 ≤ x.id ∧ x.id ≤ 1000000) (hx : 0 ≤ x.id ∧ x.id ≤ 1000000) (hN : N + 2 * L.length + 3 ≤ 800000) :
    Calls Tryd.prog 39 #[pt g, evV x] w (PuP w S g (L ++ [x]) (N + 2 * L.length + 3) lim tm pu) := by
  have HH := hid hh
  have HI := hid (show ∀ z ∈ L ++ [x], 0 ≤ z.id ∧ z.id ≤ 1000000 from fun z hz => by
    rcases List.mem_append.1 hz with h | h
    · exact hid_ z h
    · simp at h; subst h; exact hx)
  have HX := hid hx
  have HB0 := hid ((Below.refl w.heap.size w).alloc (Nat.le_refl _) (.cells #[.int .i64 x.at_, .int .i64 x.id, .int .i64 x.item] 76))
  have KB0 := hid (Bk.new w 76 #[.int .i64 x.at_, .int .i64 x.id, .int .i64 x.item])
  have HQ := hid Q
  have hgl := Q.lt g Q.ing
  clear hh hid_ hx Q
  rcases HQ.out.st with ⟨rfl, K0⟩ | ⟨b, m, cap, Y, M, hSb, hSm⟩
  · have K := K0
    clear K0
    have KG := hid (K.next HB0.out)
    have c1 := KG.out.cell 1
    have f1 := KG.out.free 1
    simp only [List.getElem?_toArray, List.getElem?_cons_zero, List.getElem?_cons_succ] at c1
    have HK := hid K
    clear K
    have MN := eql_map_nil
    have MM := run_make69
    go_enter Tryd.func39, Tryd.ntmps39
    go_wp2_with fail
    have hza : (w.setCell ⟨g, 1, none⟩ (.map (some (w.heap.size + 1)))).heap.size = w.heap.size := by simp [World.setCell]
    have HKA := hid (HK.out.put 1 (.map (some (w.heap.size + 1))))
    have HFA := hid (Fr.put (S := fun k => S k ∨ w.heap.size ≤ k) (w := w) (p := ⟨g, 1, none⟩) (.inl HQ.out.ing) (.map (some (w.heap.size + 1))))
    have HZA := hid hza
    clear c1 f1 KG MN MM HB0 KB0 hza HK
    generalize w.setCell ⟨g, 1, none⟩ (.map (some (w.heap.size + 1))) = wa at *
    have KBa := hid (Bk.new wa 76 #[.int .i64 x.at_, .int .i64 x.id, .int .i64 x.item])
    have HBa := hid ((Below.refl wa.heap.size wa).alloc (Nat.le_refl _) (.cells #[.int .i64 x.at_, .int .i64 x.id, .int .i64 x.item] 76))
    have HZB := hid (show (wa.alloc (.cells #[.int .i64 x.at_, .int .i64 x.id, .int .i64 x.item] 76)).heap.size = w.heap.size + 1 by have := HZA.out; simp; exact this)
    rw [HZA.out] at KBa
    generalize wa.alloc (.cells #[.int .i64 x.at_, .int .i64 x.id, .int .i64 x.item] 76) = wb at *
    have HMa := hid (World.ownsMap_made wb Tryd.prog 3 (plainElem (H := Unit) Tryd.prog 3))
    rw [HZB.out] at HMa
    have HBb := hid ((Below.refl wb.heap.size wb).alloc (Nat.le_refl _) (.map #[] 0))
    generalize wb.alloc (.map #[] 0) = wc at *
    have HPc : Hid (PreM wc g (.slice none 0 0) (w.heap.size + 1) [] N lim tm pu) := hid ⟨(HKA.out.next HBa.out).next HBb.out, World.ownsRow_nil _ _ _ _, ⟨_, HMa.out.mono (Nat.zero_le _)⟩, by omega⟩
    have KBc : Hid (Bk wc w.heap.size 76 #[.int .i64 x.at_, .int .i64 x.id, .int .i64 x.item]) := hid (KBa.out.next HBb.out)
    have HFc : Hid (Fr (fun k => S k ∨ w.heap.size ≤ k) w wc) := hid ((HFA.out.trans (Fr.of_below HBa.out)).trans (Fr.of_below HBb.out))
    have HTg : Hid (S g ∨ w.heap.size ≤ g) := hid (.inl HQ.out.ing)
    have HTm : Hid (S (w.heap.size + 1) ∨ w.heap.size ≤ w.heap.size + 1) := hid (.inr (by omega))
    have HTV : Hid (∀ k, Value.ownBlock (.slice none 0 0) = some k → S k ∨ w.heap.size ≤ k) := hid (fun k h => by cases h)
    have HBO : Hid (Value.ownBlock (.slice none 0 0) ≠ some w.heap.size) := hid (fun h => by cases h)
    have HGX : Hid (w.heap.size ≠ g) := hid (by omega)
    have HLn1 : Hid (([] ++ [x] : List Ev).length = 0 + 1) := hid rfl
    have HSE : Hid (([] ++ [x] : List Ev).set 0 x = [] ++ [x]) := hid rfl
    have HUP : Hid (UpF (ats ([] ++ [x])) (0 + 1) 0) := hid (push_up (L := []) HH.out)
    clear HKA HFA HZA HBa HZB HMa HBb KBa
    refine wp_region_held_drew (S := (fun w' => (w'.cell? ⟨w.heap.size, 0, none⟩ = some (.int .i64 x.at_)) ∧ (w'.cell? ⟨w.heap.size, 1, none⟩ = some (.int .i64 x.id)) ∧ (w'.cell? ⟨w.heap.size, 2, none⟩ = some (.int .i64 x.item)))) (by kernel_rfl) (bk3 (Bk.drew KBc.out)) (fun hHeld => ?_)
    have HBd : Hid (Below wc.heap.size wc wc.drew) := hid ((Below.refl _ _).drew)
    have HPq := hid (HPc.out.next HBd.out)
    have KBq := hid (KBc.out.next HBd.out)
    have HFq := hid (HFc.out.trans (Fr.of_below HBd.out))
    clear HBd
    generalize wc.drew = wd0 at *
    refine wpAnyH_take (i := 0) (oi := ⟨some 14, _, _, _, _, _⟩) (v := ?_) rfl (by kernel_rfl) (by kernel_rfl) (by kernel_rfl) (fun _ _ _ h => h) (Or.inl ⟨by rfl, ?_⟩) (by assumption) ?_
    rotate_left
    focus
      intro w hSw
      try dsimp only at hSw
      go_simp
      first
      | done
      | with_reducible rfl
    try simp only [Act.put, List.setIfInBounds_toArray, List.set_cons_zero, List.set_cons_succ]
    refine wpAnyH_take (i := 1) (oi := ⟨some 15, _, _, _, _, _⟩) (v := ?_) rfl (by kernel_rfl) (by kernel_rfl) (by kernel_rfl) (fun _ _ _ h => h) (Or.inl ⟨by rfl, ?_⟩) (by assumption) ?_
    rotate_left
    focus
      intro w hSw
      try dsimp only at hSw
      go_simp
      first
      | done
      | with_reducible rfl
    try simp only [Act.put, List.setIfInBounds_toArray, List.set_cons_zero, List.set_cons_succ]
    refine wpAnyH_take (i := 2) (oi := ⟨some 16, _, _, _, _, _⟩) (v := ?_) rfl (by kernel_rfl) (by kernel_rfl) (by kernel_rfl) (fun _ _ _ h => h) (Or.inl ⟨by rfl, ?_⟩) (by assumption) ?_
    rotate_left
    focus
      intro w hSw
      try dsimp only at hSw
      go_simp
      first
      | done
      | with_reducible rfl
    try simp only [Act.put, List.setIfInBounds_toArray, List.set_cons_zero, List.set_cons_succ]
    refine wpAnyH_take (i := 3) (oi := ⟨some 17, _, _, _, _, _⟩) (v := ?_) rfl (by kernel_rfl) (by kernel_rfl) (by kernel_rfl) (fun _ _ _ h => h) (Or.inl ⟨by rfl, ?_⟩) (by assumption) ?_
    rotate_left
    focus
      intro w hSw
      try dsimp only at hSw
      go_simp
      first
      | done
      | with_reducible rfl
    try simp only [Act.put, List.setIfInBounds_toArray, List.set_cons_zero, List.set_cons_succ]
    refine wpAnyH_take (i := 5) (oi := ⟨some 19, _, _, _, _, _⟩) (v := ?_) rfl (by kernel_rfl) (by kernel_rfl) (by kernel_rfl) (fun _ _ _ h => h) (Or.inl ⟨by rfl, ?_⟩) (by assumption) ?_
    rotate_left
    focus
      intro w hSw
      try dsimp only at hSw
      go_simp
      first
      | done
      | with_reducible rfl
    try simp only [Act.put, List.setIfInBounds_toArray, List.set_cons_zero, List.set_cons_succ]
    refine wpAnyH_ready (rs := [4, 6]) (by kernel_rfl) (by simp) ?_
    refine AllReadyH.cons (o := ⟨some 18, _, _, _, _, _⟩) rfl (fun K hK => ?_) (AllReadyH.cons (o := ⟨some 20, _, _, _, _, _⟩) rfl (fun K hK => ?_) AllReadyH.nil)
    · have c0 := HPq.out.q.cell 0
      simp only [List.getElem?_toArray, List.getElem?_cons_zero] at c0
      go_simp
      clear c0
      refine hK.out _ _ (bk3 KBq.out) (fun hHeld => ?_)
      clear hK K
      try simp only [Act.put, List.setIfInBounds_toArray, List.set_cons_zero, List.set_cons_succ]
      refine wpAnyH_ready (rs := [6]) (by kernel_rfl) (by simp) ?_
      refine AllReadyH.cons (o := ⟨some 20, _, _, _, _, _⟩) rfl (fun K hK => ?_) AllReadyH.nil
      go_simp
      have KS := hid (Bk.new wd0 76 #[.int .i64 x.at_, .int .i64 x.id, .int .i64 x.item])
      have BA := (Below.refl wd0.heap.size wd0).alloc (Nat.le_refl _) (.cells #[.int .i64 x.at_, .int .i64 x.id, .int .i64 x.item] 76)
      replace HPq := hid (HPq.out.next BA)
      replace KBq := hid (KBq.out.next BA)
      replace HFq := hid (HFq.out.trans (Fr.of_below BA))
      clear BA
      generalize wd0.alloc (.cells #[.int .i64 x.at_, .int .i64 x.id, .int .i64 x.item] 76) = wq1 at *
      generalize wd0.heap.size = s1 at *
      refine hK.out _ _ (bk3 KBq.out) (fun hHeld => ?_)
      clear hK K
      try simp only [Act.put, List.setIfInBounds_toArray, List.set_cons_zero, List.set_cons_succ]
      refine wpAnyH_ready (rs := [7]) (by kernel_rfl) (by simp) ?_
      refine AllReadyH.cons (o := ⟨some 21, _, _, _, _, _⟩) rfl (fun K hK => ?_) AllReadyH.nil
      refine step_app_ev (by rfl) (.tmp 18) (.tmp 20) (by rfl) _ 0 [] (by rfl) HPq.out.own rfl s1 x (by rfl) KS.out (by omega) ?_
      intro b1 cap1 wq2 O1 hg1 hat1 hb1
      have HFw := hid (show w.heap.size ≤ wq1.heap.size from HFq.out.size)
      have hDN := HPq.out.done O1 hg1 hat1 rfl
      obtain ⟨Y1, hHM, hb1w⟩ := hDN
      have HHM := hid hHM
      have HbF := hid (fun (T : Nat → Prop) (h1 : ∀ k, Value.ownBlock (.slice none 0 0) = some k → T k) => fr_grown h1 hg1)
      have HB1 := hid (show b1 = wq1.heap.size ∨ Value.ownBlock (.slice none 0 0) = some b1 from hat1.symm)
      replace KBq := hid (grown_bk hg1 KBq.out (HPq.out.ne_box hg1 KBq.out HBO.out))
      have K1 := grown_bk hg1 HPq.out.q (HPq.out.ne_g)
      have e0 := K1.cell 0
      have f0 := K1.free 0
      simp only [List.getElem?_toArray, List.getElem?_cons_zero] at e0
      clear O1 hg1 hat1 hb1 hHM K1 KS
      refine hK.out _ _ (bk3 KBq.out) (fun hHeld => ?_)
      clear hK K
      try simp only [Act.put, List.setIfInBounds_toArray, List.set_cons_zero, List.set_cons_succ]
      refine wpAnyH_take (i := 8) (oi := ⟨some 22, _, _, _, _, _⟩) (v := ?_) rfl (by kernel_rfl) (by kernel_rfl) (by kernel_rfl) (fun _ _ _ h => h) (Or.inl ⟨by rfl, ?_⟩) (by assumption) ?_
      rotate_left
      focus
        intro w hSw
        try dsimp only at hSw
        go_simp
        first
        | done
        | with_reducible rfl
      try simp only [Act.put, List.setIfInBounds_toArray, List.set_cons_zero, List.set_cons_succ]
      refine wpAnyH_take (i := 9) (oi := ⟨some 23, _, _, _, _, _⟩) (v := ?_) rfl (by kernel_rfl) (by kernel_rfl) (by kernel_rfl) (fun _ _ _ h => h) (Or.inl ⟨by rfl, ?_⟩) (by assumption) ?_
      rotate_left
      focus
        intro w hSw
        try dsimp only at hSw
        go_simp
        first
        | done
        | with_reducible rfl
      try simp only [Act.put, List.setIfInBounds_toArray, List.set_cons_zero, List.set_cons_succ]
      refine wpAnyH_ready (rs := [10]) (by kernel_rfl) (by simp) ?_
      refine AllReadyH.cons (o := ⟨none, _, _, _, _, _⟩) rfl (fun K hK => ?_) AllReadyH.nil
      go_simp
      replace KBq := hid (KBq.out.far (p := ⟨g, 0, none⟩) (by dsimp only; exact HGX.out) (.slice (some ⟨b1, 0, none⟩) (0 + 1) cap1))
      clear e0 f0
      refine hK.out _ _ (bk3 KBq.out) (fun hHeld => ?_)
      clear hK K
      try simp only [Act.put, List.setIfInBounds_toArray, List.set_cons_zero, List.set_cons_succ]
      refine wpAnyH_done (by kernel_rfl) ?_ _
      clear hHeld
      have HTb := hid (show S b1 ∨ w.heap.size ≤ b1 from HB1.out.elim (fun e => .inr (by rw [e]; exact HFw.out)) (fun e => HTV.out b1 e))
      have HFz := hid ((HFq.out.trans (HbF.out _ HTV.out)).trans (Fr.put (p := ⟨g, 0, none⟩) HTg.out (.slice (some ⟨b1, 0, none⟩) (0 + 1) cap1)))
      generalize wq2.setCell ⟨g, 0, none⟩ (.slice (some ⟨b1, 0, none⟩) (0 + 1) cap1) = wf at *
      have c0 := HHM.out.q.cell 0
      simp only [List.getElem?_toArray, List.getElem?_cons_zero] at c0
      rw [HLn1.out] at c0
      obtain ⟨z0, z1, z2⟩ := bk3 KBq.out
      clear HFq HbF HB1 HFw HPq
      go_wp2_with fail
      have P1 := hid (put_any g b1 (w.heap.size + 1) cap1 0 x ([] ++ [x]) Y1 N lim tm pu wf HHM.out (by rw [HLn1.out]; omega) (by rw [HLn1.out]; omega) HX.out (by omega))
      refine P1.out.mono ?_
      rintro e w5 ⟨rfl, M5, F5⟩
      rw [HSE.out] at M5
      have HM5 := hid M5
      have HF5 := hid F5
      clear M5 F5 P1 c0 z0 z1 z2
      go_wp2_with fail
      have U1 := hid (up_any g b1 (w.heap.size + 1) cap1 0 ([] ++ [x]) Y1 (N + 1) lim tm pu w5 HM5.out (by rw [HLn1.out]; omega) (by rw [HLn1.out]; omega) HI.out (by omega) (by rw [HLn1.out]; exact HUP.out))
      refine U1.out.mono ?_
      rintro e w6 ⟨rfl, L', N', P', hh', hN', M6, F6⟩
      have HM6 := hid (And.intro P' (And.intro hh' (And.intro hN' (And.intro M6 F6))))
      clear P' hh' hN' M6 F6 U1
      go_wp2_with fail
      go_end0
      obtain ⟨P', hh', hN', M6, F6⟩ := HM6.out
      have hsub : ∀ k, Qs g b1 (w.heap.size + 1) k → S k ∨ w.heap.size ≤ k := by
        rintro k (rfl | rfl | rfl)
        · exact HTg.out
        · exact HTb.out
        · exact HTm.out
      have HF6 := HFz.out.trans ((HF5.out.sub hsub).trans (F6.sub hsub))
      exact ⟨rfl, _, L', N', ⟨⟨HTg.out, M6.lts.1⟩, fun k hk => hk.2, .inr ⟨b1, (w.heap.size + 1), cap1, Y1, M6, ⟨HTb.out, M6.lts.2.1⟩, ⟨HTm.out, M6.lts.2.2⟩⟩⟩, P', hh', by omega, Gr.of HF6⟩
    · go_simp
      have KS := hid (Bk.new wd0 76 #[.int .i64 x.at_, .int .i64 x.id, .int .i64 x.item])
      have BA := (Below.refl wd0.heap.size wd0).alloc (Nat.le_refl _) (.cells #[.int .i64 x.at_, .int .i64 x.id, .int .i64 x.item] 76)
      replace HPq := hid (HPq.out.next BA)
      replace KBq := hid (KBq.out.next BA)
      replace HFq := hid (HFq.out.trans (Fr.of_below BA))
      clear BA
      generalize wd0.alloc (.cells #[.int .i64 x.at_, .int .i64 x.id, .int .i64 x.item] 76) = wq0 at *
      generalize wd0.heap.size = s1 at *
      refine hK.out _ _ (bk3 KBq.out) (fun hHeld => ?_)
      clear hK K
      try simp only [Act.put, List.setIfInBounds_toArray, List.set_cons_zero, List.set_cons_succ]
      refine wpAnyH_ready (rs := [4]) (by kernel_rfl) (by simp) ?_
      refine AllReadyH.cons (o := ⟨some 18, _, _, _, _, _⟩) rfl (fun K hK => ?_) AllReadyH.nil
      have c0 := HPq.out.q.cell 0
      simp only [List.getElem?_toArray, List.getElem?_cons_zero] at c0
      go_simp
      clear c0
      refine hK.out _ _ (bk3 KBq.out) (fun hHeld => ?_)
      clear hK K
      try simp only [Act.put, List.setIfInBounds_toArray, List.set_cons_zero, List.set_cons_succ]
      refine wpAnyH_ready (rs := [7]) (by kernel_rfl) (by simp) ?_
      refine AllReadyH.cons (o := ⟨some 21, _, _, _, _, _⟩) rfl (fun K hK => ?_) AllReadyH.nil
      refine step_app_ev (by rfl) (.tmp 18) (.tmp 20) (by rfl) _ 0 [] (by rfl) HPq.out.own rfl s1 x (by rfl) KS.out (by omega) ?_
      intro b1 cap1 wq2 O1 hg1 hat1 hb1
      have HFw := hid (show w.heap.size ≤ wq0.heap.size from HFq.out.size)
      have hDN := HPq.out.done O1 hg1 hat1 rfl
      obtain ⟨Y1, hHM, hb1w⟩ := hDN
      have HHM := hid hHM
      have HbF := hid (fun (T : Nat → Prop) (h1 : ∀ k, Value.ownBlock (.slice none 0 0) = some k → T k) => fr_grown h1 hg1)
      have HB1 := hid (show b1 = wq0.heap.size ∨ Value.ownBlock (.slice none 0 0) = some b1 from hat1.symm)
      replace KBq := hid (grown_bk hg1 KBq.out (HPq.out.ne_box hg1 KBq.out HBO.out))
      have K1 := grown_bk hg1 HPq.out.q (HPq.out.ne_g)
      have e0 := K1.cell 0
      have f0 := K1.free 0
      simp only [List.getElem?_toArray, List.getElem?_cons_zero] at e0
      clear O1 hg1 hat1 hb1 hHM K1 KS
      refine hK.out _ _ (bk3 KBq.out) (fun hHeld => ?_)
      clear hK K
      try simp only [Act.put, List.setIfInBounds_toArray, List.set_cons_zero, List.set_cons_succ]
      refine wpAnyH_take (i := 8) (oi := ⟨some 22, _, _, _, _, _⟩) (v := ?_) rfl (by kernel_rfl) (by kernel_rfl) (by kernel_rfl) (fun _ _ _ h => h) (Or.inl ⟨by rfl, ?_⟩) (by assumption) ?_
      rotate_left
      focus
        intro w hSw
        try dsimp only at hSw
        go_simp
        first
        | done
        | with_reducible rfl
      try simp only [Act.put, List.setIfInBounds_toArray, List.set_cons_zero, List.set_cons_succ]
      refine wpAnyH_take (i := 9) (oi := ⟨some 23, _, _, _, _, _⟩) (v := ?_) rfl (by kernel_rfl) (by kernel_rfl) (by kernel_rfl) (fun _ _ _ h => h) (Or.inl ⟨by rfl, ?_⟩) (by assumption) ?_
      rotate_left
      focus
        intro w hSw
        try dsimp only at hSw
        go_simp
        first
        | done
        | with_reducible rfl
      try simp only [Act.put, List.setIfInBounds_toArray, List.set_cons_zero, List.set_cons_succ]
      refine wpAnyH_ready (rs := [10]) (by kernel_rfl) (by simp) ?_
      refine AllReadyH.cons (o := ⟨none, _, _, _, _, _⟩) rfl (fun K hK => ?_) AllReadyH.nil
      go_simp
      replace KBq := hid (KBq.out.far (p := ⟨g, 0, none⟩) (by dsimp only; exact HGX.out) (.slice (some ⟨b1, 0, none⟩) (0 + 1) cap1))
      clear e0 f0
      refine hK.out _ _ (bk3 KBq.out) (fun hHeld => ?_)
      clear hK K
      try simp only [Act.put, List.setIfInBounds_toArray, List.set_cons_zero, List.set_cons_succ]
      refine wpAnyH_done (by kernel_rfl) ?_ _
      clear hHeld
      have HTb := hid (show S b1 ∨ w.heap.size ≤ b1 from HB1.out.elim (fun e => .inr (by rw [e]; exact HFw.out)) (fun e => HTV.out b1 e))
      have HFz := hid ((HFq.out.trans (HbF.out _ HTV.out)).trans (Fr.put (p := ⟨g, 0, none⟩) HTg.out (.slice (some ⟨b1, 0, none⟩) (0 + 1) cap1)))
      generalize wq2.setCell ⟨g, 0, none⟩ (.slice (some ⟨b1, 0, none⟩) (0 + 1) cap1) = wf at *
      have c0 := HHM.out.q.cell 0
      simp only [List.getElem?_toArray, List.getElem?_cons_zero] at c0
      rw [HLn1.out] at c0
      obtain ⟨z0, z1, z2⟩ := bk3 KBq.out
      clear HFq HbF HB1 HFw HPq
      go_wp2_with fail
      have P1 := hid (put_any g b1 (w.heap.size + 1) cap1 0 x ([] ++ [x]) Y1 N lim tm pu wf HHM.out (by rw [HLn1.out]; omega) (by rw [HLn1.out]; omega) HX.out (by omega))
      refine P1.out.mono ?_
      rintro e w5 ⟨rfl, M5, F5⟩
      rw [HSE.out] at M5
      have HM5 := hid M5
      have HF5 := hid F5
      clear M5 F5 P1 c0 z0 z1 z2
      go_wp2_with fail
      have U1 := hid (up_any g b1 (w.heap.size + 1) cap1 0 ([] ++ [x]) Y1 (N + 1) lim tm pu w5 HM5.out (by rw [HLn1.out]; omega) (by rw [HLn1.out]; omega) HI.out (by omega) (by rw [HLn1.out]; exact HUP.out))
      refine U1.out.mono ?_
      rintro e w6 ⟨rfl, L', N', P', hh', hN', M6, F6⟩
      have HM6 := hid (And.intro P' (And.intro hh' (And.intro hN' (And.intro M6 F6))))
      clear P' hh' hN' M6 F6 U1
      go_wp2_with fail
      go_end0
      obtain ⟨P', hh', hN', M6, F6⟩ := HM6.out
      have hsub : ∀ k, Qs g b1 (w.heap.size + 1) k → S k ∨ w.heap.size ≤ k := by
        rintro k (rfl | rfl | rfl)
        · exact HTg.out
        · exact HTb.out
        · exact HTm.out
      have HF6 := HFz.out.trans ((HF5.out.sub hsub).trans (F6.sub hsub))
      exact ⟨rfl, _, L', N', ⟨⟨HTg.out, M6.lts.1⟩, fun k hk => hk.2, .inr ⟨b1, (w.heap.size + 1), cap1, Y1, M6, ⟨HTb.out, M6.lts.2.1⟩, ⟨HTm.out, M6.lts.2.2⟩⟩⟩, P', hh', by omega, Gr.of HF6⟩
  · have KG := hid ((M.next HB0.out).q)
    have c1 := KG.out.cell 1
    simp only [List.getElem?_toArray, List.getElem?_cons_zero, List.getElem?_cons_succ] at c1
    have MN := eql_map_some
    have HM := hid M
    have HS := hid (And.intro hSb hSm)
    obtain ⟨_, hbl, hml⟩ := M.lts
    generalize hn : L.length = n at *
    have HNn := hid hn
    clear M hSb hSm hn
    go_enter Tryd.func39, Tryd.ntmps39
    go_wp2_with fail
    generalize w.alloc (.cells #[.int .i64 x.at_, .int .i64 x.id, .int .i64 x.item] 76) = wc at *
    have HPc : Hid (PreM wc g (.slice (some ⟨b, 0, none⟩) n cap) m L N lim tm pu) := hid (by
      have h := (HM.out.next HB0.out).pre
      rw [HNn.out] at h
      exact h)
    have KBc : Hid (Bk wc w.heap.size 76 #[.int .i64 x.at_, .int .i64 x.id, .int .i64 x.item]) := KB0
    have HFc : Hid (Fr (fun k => S k ∨ w.heap.size ≤ k) w wc) := hid (Fr.of_below HB0.out)
    have HTg : Hid (S g ∨ w.heap.size ≤ g) := hid (.inl HQ.out.ing)
    have HTm : Hid (S m ∨ w.heap.size ≤ m) := hid (.inl HS.out.2)
    have HTV : Hid (∀ k, Value.ownBlock (.slice (some ⟨b, 0, none⟩) n cap) = some k → S k ∨ w.heap.size ≤ k) := hid (fun k h => by
      obtain rfl : b = k := by simpa [Value.ownBlock] using h
      exact .inl HS.out.1)
    have HBO : Hid (Value.ownBlock (.slice (some ⟨b, 0, none⟩) n cap) ≠ some w.heap.size) := hid (fun h => by
      have e : b = w.heap.size := by simpa [Value.ownBlock] using h
      omega)
    have HGX : Hid (w.heap.size ≠ g) := hid (by omega)
    have HLn1 : Hid ((L ++ [x]).length = n + 1) := hid (by rw [List.length_append, HNn.out]; rfl)
    have HSE : Hid ((L ++ [x]).set n x = L ++ [x]) := hid (by rw [← HNn.out, List.set_append_right _ _ (Nat.le_refl _), Nat.sub_self]; rfl)
    have HUP : Hid (UpF (ats (L ++ [x])) (n + 1) n) := hid (by
      have h := push_up (L := L) (x := x) (by rw [HNn.out]; exact HH.out)
      rw [HNn.out] at h
      exact h)
    clear c1 KG MN
    refine wp_region_held_drew (S := (fun w' => (w'.cell? ⟨w.heap.size, 0, none⟩ = some (.int .i64 x.at_)) ∧ (w'.cell? ⟨w.heap.size, 1, none⟩ = some (.int .i64 x.id)) ∧ (w'.cell? ⟨w.heap.size, 2, none⟩ = some (.int .i64 x.item)))) (by kernel_rfl) (bk3 (Bk.drew KBc.out)) (fun hHeld => ?_)
    have HBd : Hid (Below wc.heap.size wc wc.drew) := hid ((Below.refl _ _).drew)
    have HPq := hid (HPc.out.next HBd.out)
    have KBq := hid (KBc.out.next HBd.out)
    have HFq := hid (HFc.out.trans (Fr.of_below HBd.out))
    clear HBd
    generalize wc.drew = wd0 at *
    refine wpAnyH_take (i := 0) (oi := ⟨some 14, _, _, _, _, _⟩) (v := ?_) rfl (by kernel_rfl) (by kernel_rfl) (by kernel_rfl) (fun _ _ _ h => h) (Or.inl ⟨by rfl, ?_⟩) (by assumption) ?_
    rotate_left
    focus
      intro w hSw
      try dsimp only at hSw
      go_simp
      first
      | done
      | with_reducible rfl
    try simp only [Act.put, List.setIfInBounds_toArray, List.set_cons_zero, List.set_cons_succ]
    refine wpAnyH_take (i := 1) (oi := ⟨some 15, _, _, _, _, _⟩) (v := ?_) rfl (by kernel_rfl) (by kernel_rfl) (by kernel_rfl) (fun _ _ _ h => h) (Or.inl ⟨by rfl, ?_⟩) (by assumption) ?_
    rotate_left
    focus
      intro w hSw
      try dsimp only at hSw
      go_simp
      first
      | done
      | with_reducible rfl
    try simp only [Act.put, List.setIfInBounds_toArray, List.set_cons_zero, List.set_cons_succ]
    refine wpAnyH_take (i := 2) (oi := ⟨some 16, _, _, _, _, _⟩) (v := ?_) rfl (by kernel_rfl) (by kernel_rfl) (by kernel_rfl) (fun _ _ _ h => h) (Or.inl ⟨by rfl, ?_⟩) (by assumption) ?_
    rotate_left
    focus
      intro w hSw
      try dsimp only at hSw
      go_simp
      first
      | done
      | with_reducible rfl
    try simp only [Act.put, List.setIfInBounds_toArray, List.set_cons_zero, List.set_cons_succ]
    refine wpAnyH_take (i := 3) (oi := ⟨some 17, _, _, _, _, _⟩) (v := ?_) rfl (by kernel_rfl) (by kernel_rfl) (by kernel_rfl) (fun _ _ _ h => h) (Or.inl ⟨by rfl, ?_⟩) (by assumption) ?_
    rotate_left
    focus
      intro w hSw
      try dsimp only at hSw
      go_simp
      first
      | done
      | with_reducible rfl
    try simp only [Act.put, List.setIfInBounds_toArray, List.set_cons_zero, List.set_cons_succ]
    refine wpAnyH_take (i := 5) (oi := ⟨some 19, _, _, _, _, _⟩) (v := ?_) rfl (by kernel_rfl) (by kernel_rfl) (by kernel_rfl) (fun _ _ _ h => h) (Or.inl ⟨by rfl, ?_⟩) (by assumption) ?_
    rotate_left
    focus
      intro w hSw
      try dsimp only at hSw
      go_simp
      first
      | done
      | with_reducible rfl
    try simp only [Act.put, List.setIfInBounds_toArray, List.set_cons_zero, List.set_cons_succ]
    refine wpAnyH_ready (rs := [4, 6]) (by kernel_rfl) (by simp) ?_
    refine AllReadyH.cons (o := ⟨some 18, _, _, _, _, _⟩) rfl (fun K hK => ?_) (AllReadyH.cons (o := ⟨some 20, _, _, _, _, _⟩) rfl (fun K hK => ?_) AllReadyH.nil)
    · have c0 := HPq.out.q.cell 0
      simp only [List.getElem?_toArray, List.getElem?_cons_zero] at c0
      go_simp
      clear c0
      refine hK.out _ _ (bk3 KBq.out) (fun hHeld => ?_)
      clear hK K
      try simp only [Act.put, List.setIfInBounds_toArray, List.set_cons_zero, List.set_cons_succ]
      refine wpAnyH_ready (rs := [6]) (by kernel_rfl) (by simp) ?_
      refine AllReadyH.cons (o := ⟨some 20, _, _, _, _, _⟩) rfl (fun K hK => ?_) AllReadyH.nil
      go_simp
      have KS := hid (Bk.new wd0 76 #[.int .i64 x.at_, .int .i64 x.id, .int .i64 x.item])
      have BA := (Below.refl wd0.heap.size wd0).alloc (Nat.le_refl _) (.cells #[.int .i64 x.at_, .int .i64 x.id, .int .i64 x.item] 76)
      replace HPq := hid (HPq.out.next BA)
      replace KBq := hid (KBq.out.next BA)
      replace HFq := hid (HFq.out.trans (Fr.of_below BA))
      clear BA
      generalize wd0.alloc (.cells #[.int .i64 x.at_, .int .i64 x.id, .int .i64 x.item] 76) = wq1 at *
      generalize wd0.heap.size = s1 at *
      refine hK.out _ _ (bk3 KBq.out) (fun hHeld => ?_)
      clear hK K
      try simp only [Act.put, List.setIfInBounds_toArray, List.set_cons_zero, List.set_cons_succ]
      refine wpAnyH_ready (rs := [7]) (by kernel_rfl) (by simp) ?_
      refine AllReadyH.cons (o := ⟨some 21, _, _, _, _, _⟩) rfl (fun K hK => ?_) AllReadyH.nil
      refine step_app_ev (by rfl) (.tmp 18) (.tmp 20) (by rfl) _ n L (by rfl) HPq.out.own HNn.out s1 x (by rfl) KS.out (by omega) ?_
      intro b1 cap1 wq2 O1 hg1 hat1 hb1
      have HFw := hid (show w.heap.size ≤ wq1.heap.size from HFq.out.size)
      have hDN := HPq.out.done O1 hg1 hat1 HNn.out
      obtain ⟨Y1, hHM, hb1w⟩ := hDN
      have HHM := hid hHM
      have HbF := hid (fun (T : Nat → Prop) (h1 : ∀ k, Value.ownBlock (.slice (some ⟨b, 0, none⟩) n cap) = some k → T k) => fr_grown h1 hg1)
      have HB1 := hid (show b1 = wq1.heap.size ∨ Value.ownBlock (.slice (some ⟨b, 0, none⟩) n cap) = some b1 from hat1.symm)
      replace KBq := hid (grown_bk hg1 KBq.out (HPq.out.ne_box hg1 KBq.out HBO.out))
      have K1 := grown_bk hg1 HPq.out.q (HPq.out.ne_g)
      have e0 := K1.cell 0
      have f0 := K1.free 0
      simp only [List.getElem?_toArray, List.getElem?_cons_zero] at e0
      clear O1 hg1 hat1 hb1 hHM K1 KS
      refine hK.out _ _ (bk3 KBq.out) (fun hHeld => ?_)
      clear hK K
      try simp only [Act.put, List.setIfInBounds_toArray, List.set_cons_zero, List.set_cons_succ]
      refine wpAnyH_take (i := 8) (oi := ⟨some 22, _, _, _, _, _⟩) (v := ?_) rfl (by kernel_rfl) (by kernel_rfl) (by kernel_rfl) (fun _ _ _ h => h) (Or.inl ⟨by rfl, ?_⟩) (by assumption) ?_
      rotate_left
      focus
        intro w hSw
        try dsimp only at hSw
        go_simp
        first
        | done
        | with_reducible rfl
      try simp only [Act.put, List.setIfInBounds_toArray, List.set_cons_zero, List.set_cons_succ]
      refine wpAnyH_take (i := 9) (oi := ⟨some 23, _, _, _, _, _⟩) (v := ?_) rfl (by kernel_rfl) (by kernel_rfl) (by kernel_rfl) (fun _ _ _ h => h) (Or.inl ⟨by rfl, ?_⟩) (by assumption) ?_
      rotate_left
      focus
        intro w hSw
        try dsimp only at hSw
        go_simp
        first
        | done
        | with_reducible rfl
      try simp only [Act.put, List.setIfInBounds_toArray, List.set_cons_zero, List.set_cons_succ]
      refine wpAnyH_ready (rs := [10]) (by kernel_rfl) (by simp) ?_
      refine AllReadyH.cons (o := ⟨none, _, _, _, _, _⟩) rfl (fun K hK => ?_) AllReadyH.nil
      go_simp
      replace KBq := hid (KBq.out.far (p := ⟨g, 0, none⟩) (by dsimp only; exact HGX.out) (.slice (some ⟨b1, 0, none⟩) (n + 1) cap1))
      clear e0 f0
      refine hK.out _ _ (bk3 KBq.out) (fun hHeld => ?_)
      clear hK K
      try simp only [Act.put, List.setIfInBounds_toArray, List.set_cons_zero, List.set_cons_succ]
      refine wpAnyH_done (by kernel_rfl) ?_ _
      clear hHeld
      have HTb := hid (show S b1 ∨ w.heap.size ≤ b1 from HB1.out.elim (fun e => .inr (by rw [e]; exact HFw.out)) (fun e => HTV.out b1 e))
      have HFz := hid ((HFq.out.trans (HbF.out _ HTV.out)).trans (Fr.put (p := ⟨g, 0, none⟩) HTg.out (.slice (some ⟨b1, 0, none⟩) (n + 1) cap1)))
      generalize wq2.setCell ⟨g, 0, none⟩ (.slice (some ⟨b1, 0, none⟩) (n + 1) cap1) = wf at *
      have c0 := HHM.out.q.cell 0
      simp only [List.getElem?_toArray, List.getElem?_cons_zero] at c0
      rw [HLn1.out] at c0
      obtain ⟨z0, z1, z2⟩ := bk3 KBq.out
      clear HFq HbF HB1 HFw HPq
      go_wp2_with fail
      have P1 := hid (put_any g b1 m cap1 n x (L ++ [x]) Y1 N lim tm pu wf HHM.out (by rw [HLn1.out]; omega) (by rw [HLn1.out]; omega) HX.out (by omega))
      refine P1.out.mono ?_
      rintro e w5 ⟨rfl, M5, F5⟩
      rw [HSE.out] at M5
      have HM5 := hid M5
      have HF5 := hid F5
      clear M5 F5 P1 c0 z0 z1 z2
      go_wp2_with fail
      have U1 := hid (up_any g b1 m cap1 n (L ++ [x]) Y1 (N + 1) lim tm pu w5 HM5.out (by rw [HLn1.out]; omega) (by rw [HLn1.out]; omega) HI.out (by omega) (by rw [HLn1.out]; exact HUP.out))
      refine U1.out.mono ?_
      rintro e w6 ⟨rfl, L', N', P', hh', hN', M6, F6⟩
      have HM6 := hid (And.intro P' (And.intro hh' (And.intro hN' (And.intro M6 F6))))
      clear P' hh' hN' M6 F6 U1
      go_wp2_with fail
      go_end0
      obtain ⟨P', hh', hN', M6, F6⟩ := HM6.out
      have hsub : ∀ k, Qs g b1 m k → S k ∨ w.heap.size ≤ k := by
        rintro k (rfl | rfl | rfl)
        · exact HTg.out
        · exact HTb.out
        · exact HTm.out
      have HF6 := HFz.out.trans ((HF5.out.sub hsub).trans (F6.sub hsub))
      exact ⟨rfl, _, L', N', ⟨⟨HTg.out, M6.lts.1⟩, fun k hk => hk.2, .inr ⟨b1, m, cap1, Y1, M6, ⟨HTb.out, M6.lts.2.1⟩, ⟨HTm.out, M6.lts.2.2⟩⟩⟩, P', hh', by omega, Gr.of HF6⟩
    · go_simp
      have KS := hid (Bk.new wd0 76 #[.int .i64 x.at_, .int .i64 x.id, .int .i64 x.item])
      have BA := (Below.refl wd0.heap.size wd0).alloc (Nat.le_refl _) (.cells #[.int .i64 x.at_, .int .i64 x.id, .int .i64 x.item] 76)
      replace HPq := hid (HPq.out.next BA)
      replace KBq := hid (KBq.out.next BA)
      replace HFq := hid (HFq.out.trans (Fr.of_below BA))
      clear BA
      generalize wd0.alloc (.cells #[.int .i64 x.at_, .int .i64 x.id, .int .i64 x.item] 76) = wq0 at *
      generalize wd0.heap.size = s1 at *
      refine hK.out _ _ (bk3 KBq.out) (fun hHeld => ?_)
      clear hK K
      try simp only [Act.put, List.setIfInBounds_toArray, List.set_cons_zero, List.set_cons_succ]
      refine wpAnyH_ready (rs := [4]) (by kernel_rfl) (by simp) ?_
      refine AllReadyH.cons (o := ⟨some 18, _, _, _, _, _⟩) rfl (fun K hK => ?_) AllReadyH.nil
      have c0 := HPq.out.q.cell 0
      simp only [List.getElem?_toArray, List.getElem?_cons_zero] at c0
      go_simp
      clear c0
      refine hK.out _ _ (bk3 KBq.out) (fun hHeld => ?_)
      clear hK K
      try simp only [Act.put, List.setIfInBounds_toArray, List.set_cons_zero, List.set_cons_succ]
      refine wpAnyH_ready (rs := [7]) (by kernel_rfl) (by simp) ?_
      refine AllReadyH.cons (o := ⟨some 21, _, _, _, _, _⟩) rfl (fun K hK => ?_) AllReadyH.nil
      refine step_app_ev (by rfl) (.tmp 18) (.tmp 20) (by rfl) _ n L (by rfl) HPq.out.own HNn.out s1 x (by rfl) KS.out (by omega) ?_
      intro b1 cap1 wq2 O1 hg1 hat1 hb1
      have HFw := hid (show w.heap.size ≤ wq0.heap.size from HFq.out.size)
      have hDN := HPq.out.done O1 hg1 hat1 HNn.out
      obtain ⟨Y1, hHM, hb1w⟩ := hDN
      have HHM := hid hHM
      have HbF := hid (fun (T : Nat → Prop) (h1 : ∀ k, Value.ownBlock (.slice (some ⟨b, 0, none⟩) n cap) = some k → T k) => fr_grown h1 hg1)
      have HB1 := hid (show b1 = wq0.heap.size ∨ Value.ownBlock (.slice (some ⟨b, 0, none⟩) n cap) = some b1 from hat1.symm)
      replace KBq := hid (grown_bk hg1 KBq.out (HPq.out.ne_box hg1 KBq.out HBO.out))
      have K1 := grown_bk hg1 HPq.out.q (HPq.out.ne_g)
      have e0 := K1.cell 0
      have f0 := K1.free 0
      simp only [List.getElem?_toArray, List.getElem?_cons_zero] at e0
      clear O1 hg1 hat1 hb1 hHM K1 KS
      refine hK.out _ _ (bk3 KBq.out) (fun hHeld => ?_)
      clear hK K
      try simp only [Act.put, List.setIfInBounds_toArray, List.set_cons_zero, List.set_cons_succ]
      refine wpAnyH_take (i := 8) (oi := ⟨some 22, _, _, _, _, _⟩) (v := ?_) rfl (by kernel_rfl) (by kernel_rfl) (by kernel_rfl) (fun _ _ _ h => h) (Or.inl ⟨by rfl, ?_⟩) (by assumption) ?_
      rotate_left
      focus
        intro w hSw
        try dsimp only at hSw
        go_simp
        first
        | done
        | with_reducible rfl
      try simp only [Act.put, List.setIfInBounds_toArray, List.set_cons_zero, List.set_cons_succ]
      refine wpAnyH_take (i := 9) (oi := ⟨some 23, _, _, _, _, _⟩) (v := ?_) rfl (by kernel_rfl) (by kernel_rfl) (by kernel_rfl) (fun _ _ _ h => h) (Or.inl ⟨by rfl, ?_⟩) (by assumption) ?_
      rotate_left
      focus
        intro w hSw
        try dsimp only at hSw
        go_simp
        first
        | done
        | with_reducible rfl
      try simp only [Act.put, List.setIfInBounds_toArray, List.set_cons_zero, List.set_cons_succ]
      refine wpAnyH_ready (rs := [10]) (by kernel_rfl) (by simp) ?_
      refine AllReadyH.cons (o := ⟨none, _, _, _, _, _⟩) rfl (fun K hK => ?_) AllReadyH.nil
      go_simp
      replace KBq := hid (KBq.out.far (p := ⟨g, 0, none⟩) (by dsimp only; exact HGX.out) (.slice (some ⟨b1, 0, none⟩) (n + 1) cap1))
      clear e0 f0
      refine hK.out _ _ (bk3 KBq.out) (fun hHeld => ?_)
      clear hK K
      try simp only [Act.put, List.setIfInBounds_toArray, List.set_cons_zero, List.set_cons_succ]
      refine wpAnyH_done (by kernel_rfl) ?_ _
      clear hHeld
      have HTb := hid (show S b1 ∨ w.heap.size ≤ b1 from HB1.out.elim (fun e => .inr (by rw [e]; exact HFw.out)) (fun e => HTV.out b1 e))
      have HFz := hid ((HFq.out.trans (HbF.out _ HTV.out)).trans (Fr.put (p := ⟨g, 0, none⟩) HTg.out (.slice (some ⟨b1, 0, none⟩) (n + 1) cap1)))
      generalize wq2.setCell ⟨g, 0, none⟩ (.slice (some ⟨b1, 0, none⟩) (n + 1) cap1) = wf at *
      have c0 := HHM.out.q.cell 0
      simp only [List.getElem?_toArray, List.getElem?_cons_zero] at c0
      rw [HLn1.out] at c0
      obtain ⟨z0, z1, z2⟩ := bk3 KBq.out
      clear HFq HbF HB1 HFw HPq
      go_wp2_with fail
      have P1 := hid (put_any g b1 m cap1 n x (L ++ [x]) Y1 N lim tm pu wf HHM.out (by rw [HLn1.out]; omega) (by rw [HLn1.out]; omega) HX.out (by omega))
      refine P1.out.mono ?_
      rintro e w5 ⟨rfl, M5, F5⟩
      rw [HSE.out] at M5
      have HM5 := hid M5
      have HF5 := hid F5
      clear M5 F5 P1 c0 z0 z1 z2
      go_wp2_with fail
      have U1 := hid (up_any g b1 m cap1 n (L ++ [x]) Y1 (N + 1) lim tm pu w5 HM5.out (by rw [HLn1.out]; omega) (by rw [HLn1.out]; omega) HI.out (by omega) (by rw [HLn1.out]; exact HUP.out))
      refine U1.out.mono ?_
      rintro e w6 ⟨rfl, L', N', P', hh', hN', M6, F6⟩
      have HM6 := hid (And.intro P' (And.intro hh' (And.intro hN' (And.intro M6 F6))))
      clear P' hh' hN' M6 F6 U1
      go_wp2_with fail
      go_end0
      obtain ⟨P', hh', hN', M6, F6⟩ := HM6.out
      have hsub : ∀ k, Qs g b1 m k → S k ∨ w.heap.size ≤ k := by
        rintro k (rfl | rfl | rfl)
        · exact HTg.out
        · exact HTb.out
        · exact HTm.out
      have HF6 := HFz.out.trans ((HF5.out.sub hsub).trans (F6.sub hsub))
      exact ⟨rfl, _, L', N', ⟨⟨HTg.out, M6.lts.1⟩, fun k hk => hk.2, .inr ⟨b1, m, cap1, Y1, M6, ⟨HTb.out, M6.lts.2.1⟩, ⟨HTm.out, M6.lts.2.2⟩⟩⟩, P', hh', by omega, Gr.of HF6⟩
end Go.Proofs.YtjeojnlkjecojaaDoor
