/- The memory of a queue of package agenda; the small functions: before, key, Len. -/
import Derived.Test.YtjeojnlkjecojaaDoorLinkC10
import Derived.Test.YtjeojnlkjecojaaDoorHp
import Derived.Maps.OwnSet
import Derived.Laws.Build
namespace Go.Proofs.YtjeojnlkjecojaaDoor
open Go Go.RowKit Go.WideElems
open Hp
abbrev evV (x : Ev) : Value := .agg #[.int .i64 x.at_, .int .i64 x.id, .int .i64 x.item]
def ecell (x : Ev) : List Value := [.int .i64 x.at_, .int .i64 x.id, .int .i64 x.item]
def ecells (L : List Ev) : List Value := L.flatMap ecell
theorem ecells_cons (x : Ev) (L : List Ev) : ecells (x :: L) = ecell x ++ ecells L := rfl
theorem ecells_append (L M : List Ev) : ecells (L ++ M) = ecells L ++ ecells M := by unfold ecells; simp
theorem ecells_len : ∀ L : List Ev, (ecells L).length = L.length * 3
  | [] => rfl
  | x :: L => by rw [ecells_cons, List.length_append, ecells_len L]; simp [ecell]; omega
theorem ecells_get : ∀ (L : List Ev) (i : Nat) (x : Ev), L[i]? = some x → (ecells L)[i * 3]? = some (.int .i64 x.at_) ∧ (ecells L)[i * 3 + 1]? = some (.int .i64 x.id) ∧ (ecells L)[i * 3 + 2]? = some (.int .i64 x.item)
  | [], i, x, h => by simp at h
  | q :: L, 0, x, h => by simp at h; subst h; exact ⟨rfl, rfl, rfl⟩
  | q :: L, i + 1, x, h => by
    have ih := ecells_get L i x (by simpa using h)
    rw [ecells_cons, show (i + 1) * 3 = i * 3 + 1 + 1 + 1 from by omega]
    simpa [ecell] using ih
theorem ecells_set : ∀ (L : List Ev) (i : Nat) (x : Ev), (((ecells L).set (i * 3) (.int .i64 x.at_)).set (i * 3 + 1) (.int .i64 x.id)).set (i * 3 + 2) (.int .i64 x.item) = ecells (L.set i x)
  | [], i, x => by simp [ecells]
  | q :: L, 0, x => rfl
  | q :: L, i + 1, x => by
    have ih := ecells_set L i x
    rw [ecells_cons, show (i + 1) * 3 = i * 3 + 1 + 1 + 1 from by omega]
    simp only [ecell, List.cons_append, List.nil_append, List.set_cons_succ, ecells_cons]
    rw [ih]
theorem ecells_take (L : List Ev) (n : Nat) : (ecells L).take (n * 3) = ecells (L.take n) := by
  induction L generalizing n with
  | nil => simp [ecells]
  | cons q L ih =>
    cases n with
    | zero => simp [ecells]
    | succ n =>
      rw [ecells_cons, show (n + 1) * 3 = n * 3 + 1 + 1 + 1 from by omega, List.take_succ_cons, ecells_cons, ← ih n]
      simp [ecell]
/-- Outside the blocks of S what was there stays. -/
structure Fr (S : Nat → Prop) (w w' : World) : Prop where
  os : w'.os = w.os
  tape : w'.tape = w.tape
  output : w'.output = w.output
  size : w.heap.size ≤ w'.heap.size
  block : ∀ k, k < w.heap.size → ¬ S k → w'.heap[k]? = w.heap[k]?
theorem Fr.refl (S : Nat → Prop) (w : World) : Fr S w w := ⟨rfl, rfl, rfl, Nat.le_refl _, fun _ _ _ => rfl⟩
theorem Fr.trans {S : Nat → Prop} {a b c : World} (h : Fr S a b) (k : Fr S b c) : Fr S a c :=
  ⟨k.os.trans h.os, k.tape.trans h.tape, k.output.trans h.output, Nat.le_trans h.size k.size, fun i hi hs => (k.block i (Nat.lt_of_lt_of_le hi h.size) hs).trans (h.block i hi hs)⟩
theorem Fr.of_below {S : Nat → Prop} {w w' : World} (h : Below w.heap.size w w') : Fr S w w' := ⟨h.os, h.tape, h.output, h.size, fun i hi _ => h.block i hi⟩
theorem Fr.below {S : Nat → Prop} {w w' : World} {B : Nat} (h : Fr S w w') (hB : B ≤ w.heap.size) (hS : ∀ k, S k → B ≤ k) : Below B w w' :=
  ⟨h.os, h.tape, h.output, h.size, fun k hk => h.block k (by omega) (fun hs => by have := hS k hs; omega)⟩
theorem Fr.bk {S : Nat → Prop} {w w' : World} (h : Fr S w w') {g : Nat} {t : TypeId} {cs : Array Value} (hb : Bk w g t cs) (hg : ¬ S g) : Bk w' g t cs := (h.block g hb.lt hg).trans hb
theorem Fr.cell {S : Nat → Prop} {w w' : World} (h : Fr S w w') {p : Addr} (hp : p.block < w.heap.size) (hg : ¬ S p.block) : w'.cell? p = w.cell? p := World.cell?_of_block (w := w) (h.block p.block hp hg)
theorem Fr.grown {S : Nat → Prop} {w w' : World} {r : Nat} (hg : w.grownBy w' (some r)) (hr : S r) : Fr S w w' := ⟨hg.os, hg.tape, hg.output, hg.size, fun k hk hs => hg.block k hk (fun e => hs (by injection e with e; exact e ▸ hr))⟩
theorem Fr.put {S : Nat → Prop} {w : World} {p : Addr} (hp : S p.block) (u : Value) : Fr S w (w.setCell p u) :=
  ⟨rfl, rfl, rfl, by simp [World.setCell], fun k _ hs => Below.heap_setCell w p u k (fun e => hs (e ▸ hp))⟩
/-- The blocks of a queue. -/
abbrev Qs (g b m : Nat) (k : Nat) : Prop := k = g ∨ k = b ∨ k = m
/-- A queue at block g, its list at block b, its places at the map of block m (N at most). -/
structure HpM (w : World) (g b m cap : Nat) (L : List Ev) (Y : List Value) (N : Nat) (lim tm pu : Int) : Prop where
  q : Bk w g 73 #[.slice (some ⟨b, 0, none⟩) L.length cap, .map (some m), .int .i64 lim, .int .i64 tm, .int .i64 pu]
  l : Bk w b 76 (ecells L ++ Y).toArray
  sz : (ecells L ++ Y).length = cap * 3
  mp : ∃ D, w.ownsMap Tryd.prog 3 (plainElem (H := Unit) Tryd.prog 3) m N D
  gb : g ≠ b
  gm : g ≠ m
  bm : b ≠ m
  cm : cap ≤ maxLen
theorem own_map_below {w w' : World} {m N : Nat} {D : DataW Unit} (h : w.ownsMap Tryd.prog 3 (plainElem (H := Unit) Tryd.prog 3) m N D) (hb : Below w.heap.size w w') : w'.ownsMap Tryd.prog 3 (plainElem (H := Unit) Tryd.prog 3) m N D :=
  h.kept (row := none) ⟨hb.os, hb.tape, hb.output, hb.size, fun i hi _ => hb.block i hi⟩ (fun e => by cases e)
theorem HpM.next {w w' : World} {g b m cap : Nat} {L : List Ev} {Y : List Value} {N : Nat} {lim tm pu : Int} (h : HpM w g b m cap L Y N lim tm pu) (hb : Below w.heap.size w w') : HpM w' g b m cap L Y N lim tm pu := by
  obtain ⟨D, hD⟩ := h.mp
  exact ⟨h.q.next hb, h.l.next hb, h.sz, ⟨D, own_map_below hD hb⟩, h.gb, h.gm, h.bm, h.cm⟩
theorem HpM.elem {w : World} {g b m cap : Nat} {L : List Ev} {Y : List Value} {N : Nat} {lim tm pu : Int} (h : HpM w g b m cap L Y N lim tm pu) {i : Nat} {x : Ev} (hx : L[i]? = some x) :
    w.cell? ⟨b, i * 3, none⟩ = some (.int .i64 x.at_) ∧ w.cell? ⟨b, i * 3 + 1, none⟩ = some (.int .i64 x.id) ∧ w.cell? ⟨b, i * 3 + 2, none⟩ = some (.int .i64 x.item) := by
  obtain ⟨e1, e2, e3⟩ := ecells_get L i x hx
  have hl := ecells_len L
  have hi : i < L.length := (List.getElem?_eq_some_iff.1 hx).1
  rw [Bk.cell h.l, Bk.cell h.l, Bk.cell h.l]
  simp only [List.getElem?_toArray]
  rw [List.getElem?_append_left (by omega), List.getElem?_append_left (by omega), List.getElem?_append_left (by omega)]
  exact ⟨e1, e2, e3⟩
/-- One element is stored anew. -/
theorem HpM.store {w : World} {g b m cap : Nat} {L : List Ev} {Y : List Value} {N : Nat} {lim tm pu : Int} (h : HpM w g b m cap L Y N lim tm pu) (i : Nat) (x : Ev) (hi : i < L.length) :
    HpM (((w.setCell ⟨b, i * 3, none⟩ (.int .i64 x.at_)).setCell ⟨b, i * 3 + 1, none⟩ (.int .i64 x.id)).setCell ⟨b, i * 3 + 2, none⟩ (.int .i64 x.item)) g b m cap (L.set i x) Y N lim tm pu := by
  have hl := ecells_len L
  have e : ((((ecells L ++ Y).toArray.setIfInBounds (i * 3) (.int .i64 x.at_)).setIfInBounds (i * 3 + 1) (.int .i64 x.id)).setIfInBounds (i * 3 + 2) (.int .i64 x.item)) = (ecells (L.set i x) ++ Y).toArray := by
    rw [List.setIfInBounds_toArray, List.setIfInBounds_toArray, List.setIfInBounds_toArray, ← ecells_set L i x]
    rw [List.set_append_left _ _ (by omega), List.set_append_left _ _ (by simp; omega), List.set_append_left _ _ (by simp; omega)]
  obtain ⟨D, hD⟩ := h.mp
  refine ⟨?_, ?_, ?_, ⟨D, ((hD.setCell (fun e => h.bm (by simpa using e.symm)) _).setCell (fun e => h.bm (by simpa using e.symm)) _).setCell (fun e => h.bm (by simpa using e.symm)) _⟩, h.gb, h.gm, h.bm, h.cm⟩
  · rw [List.length_set]
    exact ((h.q.far h.gb _).far h.gb _).far h.gb _
  · have := ((h.l.put (i * 3) (.int .i64 x.at_)).put (i * 3 + 1) (.int .i64 x.id)).put (i * 3 + 2) (.int .i64 x.item)
    rw [e] at this
    exact this
  · have := h.sz
    rw [List.length_append, ecells_len] at this ⊢
    simpa using this
theorem mkI76 (x : Value) (w : World) : (Instr.makeInterface 76 x).run Tryd.prog w = .ok (.iface 76 x) w := run_makeInterface w 76 x (by kernel_rfl)
theorem key76 (v : Value) (w : World) : (callMethod (.iface 76 v) "timesync/agenda.key" #[]).run Tryd.prog w = .ok (.enter 63 #[v]) w := by kernel_rfl
theorem before76 (v u : Value) (w : World) : (callMethod (.iface 76 v) "timesync/agenda.before" #[u]).run Tryd.prog w = .ok (.enter 62 #[v, u]) w := by kernel_rfl
theorem key_any (x : Ev) (w : World) : Calls Tryd.prog 63 #[evV x] w fun e w' => e = .returned (.int .i64 x.id) ∧ Below w.heap.size w w' := by
  have K := Bk.new w 76 #[.int .i64 x.at_, .int .i64 x.id, .int .i64 x.item]
  have B := (Below.refl w.heap.size w).alloc (Nat.le_refl _) (.cells #[.int .i64 x.at_, .int .i64 x.id, .int .i64 x.item] 76)
  have c1 := K.cell 1
  simp only [List.getElem?_toArray, List.getElem?_cons_zero, List.getElem?_cons_succ] at c1
  go_enter Tryd.func63, Tryd.ntmps63
  go_wp2
  go_ret
  exact ⟨rfl, B⟩
theorem before_any (x y : Ev) (w : World) : Calls Tryd.prog 62 #[evV x, evV y] w fun e w' => e = .returned (.bool (bf x y)) ∧ Below w.heap.size w w' := by
  have B1 := (Below.refl w.heap.size w).alloc (Nat.le_refl _) (.cells #[.int .i64 x.at_, .int .i64 x.id, .int .i64 x.item] 76)
  have K1 := (Bk.new w 76 #[.int .i64 x.at_, .int .i64 x.id, .int .i64 x.item]).alloc (.cells #[.int .i64 y.at_, .int .i64 y.id, .int .i64 y.item] 76)
  have hz : (w.alloc (.cells #[.int .i64 x.at_, .int .i64 x.id, .int .i64 x.item] 76)).heap.size = w.heap.size + 1 := by simp
  have K2 := Bk.new (w.alloc (.cells #[.int .i64 x.at_, .int .i64 x.id, .int .i64 x.item] 76)) 76 #[.int .i64 y.at_, .int .i64 y.id, .int .i64 y.item]
  rw [hz] at K2
  have B2 := B1.alloc B1.size (.cells #[.int .i64 y.at_, .int .i64 y.id, .int .i64 y.item] 76)
  have c0 := K1.cell 0
  have c1 := K1.cell 1
  have d0 := K2.cell 0
  have d1 := K2.cell 1
  simp only [List.getElem?_toArray, List.getElem?_cons_zero, List.getElem?_cons_succ] at c0 c1 d0 d1
  clear hz K1 K2 B1
  obtain ⟨xa, xi, xt⟩ := x
  obtain ⟨ya, yi, yt⟩ := y
  simp only at B2 c0 c1 d0 d1
  by_cases h : xa = ya
  · subst h
    have hE := hid (show decide (xi < yi) = bf ⟨xa, xi, xt⟩ ⟨xa, yi, yt⟩ by unfold bf; rw [if_pos rfl])
    go_enter Tryd.func62, Tryd.ntmps62
    go_wp2
    go_ret
    exact ⟨ret_bool hE.out, B2⟩
  · have hE := hid (show decide (xa < ya) = bf ⟨xa, xi, xt⟩ ⟨ya, yi, yt⟩ by unfold bf; rw [if_neg h])
    go_enter Tryd.func62, Tryd.ntmps62
    go_wp2
    go_ret
    exact ⟨ret_bool hE.out, B2⟩
theorem len_any (g : Nat) (A : Option Addr) (n c : Nat) (w : World) (h : w.cell? ⟨g, 0, none⟩ = some (.slice A n c)) : Calls Tryd.prog 30 #[pt g] w fun e w' => e = .returned (.int .i64 (n : Int)) ∧ w = w' := by
  go_enter Tryd.func30, Tryd.ntmps30
  go_wp2
  go_ret
  exact ⟨rfl, rfl⟩
end Go.Proofs.YtjeojnlkjecojaaDoor
