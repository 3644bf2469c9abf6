/- Messages that a chain tagged, heard and released: plain law; what stays of memory. -/
import Derived.Test.YtmegiodajkeahaaDoorChLaw3
import Derived.Test.YtmegiodajkeahaaDoorOwn
namespace Go.Proofs.YtmegiodajkeahaaDoor
open Go Go.RowKit
namespace Pl
/-- The message number n of an interval. -/
def ccM (last : Int × Int) (b : List Int) (i : Int) (n : Nat) : Msg := ⟨i, b ++ [(n : Int)], mtag (dnN last (10 - i).toNat) (b ++ [(n : Int)])⟩
/-- The first n of them. -/
def ccL (last : Int × Int) (b : List Int) (of : List Int) (n : Nat) : List Msg := (of.take n).mapIdx fun j i => ccM last b i j
theorem ccL_zero (last : Int × Int) (b of : List Int) : ccL last b of 0 = [] := rfl
theorem ccL_len (last : Int × Int) (b of : List Int) (n : Nat) (h : n ≤ of.length) : (ccL last b of n).length = n := by unfold ccL; simp; omega
theorem ccL_next (last : Int × Int) (b of : List Int) (n : Nat) (i : Int) (h : of[n]? = some i) : ccL last b of (n + 1) = ccL last b of n ++ [ccM last b i n] := by
  have hl : n < of.length := (List.getElem?_eq_some_iff.1 h).1
  unfold ccL
  rw [List.take_add_one, h]
  simp only [Option.toList_some, List.mapIdx_append, List.length_take, Nat.min_eq_left (Nat.le_of_lt hl), List.mapIdx_cons, List.mapIdx_nil, Nat.zero_add]
theorem ccL_mem (last : Int × Int) (b of : List Int) (n : Nat) (m : Msg) (h : m ∈ ccL last b of n) : ∃ (i : Int) (j : Nat), of[j]? = some i ∧ j < n ∧ m = ccM last b i j := by
  unfold ccL at h
  obtain ⟨j, hj, rfl⟩ := List.mem_mapIdx.1 h
  have hl : j < (of.take n).length := hj
  rw [List.length_take] at hl
  refine ⟨(of.take n)[j], j, ?_, by omega, rfl⟩
  rw [List.getElem_take]
  exact List.getElem?_eq_getElem (by omega)
theorem cc_ivl (i : Int) (h1 : 1 ≤ i) (h2 : i ≤ 10) : ivl 1000 100 2 10 (1000 + 100 * i) = i + 1 := by
  rw [ivl_good cf0 (by omega)]
  have : (1000 + 100 * i - 1000) / 100 = i := by omega
  rw [this]
  split <;> omega
theorem cc_hErr (key : Int × Int) (ms : List Msg) (i : Int) (h1 : 1 ≤ i) (h2 : i ≤ 10) (hl : ms.length < 64) : hErr 1000 100 2 10 ⟨0, key, ms⟩ i 0 (1000 + 100 * i) = 0 :=
  hErr_ok h1 h2 ⟨by omega, by omega, by omega⟩ (by rw [cc_ivl i h1 h2]; omega) (by show (0 : Int) < i; omega) hl
theorem cc_ok (last : Int × Int) (b of : List Int) (n : Nat) (hn : n ≤ 30) (hb : okB b) (hb2 : b.length ≤ 100) (hof : ∀ j i, of[j]? = some i → j < n → 1 ≤ i ∧ i ≤ 10) (key : Int × Int) : okR 10 ⟨0, key, ccL last b of n⟩ :=
  ⟨Int.le_refl _, by show (0 : Int) ≤ 10; decide, by
    show (ccL last b of n).length ≤ 64
    unfold ccL
    simp
    omega, fun m hm => by
    obtain ⟨i, j, hi, hj, rfl⟩ := ccL_mem last b of n m hm
    obtain ⟨h1, h2⟩ := hof j i hi hj
    refine ⟨by show (0 : Int) < i; omega, h2, ?_, by show (b ++ [(j : Int)]).length ≤ 1000000; simp; omega⟩
    intro x hx
    rcases List.mem_append.1 hx with hx | hx
    · exact hb.1 x hx
    · simp at hx; omega⟩
theorem cc_d (last : Int × Int) (ms : List Msg) : dErr 10 ⟨0, dnN last 10, ms⟩ 10 last = 0 := by
  generalize hk : dnN last 10 = k
  unfold dErr
  simp only
  rw [if_neg (by decide), if_neg (by decide), show ((10 : Int) - 0).toNat = 10 from rfl, if_pos hk]
theorem cc_rel (last : Int × Int) (b of : List Int) (n : Nat) (hof : ∀ j i, of[j]? = some i → j < n → 1 ≤ i ∧ i ≤ 10) : ∀ m ∈ ccL last b of n, relF 10 last m = true ∧ stayF 10 m = false := fun m hm => by
  obtain ⟨i, j, hi, hj, rfl⟩ := ccL_mem last b of n m hm
  obtain ⟨h1, h2⟩ := hof j i hi hj
  constructor
  · unfold relF rightB ccM
    simp only [Bool.and_eq_true, decide_eq_true_eq, beq_self_eq_true, and_true]
    exact h2
  · unfold stayF ccM
    simp only [decide_eq_false_iff_not]
    omega
theorem cc_out (last : Int × Int) (b of : List Int) (n : Nat) (hof : ∀ j i, of[j]? = some i → j < n → 1 ≤ i ∧ i ≤ 10) : dOut 10 last (ccL last b of n) = (ccL last b of n).map Msg.b := by
  unfold dOut
  rw [List.filter_eq_self.2 (fun m hm => (cc_rel last b of n hof m hm).1)]
theorem cc_st (last key : Int × Int) (b of : List Int) (n : Nat) (hof : ∀ j i, of[j]? = some i → j < n → 1 ≤ i ∧ i ≤ 10) : dSt ⟨0, key, ccL last b of n⟩ 10 last = ⟨10, last, []⟩ := by
  unfold dSt
  simp only
  rw [List.filter_eq_nil_iff.2 (fun m hm => by rw [(cc_rel last b of n hof m hm).2]; decide)]
theorem cc_hst (key : Int × Int) (last : Int × Int) (b of : List Int) (n : Nat) (i : Int) (h : of[n]? = some i) : hSt ⟨0, key, ccL last b of n⟩ (ccM last b i n) = ⟨0, key, ccL last b of (n + 1)⟩ := by
  unfold hSt
  simp only
  rw [ccL_next last b of n i h]
end Pl
theorem RcvS.grown {w w' : World} {S : Nat → Prop} {g : Nat} {st sp de co : Int} {s : Pl.Rst} {r : Option Nat} (h : RcvS w S g st sp de co s) (hg : w.grownBy w' r) (hr : ∀ k, r = some k → ¬ S k) : RcvS w' S g st sp de co s :=
  h.far (T := fun k => r = some k) (T' := fun k => r = some k) ⟨hg.os, hg.tape, hg.output, hg.size, fun k hk hn => hg.block k hk (fun e => hn e.symm), fun _ _ h => h⟩ (fun k hk e => hr k e hk)
theorem AwS.grown {W w w' : World} {g : Nat} {K : List (Int × Int)} {r : Option Nat} (h : AwS W g K w) (hg : w.grownBy w' r) (hr : ∀ k, r = some k → W.heap.size ≤ k ∧ k ≠ g) (hW : 2 ≤ W.heap.size) : AwS W g K w' :=
  h.fr (S := fun k => r = some k) (S' := fun k => r = some k) ⟨hg.os, hg.tape, hg.output, hg.size, fun k hk hn => hg.block k hk (fun e => hn e.symm), fun _ _ h => h⟩ (fun k hk => (hr k hk).1) (fun e => (hr g e).2 rfl) hW
/-- A list of byte strings of the call's own: LM are where they lie; none of their blocks is in S. -/
structure Sent (w : World) (B : Nat) (S : Nat → Prop) (g : Nat) (v : Value) (LM : List Lm) : Prop where
  own : w.ownsRow B 41 1 v LM.length (LM.map slv)
  off : ∀ k, v.ownBlock = some k → ¬ S k ∧ k ≠ g
  byt : ∀ x ∈ LM, IsSl w x.2.1 .u8 x.1.b ∧ ∀ a, x.2.1 = some a → ¬ S a.block ∧ v.ownBlock ≠ some a.block
theorem Sent.nil_ (w : World) (B : Nat) (S : Nat → Prop) (g : Nat) : Sent w B S g (.slice none 0 0) [] := ⟨World.ownsRow_nil _ _ _ _, (fun k h => by cases h), (fun x h => by cases h)⟩
theorem Sent.next {w w' : World} {B : Nat} {S : Nat → Prop} {g : Nat} {v : Value} {LM : List Lm} (h : Sent w B S g v LM) (hb : Below w.heap.size w w') : Sent w' B S g v LM :=
  ⟨own_next h.own hb, h.off, fun x hx => ⟨(h.byt x hx).1.next hb, (h.byt x hx).2⟩⟩
/-- The receiver is called. -/
theorem Sent.fr {w w' : World} {B : Nat} {S S' : Nat → Prop} {g : Nat} {v : Value} {LM : List Lm} (h : Sent w B S g v LM) (F : Fr S S' w w') (hlt : ∀ x ∈ LM, ∀ a, x.2.1 = some a → a.block < w.heap.size) : Sent w' B S' g v LM := by
  refine ⟨⟨h.own.1, ?_⟩, fun k hk => ⟨fun e => (h.off k hk).1 (F.set k (World.ownsRow.lt h.own k hk).2 e), (h.off k hk).2⟩, fun x hx => ⟨F.isl (h.byt x hx).1 (fun a ha => ((h.byt x hx).2 a ha).1), fun a ha => ⟨fun e => ((h.byt x hx).2 a ha).1 (F.set _ (hlt x hx a ha) e), ((h.byt x hx).2 a ha).2⟩⟩⟩
  rcases h.own.2 with h2 | ⟨g', cap, cur, hv, hB, hh, r⟩
  · exact .inl h2
  · exact .inr ⟨g', cap, cur, hv, hB, F.bk (t := 41) hh (h.off g' (by rw [hv]; rfl)).1, r⟩
theorem Sent.bb {w : World} {B : Nat} {S : Nat → Prop} {g : Nat} {v : Value} {LM : List Lm} (h : Sent w B S g v LM) : IsBB w (fun k => ¬ S k) v (LM.map fun x => x.1.b) :=
  isBB_of_own h.own (fun k hk => (h.off k hk).1) (fun x hx => ⟨(h.byt x hx).1, fun a ha => ((h.byt x hx).2 a ha).1⟩)
theorem Sent.add {w w' : World} {B : Nat} {S : Nat → Prop} {g : Nat} {v v' : Value} {LM : List Lm} {x : Lm} {o : Obj} (h : Sent w B S g v LM) (hg : (w.alloc o).grownBy w' v.ownBlock)
    (O : w'.ownsRow B 41 1 v' (LM.length + 1) (LM.map slv ++ [slv x])) (hat : v'.ownBlock = v.ownBlock ∨ v'.ownBlock = some (w.alloc o).heap.size) (hx : IsSl w x.2.1 .u8 x.1.b)
    (hxo : ∀ a, x.2.1 = some a → ¬ S a.block ∧ v.ownBlock ≠ some a.block ∧ a.block < w.heap.size) (hlt : ∀ y ∈ LM, ∀ a, y.2.1 = some a → a.block < w.heap.size) (hS : ∀ k, S k → k < w.heap.size) (hgl : g < w.heap.size) : Sent w' B S g v' (LM ++ [x]) := by
  have hsz : (w.alloc o).heap.size = w.heap.size + 1 := by simp
  have hne : ∀ a : Addr, v.ownBlock ≠ some a.block → a.block < w.heap.size → v'.ownBlock ≠ some a.block := fun a h1 h2 e => by
    rcases hat with h3 | h3
    · exact h1 (h3 ▸ e)
    · rw [h3] at e
      have : (w.alloc o).heap.size = a.block := by simpa using e
      omega
  have BA : Below w.heap.size w (w.alloc o) := (Below.refl _ _).alloc (Nat.le_refl _) o
  refine ⟨by rw [List.length_append, List.map_append]; exact O, fun k hk => ?_, fun y hy => ?_⟩
  · rcases hat with h3 | h3
    · exact h.off k (h3 ▸ hk)
    · rw [h3] at hk
      obtain rfl : (w.alloc o).heap.size = k := by simpa using hk
      exact ⟨fun e => by have := hS _ e; omega, by omega⟩
  · rcases List.mem_append.1 hy with hy | hy
    · obtain ⟨a1, a2⟩ := h.byt y hy
      exact ⟨grown_isl hg (a1.next BA) (fun a ha => (a2 a ha).2), fun a ha => ⟨(a2 a ha).1, hne a (a2 a ha).2 (hlt y hy a ha)⟩⟩
    · simp only [List.mem_singleton] at hy
      subst hy
      exact ⟨grown_isl hg (hx.next BA) (fun a ha => (hxo a ha).2.1), fun a ha => ⟨(hxo a ha).1, hne a (hxo a ha).2.1 (hxo a ha).2.2⟩⟩
/-- What holds at the head of a round of ChainComplete. -/
structure CcI (W : World) (K : List (Int × Int)) (k0 last : Int × Int) (b of : List Int) (gr k : Nat) (sv : Value) (w : World) (S : Nat → Prop) (LM : List Lm) : Prop where
  aw : AwS W W.heap.size K w
  rc : RcvS w S gr 1000 100 2 10 ⟨0, k0, Pl.ccL last b of k⟩
  lo : ∀ j, S j → W.heap.size ≤ j
  hg : ¬ S W.heap.size
  st : Sent w W.heap.size S W.heap.size sv LM
  bs : LM.map (fun x => x.1.b) = (Pl.ccL last b of k).map Pl.Msg.b
  lt : ∀ x ∈ LM, ∀ a, x.2.1 = some a → a.block < w.heap.size
  of : ∀ j i, of[j]? = some i → j < k → 1 ≤ i ∧ i ≤ 10
def CcR (W : World) (K : List (Int × Int)) (k0 last : Int × Int) (b of : List Int) (gr k : Nat) (sv : Value) (w : World) : Prop := ∃ S LM, CcI W K k0 last b of gr k sv w S LM
end Go.Proofs.YtmegiodajkeahaaDoor
