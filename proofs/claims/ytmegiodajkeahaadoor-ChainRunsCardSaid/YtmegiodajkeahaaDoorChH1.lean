/- The memory of a receiver of package chain; a copy of bytes. -/
import Derived.Test.YtmegiodajkeahaaDoorChM2
import Derived.Test.YtmegiodajkeahaaDoorInts
import Derived.Laws.CopyOwn
namespace Go.Proofs.YtmegiodajkeahaaDoor
open Go Go.RowKit
/-- A message where it lies: its bytes lie at an address, with a capacity. -/
abbrev Lm := Pl.Msg × Option Addr × Nat
def mcell (x : Lm) : List Value := [.int .i64 x.1.i, .slice x.2.1 x.1.b.length x.2.2, .int .u64 x.1.t]
def mcells (L : List Lm) : List Value := L.flatMap mcell
theorem mcells_nil : mcells [] = [] := rfl
theorem mcells_cons (x : Lm) (L : List Lm) : mcells (x :: L) = mcell x ++ mcells L := rfl
theorem mcells_append (L M : List Lm) : mcells (L ++ M) = mcells L ++ mcells M := by unfold mcells; simp
theorem mcells_len : ∀ L : List Lm, (mcells L).length = L.length * 3
  | [] => rfl
  | x :: L => by rw [mcells_cons, List.length_append, mcells_len L]; simp [mcell]; omega
theorem mcells_one {L : List Lm} : ∀ u ∈ mcells L, u.oneCell' = true := by
  intro u hu
  unfold mcells at hu
  simp only [List.mem_flatMap] at hu
  obtain ⟨p, _, hp⟩ := hu
  simp [mcell] at hp
  rcases hp with rfl | rfl | rfl <;> rfl
theorem mcells_get : ∀ (L : List Lm) (i : Nat) (x : Lm), L[i]? = some x → (mcells L)[i * 3]? = some (.int .i64 x.1.i) ∧ (mcells L)[i * 3 + 1]? = some (.slice x.2.1 x.1.b.length x.2.2) ∧ (mcells L)[i * 3 + 2]? = some (.int .u64 x.1.t)
  | [], i, x, h => by simp at h
  | q :: L, 0, x, h => by simp at h; subst h; exact ⟨rfl, rfl, rfl⟩
  | q :: L, i + 1, x, h => by
    have ih := mcells_get L i x (by simpa using h)
    rw [mcells_cons, show (i + 1) * 3 = i * 3 + 1 + 1 + 1 from by omega]
    simpa [mcell] using ih
/-- A receiver at block g that owns the blocks of S. -/
structure RcvM (w : World) (S : Nat → Prop) (g : Nat) (st sp de co : Int) (s : Pl.Rst) (v : Value) (L : List Lm) : Prop where
  ms : L.map Prod.fst = s.ms
  bk : Bk w g 76 (rcv st sp de co s.kn s.key.1 s.key.2 v)
  own : w.ownsRow 0 82 3 v L.length (mcells L)
  ing : S g
  inh : ∀ h, v.ownBlock = some h → S h ∧ h ≠ g
  byt : ∀ x ∈ L, IsSl w x.2.1 .u8 x.1.b ∧ ∀ a, x.2.1 = some a → S a.block ∧ a.block ≠ g ∧ v.ownBlock ≠ some a.block
  lt : ∀ k, S k → k < w.heap.size
def RcvS (w : World) (S : Nat → Prop) (g : Nat) (st sp de co : Int) (s : Pl.Rst) : Prop := ∃ v L, RcvM w S g st sp de co s v L
theorem RcvM.next {w w' : World} {S : Nat → Prop} {g : Nat} {st sp de co : Int} {s : Pl.Rst} {v : Value} {L : List Lm} (h : RcvM w S g st sp de co s v L) (hb : Below w.heap.size w w') : RcvM w' S g st sp de co s v L :=
  ⟨h.ms, h.bk.next hb, ⟨h.own.1, by
    rcases h.own.2 with h2 | ⟨g, cap, cur, hv, hB, hh, r⟩
    · exact .inl h2
    · exact .inr ⟨g, cap, cur, hv, hB, Bk.next (t := 82) hh hb, r⟩⟩, h.ing, h.inh, fun x hx => ⟨(h.byt x hx).1.next hb, (h.byt x hx).2⟩, fun k hk => Nat.lt_of_lt_of_le (h.lt k hk) hb.size⟩
theorem RcvS.next {w w' : World} {S : Nat → Prop} {g : Nat} {st sp de co : Int} {s : Pl.Rst} (h : RcvS w S g st sp de co s) (hb : Below w.heap.size w w') : RcvS w' S g st sp de co s := by
  obtain ⟨v, L, h⟩ := h
  exact ⟨v, L, h.next hb⟩
/-- Another's call. -/
theorem RcvS.far {w w' : World} {S T T' : Nat → Prop} {g : Nat} {st sp de co : Int} {s : Pl.Rst} (h : RcvS w S g st sp de co s) (hb : Fr T T' w w') (hd : ∀ k, S k → ¬ T k) : RcvS w' S g st sp de co s := by
  obtain ⟨v, L, h⟩ := h
  refine ⟨v, L, ⟨h.ms, hb.bk h.bk (hd _ h.ing), ⟨h.own.1, ?_⟩, h.ing, h.inh, fun x hx => ⟨hb.isl (h.byt x hx).1 (fun a ha => hd _ ((h.byt x hx).2 a ha).1), (h.byt x hx).2⟩, fun k hk => Nat.lt_of_lt_of_le (h.lt k hk) hb.size⟩⟩
  rcases h.own.2 with h2 | ⟨g', cap, cur, hv, hB, hh, r⟩
  · exact .inl h2
  · exact .inr ⟨g', cap, cur, hv, hB, hb.bk (t := 82) hh (hd _ (h.inh g' (by rw [hv]; rfl)).1), r⟩
theorem RcvM.shape {w : World} {S : Nat → Prop} {g : Nat} {st sp de co : Int} {s : Pl.Rst} {v : Value} {L : List Lm} (h : RcvM w S g st sp de co s v L) : ∃ A c, v = .slice A s.ms.length c := by
  have hl : L.length = s.ms.length := by rw [← h.ms]; simp
  rcases h.own.2 with ⟨rfl, h0⟩ | ⟨g', cap, cur, rfl, _⟩
  · exact ⟨none, 0, by rw [← hl, h0]⟩
  · exact ⟨_, _, by rw [hl]⟩
theorem grown_bk {w w' : World} {r : Option Nat} (h : w.grownBy w' r) {g : Nat} {t : TypeId} {cs : Array Value} (hb : Bk w g t cs) (hg : r ≠ some g) : Bk w' g t cs :=
  (h.block g hb.lt (fun e => hg e.symm)).trans hb
theorem grown_isl {w w' : World} {r : Option Nat} (h : w.grownBy w' r) {A : Option Addr} {k : IntKind} {xs : List Int} (hA : IsSl w A k xs) (ha : ∀ a, A = some a → r ≠ some a.block) : IsSl w' A k xs := by
  rcases hA with h1 | ⟨b, off, h1, h2, h3⟩
  · exact .inl h1
  · exact .inr ⟨b, off, h1, Nat.lt_of_lt_of_le h2 h.size, fun i x hx => (World.cell?_of_block (w := w) (a := ⟨b, off + i, none⟩) (h.block b h2 (fun e => ha ⟨b, off, none⟩ h1 e.symm))).trans (h3 i x hx)⟩
theorem far_isl {w : World} {p : Addr} {u : Value} {A : Option Addr} {k : IntKind} {xs : List Int} (hA : IsSl w A k xs) (ha : ∀ a, A = some a → a.block ≠ p.block) : IsSl (w.setCell p u) A k xs := by
  rcases hA with h1 | ⟨b, off, h1, h2, h3⟩
  · exact .inl h1
  · exact .inr ⟨b, off, h1, by simpa [World.setCell] using h2, fun i x hx => (World.cell?_of_block (w := w) (a := ⟨b, off + i, none⟩) (Below.heap_setCell w p u b (ha ⟨b, off, none⟩ h1))).trans (h3 i x hx)⟩
theorem far_own {w : World} {p : Addr} {u : Value} {B : Nat} {e : TypeId} {z n : Nat} {v : Value} {xs : List Value} (h : w.ownsRow B e z v n xs) (hp : ∀ k, v.ownBlock = some k → k ≠ p.block) : (w.setCell p u).ownsRow B e z v n xs := by
  obtain ⟨h1, h2⟩ := h
  refine ⟨h1, ?_⟩
  rcases h2 with h2 | ⟨g, cap, cur, hv, hB, hh, r⟩
  · exact .inl h2
  · exact .inr ⟨g, cap, cur, hv, hB, Bk.far (t := e) hh (hp g (by rw [hv]; rfl)) _, r⟩
/-- What Hear leaves: a message more. -/
theorem hear_end {W w4 w5 : World} {S : Nat → Prop} {g : Nat} {st sp de co : Int} {s : Pl.Rst} {v v' : Value} {L : List Lm} {i t : Int} {b : List Int} {n Bx : Nat} {o : Obj}
    (M : RcvM W S g st sp de co s v L) (hn : b.length = n) (B4 : Below W.heap.size W w4) (hx : Bk w4 Bx 5 (ints .u8 b)) (hW : W.heap.size ≤ Bx)
    (hg5 : (w4.alloc o).grownBy w5 v.ownBlock) (O5 : w5.ownsRow 0 82 3 v' (L.length + 1) (mcells L ++ [.int .i64 i, .slice (some ⟨Bx, 0, none⟩) n n, .int .u64 t])) (hat : v'.ownBlock = v.ownBlock ∨ v'.ownBlock = some (w4.alloc o).heap.size) :
    ∃ S', RcvS (w5.setCell ⟨g, 7, none⟩ v') S' g st sp de co (Pl.hSt s ⟨i, b, t⟩) ∧ Fr S S' W (w5.setCell ⟨g, 7, none⟩ v') := by
  subst hn
  have hsz : (w4.alloc o).heap.size = w4.heap.size + 1 := by simp
  have B4' : Below W.heap.size W (w4.alloc o) := B4.alloc B4.size o
  have hgl := M.bk.lt
  have hs4 := B4.size
  have hs5 : w4.heap.size + 1 ≤ w5.heap.size := by have := hg5.size; omega
  have hvlt : ∀ k, v.ownBlock = some k → k < W.heap.size := fun k hk => M.lt k (M.inh k hk).1
  have hv'b : ∀ k, v'.ownBlock = some k → (v.ownBlock = some k ∨ W.heap.size ≤ k) ∧ k ≠ g ∧ k ≠ Bx ∧ k < w5.heap.size := by
    intro k hk
    have hk5 : k < w5.heap.size := by
      rcases O5.2 with ⟨rfl, h0⟩ | ⟨g', cap, cur, hv, _, hh, _⟩
      · cases hk
      · rw [hv] at hk
        cases hk
        exact Bk.lt (t := 82) hh
    have hxl := hx.lt
    rcases hat with h | h
    · rw [h] at hk
      exact ⟨.inl hk, (M.inh k hk).2, by have := hvlt k hk; omega, hk5⟩
    · rw [h] at hk
      obtain rfl : (w4.alloc o).heap.size = k := by simpa using hk
      exact ⟨.inr (by omega), by omega, by omega, hk5⟩
  refine ⟨fun k => S k ∨ (W.heap.size ≤ k ∧ k < w5.heap.size), ⟨v', L ++ [(⟨i, b, t⟩, some ⟨Bx, 0, none⟩, b.length)], ?_⟩, ?_⟩
  · refine ⟨by rw [List.map_append, M.ms]; rfl, ?_, ?_, .inl M.ing, ?_, ?_, ?_⟩
    · have h5 : Bk w5 g 76 (rcv st sp de co s.kn s.key.1 s.key.2 v) := grown_bk hg5 (M.bk.next B4') (fun e => (M.inh g e).2 rfl)
      exact h5.put 7 v'
    · have : mcells (L ++ [((⟨i, b, t⟩ : Pl.Msg), some (⟨Bx, 0, none⟩ : Addr), b.length)]) = mcells L ++ [.int .i64 i, .slice (some ⟨Bx, 0, none⟩) b.length b.length, .int .u64 t] := by rw [mcells_append]; rfl
      rw [this, List.length_append]
      exact far_own O5 (fun k hk => (hv'b k hk).2.1)
    · intro h hh
      obtain ⟨h1, h2, _, h4⟩ := hv'b h hh
      refine ⟨?_, h2⟩
      rcases h1 with h1 | h1
      · exact .inl (M.inh h h1).1
      · exact .inr ⟨h1, h4⟩
    · intro x hxL
      rcases List.mem_append.1 hxL with hxL | hxL
      · obtain ⟨a1, a2⟩ := M.byt x hxL
        refine ⟨far_isl (grown_isl hg5 (a1.next B4') (fun a ha => (a2 a ha).2.2)) (fun a ha => (a2 a ha).2.1), fun a ha => ?_⟩
        obtain ⟨b1, b2, b3⟩ := a2 a ha
        refine ⟨.inl b1, b2, fun e => ?_⟩
        rcases hat with h | h
        · exact b3 (h ▸ e)
        · rw [h] at e
          have := M.lt _ b1
          have e2 : (w4.alloc o).heap.size = a.block := by simpa using e
          omega
      · simp only [List.mem_singleton] at hxL
        subst hxL
        have hxl := hx.lt
        have hx4 : Bk (w4.alloc o) Bx 5 (ints .u8 b) := hx.alloc o
        have hx5 : Bk w5 Bx 5 (ints .u8 b) := grown_bk hg5 hx4 (fun e => by have := hvlt Bx e; omega)
        refine ⟨Bk.sl (hx5.far (by dsimp only; omega) _), fun a ha => ?_⟩
        obtain rfl : (⟨Bx, 0, none⟩ : Addr) = a := by simpa using ha
        exact ⟨.inr ⟨hW, by dsimp only; omega⟩, by dsimp only; omega, fun e => (hv'b Bx e).2.2.1 rfl⟩
    · intro k hk
      have e : (w5.setCell ⟨g, 7, none⟩ v').heap.size = w5.heap.size := by simp [World.setCell]
      rw [e]
      rcases hk with hk | hk
      · have := M.lt k hk; omega
      · exact hk.2
  · refine ⟨?_, ?_, ?_, ?_, ?_, ?_⟩
    · exact hg5.os.trans B4'.os
    · exact hg5.tape.trans B4'.tape
    · exact hg5.output.trans B4'.output
    · have e : (w5.setCell ⟨g, 7, none⟩ v').heap.size = w5.heap.size := by simp [World.setCell]
      omega
    · intro k hk hS
      rw [Below.heap_setCell _ _ _ _ (by dsimp only; intro e; subst e; exact hS M.ing)]
      rw [hg5.block k (by omega) (fun e => hS (M.inh k e.symm).1)]
      exact B4'.block k hk
    · intro k hk hS
      rcases hS with hS | hS
      · exact hS
      · omega
theorem info_u8 : (Tryd.prog.info? 5).map (fun i => (i.zero, i.size, i.bytes)) = some (some (.int .u8 0), 1, 1) := by kernel_rfl
theorem info_msg : (Tryd.prog.info? 82).map (fun i => (i.zero, i.size, i.bytes)) = some (some (.agg #[.int .i64 0, .slice none 0 0, .int .u64 0]), 3, 40) := by kernel_rfl
theorem run_make_bytes (n : Nat) (hb : n ≤ 1000000) (w : World) :
    (Instr.makeSlice 41 (.int .i64 (n : Int)) (.int .i64 (n : Int))).run Tryd.prog w = .ok (.slice (some ⟨w.heap.size, 0, none⟩) n n) (w.alloc (.cells (ints .u8 (List.replicate n 0)) 5)) :=
  run_make_ints 41 5 .u8 1 Tryd.underlying41 info_u8 .i64 .i64 n (by omega) (by omega) w
/-- 'copy(kept, b)' into new bytes. -/
theorem wpList_copy_bytes {w : World} {ops : Array Oper} {rest : List Oper} {o : Oper} {a : Act} {Q : Exit → Act → World → Prop} (hgd : o.guard = none) (d s : Operand)
    (ho : o.op = .call { callee := .builtin .copy, args := #[d, s], argTypes := #[41, 41] }) (g n : Nat) (A : Option Addr) (c : Nat) (xs : List Int) (hx : xs.length = n)
    (hd : a.eval d = .slice (some ⟨g, 0, none⟩) n n) (hs : a.eval s = .slice A n c) (hg : Bk w g 5 (ints .u8 (List.replicate n 0))) (hS : IsSl w A .u8 xs)
    (h : ∀ w', Bk w' g 5 (ints .u8 xs) → Below g w w' → wpList Tryd.prog ops Q rest (a.put o.dst (goInt n)) w') : wpList Tryd.prog ops Q (o :: rest) a w := by
  refine wpList_copy_splice hgd d s 41 41 ho 5 Tryd.underlying41 (by kernel_rfl) _ A n n n c hd hs g 0 ((List.replicate n 0).map (Value.int .u8)) 5 hg (xs.map (Value.int .u8)) (by simp [hx]) ?_ (by simp [hx]) (by
    intro v hv; simp at hv; obtain ⟨y, _, rfl⟩ := hv; rfl) g w (Below.refl _ _) (Nat.le_refl _) ?_
  · intro hpos
    rcases hS with h0 | ⟨b, off, hA, _, hc⟩
    · subst h0; simp at hpos
    · refine ⟨rfl, _, hA, fun j v hj => ?_⟩
      simp only [List.getElem?_map, Option.map_eq_some_iff] at hj
      obtain ⟨y, hy, rfl⟩ := hj
      have e1 : (⟨b, off, none⟩ : Addr).add j = ⟨b, off + j, none⟩ := by unfold Addr.add; split <;> simp_all
      rw [e1]
      exact hc j y hy
  · intro w' hh hb
    have e : splice ((List.replicate n (0 : Int)).map (Value.int .u8)) 0 (xs.map (Value.int .u8)) = xs.map (Value.int .u8) := by
      simp [splice, hx]
    have hh' := hh.out
    rw [e] at hh'
    have := h w' hh' hb
    simpa [hx] using this
end Go.Proofs.YtmegiodajkeahaaDoor
