/- What release does to memory: an append within the room of the block that is read, what is cleared, and what is left. -/
import Derived.Test.YtmegiodajkeahaaDoorChH2
import Derived.Laws.OwnMore
namespace Go.Proofs.YtmegiodajkeahaaDoor
open Go Go.RowKit
theorem mcells_set : ∀ (X : List Lm) (n : Nat) (x : Lm), n < X.length → (mcells X).take (n * 3) ++ mcell x ++ (mcells X).drop (n * 3 + 3) = mcells (X.set n x)
  | [], n, x, h => by simp at h
  | q :: X, 0, x, h => rfl
  | q :: X, n + 1, x, h => by
    have ih := mcells_set X n x (by simpa using h)
    rw [mcells_cons, show (n + 1) * 3 = n * 3 + 1 + 1 + 1 from by omega, show n * 3 + 1 + 1 + 1 + 3 = (n * 3 + 3) + 1 + 1 + 1 from by omega]
    simp only [mcell, List.cons_append, List.nil_append, List.take_succ_cons, List.drop_succ_cons, List.set_cons_succ, mcells_cons]
    rw [← ih]
    simp [mcell]
theorem mcells_take (X : List Lm) (n : Nat) : (mcells X).take (n * 3) = mcells (X.take n) := by
  induction X generalizing n with
  | nil => simp [mcells]
  | cons q X ih =>
    cases n with
    | zero => simp [mcells]
    | succ n =>
      rw [mcells_cons, show (n + 1) * 3 = n * 3 + 1 + 1 + 1 from by omega, List.take_succ_cons, mcells_cons, ← ih n]
      simp [mcell]
/-- The block of the messages: X lies at its head, behind it there is room. -/
def HB (w : World) (h cap : Nat) (X : List Lm) (Y : List Value) : Prop := Bk w h 82 (mcells X ++ Y).toArray ∧ (mcells X ++ Y).length = cap * 3
theorem HB.cells {w : World} {h cap : Nat} {X : List Lm} {Y : List Value} (H : HB w h cap X Y) {i : Nat} {x : Lm} (hx : X[i]? = some x) :
    w.cell? ⟨h, i * 3, none⟩ = some (.int .i64 x.1.i) ∧ w.cell? ⟨h, i * 3 + 1, none⟩ = some (.slice x.2.1 x.1.b.length x.2.2) ∧ w.cell? ⟨h, i * 3 + 2, none⟩ = some (.int .u64 x.1.t) := by
  obtain ⟨e1, e2, e3⟩ := mcells_get X i x hx
  have hl := mcells_len X
  have hi : i < X.length := (List.getElem?_eq_some_iff.1 hx).1
  rw [Bk.cell H.1, Bk.cell H.1, Bk.cell H.1]
  simp only [List.getElem?_toArray]
  rw [List.getElem?_append_left (by omega), List.getElem?_append_left (by omega), List.getElem?_append_left (by omega)]
  exact ⟨e1, e2, e3⟩
theorem HB.of_own {w : World} {h cap n : Nat} {L : List Lm} (H : w.ownsRow 0 82 3 (.slice (some ⟨h, 0, none⟩) n cap) n (mcells L)) (hn : L.length = n) : n ≤ cap ∧ cap ≤ maxLen ∧ ∃ Y, HB w h cap L Y := by
  subst hn
  rcases H.2 with ⟨h1, _⟩ | ⟨g, cap', cur, h1, _, hh, hnc, hcm, hcs, ht⟩
  · cases h1
  · simp only [Value.slice.injEq, Option.some.injEq, Addr.mk.injEq, and_true, true_and] at h1
    obtain ⟨rfl, rfl⟩ := h1
    refine ⟨hnc, hcm, cur.toList.drop (L.length * 3), ?_, ?_⟩
    · rw [← ht, List.take_append_drop]
      exact hh
    · rw [← ht, List.take_append_drop]
      simpa using hcs
theorem HB.own {w : World} {h cap n : Nat} {X : List Lm} {Y : List Value} (H : HB w h cap X Y) (hn : n ≤ X.length) (hnc : n ≤ cap) (hcm : cap ≤ maxLen) : w.ownsRow 0 82 3 (.slice (some ⟨h, 0, none⟩) n cap) n (mcells (X.take n)) := by
  refine ⟨by rw [mcells_len, List.length_take, Nat.min_eq_left hn], .inr ⟨h, cap, (mcells X ++ Y).toArray, rfl, Nat.zero_le _, H.1, hnc, hcm, by simpa using H.2, ?_⟩⟩
  rw [← mcells_take]
  show List.take (n * 3) (mcells X ++ Y) = _
  rw [List.take_append_of_le_length (by rw [mcells_len]; omega)]
theorem HB.set {w : World} {h cap : Nat} {X : List Lm} {Y : List Value} (H : HB w h cap X Y) (n : Nat) (x : Lm) (hn : n < X.length) :
    HB (w.setRow h ((mcells X ++ Y).take (n * 3) ++ mcell x ++ (mcells X ++ Y).drop (n * 3 + 3)).toArray) h cap (X.set n x) Y := by
  have e : (mcells X ++ Y).take (n * 3) ++ mcell x ++ (mcells X ++ Y).drop (n * 3 + 3) = mcells (X.set n x) ++ Y := by
    rw [← mcells_set X n x hn]
    have hl := mcells_len X
    rw [List.take_append_of_le_length (by omega), List.drop_append_of_le_length (by omega)]
    simp
  refine ⟨?_, ?_⟩
  · rw [← e]
    exact setRow_heap w h _ _ 82 _ H.1
  · have h1 := H.2
    rw [List.length_append, mcells_len] at h1 ⊢
    simpa using h1
/-- An append of one message into the room of the very block. -/
theorem wpList_app_room {w : World} {ops : Array Oper} {rest : List Oper} {o : Oper} {a : Act} {Q : Exit → Act → World → Prop} (hgd : o.guard = none) (s x : Operand)
    (ho : o.op = .call { callee := .builtin .append, args := #[s, x], argTypes := #[74, 74] }) (h cap n : Nat) (X : List Lm) (Y : List Value) (m : Lm) (H : HB w h cap X Y) (hn : n < X.length) (hnc : n < cap)
    (hs : a.eval s = .slice (some ⟨h, 0, none⟩) n cap) (gx c : Nat) (hx : a.eval x = .slice (some ⟨gx, 0, none⟩) 1 c) (hgx : Bk w gx 82 (mcell m).toArray)
    (hk : ∀ w', HB w' h cap (X.set n m) Y → Fr (· = h) (· = h) w w' → wpList Tryd.prog ops Q rest (a.put o.dst (.slice (some ⟨h, 0, none⟩) (n + 1) cap)) w') : wpList Tryd.prog ops Q (o :: rest) a w := by
  obtain ⟨i0, hi, hz⟩ := Option.map_eq_some_iff.1 info_msg
  simp only [Prod.mk.injEq] at hz
  obtain ⟨_, hz1, _⟩ := hz
  refine wpList_plain hgd fun K hK => ?_
  have hl := mcells_len X
  have hr := run_append_room (P := Tryd.prog) w 74 o.type 82 i0 Tryd.underlying74 hi h n cap (mcells X ++ Y).toArray H.1 ⟨gx, 0, none⟩ 1 c (mcell m) (by rw [hz1]; rfl) (by
    intro j u hj
    have e1 : (⟨gx, 0, none⟩ : Addr).add j = ⟨gx, 0 + j, none⟩ := by unfold Addr.add; split <;> simp_all
    rw [e1, Nat.zero_add, Bk.cell hgx]
    simpa using hj) (by intro u hu; simp [mcell] at hu; rcases hu with rfl | rfl | rfl <;> rfl) (by omega) (by
      rw [hz1, List.size_toArray, H.2]
      have : (mcell m).length = 3 := rfl
      omega)
  rw [hz1] at hr
  have h3 : (mcell m).length = 3 := rfl
  rw [h3] at hr
  unfold Oper.wp execOp
  simp only [ho, resolve, invoke, builtin, Sem.run_bind, Sem.run_pure, Result.andThen_ok, List.map_toArray, List.map_cons, List.map_nil, hs, hx, hr]
  exact hK _ _ (hk _ (H.set n m hn) ⟨rfl, rfl, rfl, by simp [World.setRow], fun k _ hk => setRow_other w h k _ hk, fun _ _ h => h⟩)
/-- What is cleared behind n messages. -/
theorem wpList_clear {w : World} {ops : Array Oper} {rest : List Oper} {o : Oper} {a : Act} {Q : Exit → Act → World → Prop} (hgd : o.guard = none) (x : Operand)
    (ho : o.op = .call { callee := .builtin .clear, args := #[x], argTypes := #[74] }) (h cap n m c : Nat) (p : Option Addr) (X : List Lm) (Y : List Value) (H : HB w h cap X Y) (hn : n ≤ X.length) (hcm : n + m ≤ cap)
    (hx : a.eval x = .slice p m c) (hp : 0 < m → p = some ⟨h, n * 3, none⟩)
    (hk : ∀ w' Y', HB w' h cap (X.take n) Y' → Fr (· = h) (· = h) w w' → wpList Tryd.prog ops Q rest (a.put o.dst (.tuple #[])) w') : wpList Tryd.prog ops Q (o :: rest) a w := by
  refine wpList_plain hgd fun K hK => ?_
  have hl := mcells_len X
  have hXn : mcells (X.take n) ++ ((mcells X).drop (n * 3) ++ Y) = mcells X ++ Y := by
    rw [← mcells_take, ← List.append_assoc, List.take_append_drop]
  by_cases hm : m = 0
  · subst hm
    have hrun : (Builtin.clear_ #[74] o.type #[.slice p 0 c]).run Tryd.prog w = .ok (.tuple #[]) w := by
      cases p <;> simp [Builtin.clear_, run_underlying Tryd.underlying74]
    unfold Oper.wp execOp
    simp only [ho, resolve, invoke, builtin, Sem.run_bind, Sem.run_pure, Result.andThen_ok, List.map_toArray, List.map_cons, List.map_nil, hx, hrun]
    exact hK _ _ (hk w ((mcells X).drop (n * 3) ++ Y) ⟨by rw [hXn]; exact H.1, by rw [hXn]; exact H.2⟩ (Fr.refl _ _))
  · obtain rfl := hp (by omega)
    have hzv : ∀ w, (zeroValue 82).run Tryd.prog w = .ok (.agg #[.int .i64 0, .slice none 0 0, .int .u64 0]) w := by
      intro w
      kernel_rfl
    have hst := run_storeCells_at Tryd.prog h (n * 3) 82 (Builtin.zeroCells (Value.agg #[.int .i64 0, .slice none 0 0, .int .u64 0]).cells m).toList 0 (mcells X ++ Y).toArray w H.1 (by
      have h2 := H.2
      have : (Builtin.zeroCells (Value.agg #[.int .i64 0, .slice none 0 0, .int .u64 0]).cells m).toList.length = m * 3 := by
        rw [Array.length_toList, size_zeroCells]; rfl
      rw [this, List.size_toArray, h2]
      omega) (by
      intro v hv
      simp [Builtin.zeroCells] at hv
      obtain ⟨j, hj, rfl⟩ := hv
      have hj3 : j % 3 = 0 ∨ j % 3 = 1 ∨ j % 3 = 2 := by omega
      rcases hj3 with e | e | e <;> simp [e, Value.cells, Value.oneCell'])
    simp only [Nat.add_zero] at hst
    have hzl : (Builtin.zeroCells (Value.agg #[.int .i64 0, .slice none 0 0, .int .u64 0]).cells m).toList.length = m * 3 := by
      rw [Array.length_toList, size_zeroCells]; rfl
    have hrun : (Builtin.clear_ #[74] o.type #[.slice (some ⟨h, n * 3, none⟩) m c]).run Tryd.prog w = .ok (.tuple #[]) (w.setRow h ((mcells X ++ Y).take (n * 3) ++ (Builtin.zeroCells (Value.agg #[.int .i64 0, .slice none 0 0, .int .u64 0]).cells m).toList ++ (mcells X ++ Y).drop (n * 3 + m * 3)).toArray) := by
      rw [hzl] at hst
      generalize hq : Builtin.zeroCells (Value.agg #[.int .i64 0, .slice none 0 0, .int .u64 0]).cells m = q at hst
      obtain ⟨m', rfl⟩ : ∃ m', m = m' + 1 := ⟨m - 1, by omega⟩
      simp [Builtin.clear_, run_underlying Tryd.underlying74, hzv, hq] at hst ⊢
      simp [hst]
    generalize (Builtin.zeroCells (Value.agg #[.int .i64 0, .slice none 0 0, .int .u64 0]).cells m).toList = Z at hrun hzl
    unfold Oper.wp execOp
    simp only [ho, resolve, invoke, builtin, Sem.run_bind, Sem.run_pure, Result.andThen_ok, List.map_toArray, List.map_cons, List.map_nil, hx, hrun]
    refine hK _ _ (hk _ (Z ++ (mcells X ++ Y).drop (n * 3 + m * 3)) ⟨?_, ?_⟩ ⟨rfl, rfl, rfl, by simp [World.setRow], fun k _ hk => setRow_other w h k _ hk, fun _ _ h => h⟩)
    · have e : mcells (X.take n) ++ (Z ++ (mcells X ++ Y).drop (n * 3 + m * 3)) = (mcells X ++ Y).take (n * 3) ++ Z ++ (mcells X ++ Y).drop (n * 3 + m * 3) := by
        rw [← mcells_take, List.take_append_of_le_length (by omega)]
        simp
      rw [e]
      exact setRow_heap w h _ _ 82 _ H.1
    · have h2 := H.2
      rw [List.length_append, mcells_len, List.length_take, Nat.min_eq_left hn, List.length_append, hzl, List.length_drop, h2]
      omega
end Go.Proofs.YtmegiodajkeahaaDoor
