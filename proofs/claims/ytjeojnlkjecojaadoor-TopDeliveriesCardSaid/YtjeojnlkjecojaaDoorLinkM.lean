/- A slice of changes that is read, a link that lies in a block. -/
import Derived.Test.YtjeojnlkjecojaaDoorLinkC1
namespace Go.Proofs.YtjeojnlkjecojaaDoor
open Go Go.RowKit
/-- The slice at A reads as these changes. -/
def IsCh (w : World) (A : Option Addr) (cs : List Pl.Chg) : Prop :=
  cs = [] ∨ ∃ b off, A = some ⟨b, off, none⟩ ∧ b < w.heap.size ∧ ∀ (i : Nat) (c : Pl.Chg), cs[i]? = some c → w.cell? ⟨b, off + i * 3, none⟩ = some (.int .i64 c.1) ∧ w.cell? ⟨b, off + i * 3 + 1, none⟩ = some (.int .i64 c.2.1) ∧ w.cell? ⟨b, off + i * 3 + 2, none⟩ = some (.int .i64 c.2.2)
theorem IsCh.next {w w' : World} {A : Option Addr} {cs : List Pl.Chg} (h : IsCh w A cs) (hb : Below w.heap.size w w') : IsCh w' A cs := by
  rcases h with h | ⟨b, off, h1, h2, h3⟩
  · exact .inl h
  · refine .inr ⟨b, off, h1, Nat.lt_of_lt_of_le h2 hb.size, fun i c hc => ?_⟩
    obtain ⟨e0, e1, e2⟩ := h3 i c hc
    exact ⟨(hb.cell (p := ⟨b, _, none⟩) h2).trans e0, (hb.cell (p := ⟨b, _, none⟩) h2).trans e1, (hb.cell (p := ⟨b, _, none⟩) h2).trans e2⟩
theorem IsCh.row {w : World} {A : Option Addr} {cs : List Pl.Chg} (h : IsCh w A cs) : cs.length = 0 ∨ ∃ b off, A = some ⟨b, off, none⟩ ∧ b < w.heap.size ∧ ∀ (i : Nat) (c : Pl.Chg), cs[i]? = some c → w.cell? ⟨b, off + i * 3, none⟩ = some (.int .i64 c.1) ∧ w.cell? ⟨b, off + i * 3 + 1, none⟩ = some (.int .i64 c.2.1) ∧ w.cell? ⟨b, off + i * 3 + 2, none⟩ = some (.int .i64 c.2.2) := by
  rcases h with h | h
  · left; rw [h]; rfl
  · exact .inr h
def lkCells (l : Pl.Lk) (A : Option Addr) (n c : Nat) : Array Value := #[.int .i64 l.d0, .int .i64 l.d1, .int .i64 l.v0, .int .i64 l.v1, .int .i64 l.loss, .int .u64 l.seed, .slice A n c]
def LkS (W : World) (g : Nat) (l : Pl.Lk) (A : Option Addr) (n c : Nat) (w : World) : Prop := Bk w g 26 (lkCells l A n c) ∧ Below W.heap.size W w
section
variable {W w w' : World} {g n c : Nat} {l : Pl.Lk} {A : Option Addr}
theorem LkS.next (h : LkS W g l A n c w) (hb : Below w.heap.size w w') : LkS W g l A n c w' := ⟨Bk.next h.1 hb, bstep h.2 hb⟩
theorem LkS.drew (h : LkS W g l A n c w) : LkS W g l A n c w.drew := ⟨Bk.drew h.1, h.2.drew⟩
theorem LkS.cells (h : LkS W g l A n c w) : (w.cell? ⟨g, 0, none⟩ = some (.int .i64 l.d0)) ∧ (w.cell? ⟨g, 1, none⟩ = some (.int .i64 l.d1)) ∧ (w.cell? ⟨g, 2, none⟩ = some (.int .i64 l.v0)) ∧ (w.cell? ⟨g, 3, none⟩ = some (.int .i64 l.v1)) ∧ (w.cell? ⟨g, 4, none⟩ = some (.int .i64 l.loss)) ∧ (w.cell? ⟨g, 5, none⟩ = some (.int .u64 l.seed)) ∧ (w.cell? ⟨g, 6, none⟩ = some (.slice A n c)) :=
  ⟨h.1.cell 0, h.1.cell 1, h.1.cell 2, h.1.cell 3, h.1.cell 4, h.1.cell 5, h.1.cell 6⟩
def LkT (W : World) (g : Nat) (l : Pl.Lk) (A : Option Addr) (n c : Nat) (w : World) : Prop := (w.cell? ⟨g, 0, none⟩ = some (.int .i64 l.d0)) ∧ (w.cell? ⟨g, 1, none⟩ = some (.int .i64 l.d1)) ∧ (w.cell? ⟨g, 2, none⟩ = some (.int .i64 l.v0)) ∧ (w.cell? ⟨g, 3, none⟩ = some (.int .i64 l.v1)) ∧ (w.cell? ⟨g, 4, none⟩ = some (.int .i64 l.loss)) ∧ LkS W g l A n c w
theorem LkS.all (h : LkS W g l A n c w) : LkT W g l A n c w := ⟨h.1.cell 0, h.1.cell 1, h.1.cell 2, h.1.cell 3, h.1.cell 4, h⟩
theorem LkT.bel (h : LkT W g l A n c w) : Below W.heap.size W w := h.2.2.2.2.2.2
theorem LkT.next (h : LkT W g l A n c w) (hb : Below w.heap.size w w') : LkT W g l A n c w' := (h.2.2.2.2.2.next hb).all
end
end Go.Proofs.YtjeojnlkjecojaaDoor
