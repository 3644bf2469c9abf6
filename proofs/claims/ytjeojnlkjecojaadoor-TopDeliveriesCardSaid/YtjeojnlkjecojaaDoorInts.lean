/- A block that is just a list of integers: reading, storing, making one. No program in sight. -/
import Derived.Test.YtjeojnlkjecojaaDoorMem
import Derived.Deep.OwnRows
namespace Go.Proofs.YtjeojnlkjecojaaDoor
open Go Go.RowKit
/-- The cells of a list of integers. -/
def ints (k : IntKind) (l : List Int) : Array Value := (l.map (Value.int k)).toArray
theorem ints_get {k : IntKind} {l : List Int} {i : Nat} {x : Int} (h : l[i]? = some x) : (ints k l)[i]? = some (.int k x) := by
  unfold ints; simp [h]
theorem ints_size (k : IntKind) (l : List Int) : (ints k l).size = l.length := by unfold ints; simp
theorem ints_set (k : IntKind) (l : List Int) (i : Nat) (x : Int) : (ints k l).setIfInBounds i (.int k x) = ints k (l.set i x) := by
  unfold ints
  rw [List.setIfInBounds_toArray, List.map_set]
theorem Bk.int {w : World} {g : Nat} {t : TypeId} {k : IntKind} {l : List Int} (h : Bk w g t (ints k l)) {i : Nat} {x : Int} (hx : l[i]? = some x) : w.cell? ⟨g, i, none⟩ = some (.int k x) := by
  rw [h.cell, ints_get hx]
theorem Bk.set_int {w : World} {g : Nat} {t : TypeId} {k : IntKind} {l : List Int} (h : Bk w g t (ints k l)) (i : Nat) (x : Int) : Bk (w.setCell ⟨g, i, none⟩ (.int k x)) g t (ints k (l.set i x)) := by
  rw [← ints_set]; exact h.put i _
theorem Bk.sl {w : World} {g : Nat} {t : TypeId} {k : IntKind} {l : List Int} (h : Bk w g t (ints k l)) : IsSl w (some ⟨g, 0, none⟩) k l := IsSl.of_bk l h rfl
theorem run_make_ints {P : Program} (t e : TypeId) (k : IntKind) (bytes : Nat) (ht : P.underlying t = some (.slice e)) (hi : (P.info? e).map (fun i => (i.zero, i.size, i.bytes)) = some (some (.int k 0), 1, bytes))
    (kl kc : IntKind) (n : Nat) (hb : bytes * n ≤ 281474976710656) (h63 : n ≤ 9223372036854775807) (w : World) :
    (Instr.makeSlice t (.int kl (n : Int)) (.int kc (n : Int))).run P w = .ok (.slice (some ⟨w.heap.size, 0, none⟩) n n) (w.alloc (.cells (ints k (List.replicate n 0)) e)) := by
  obtain ⟨i, hi', hz⟩ := Option.map_eq_some_iff.1 hi
  simp only [Prod.mk.injEq] at hz
  obtain ⟨hz0, hz1, hz2⟩ := hz
  have hbb : (i.bytes : Int) * (n : Int) ≤ 281474976710656 := by
    rw [hz2, ← Int.natCast_mul]; omega
  have hr := run_make (P := P) w t e i (.int k 0) ht hi' hz0 kl kc (n : Int) (n : Int) (by omega) (by omega) hbb (by omega)
  simp only [Int.toNat_natCast, hz1, Nat.mul_one] at hr
  rw [hr]
  congr 3
  unfold ints madeCells
  apply Array.ext
  · simp
  · intro j h1 h2
    simp [Value.cells, Nat.mod_one]
end Go.Proofs.YtjeojnlkjecojaaDoor
