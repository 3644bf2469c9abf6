/- Making a block of keys. -/
import Derived.Test.YtmegiodajkeahaaDoorChK
namespace Go.Proofs.YtmegiodajkeahaaDoor
open Go Go.RowKit
theorem info_key : (Tryd.prog.info? 37).map (fun i => (i.zero, i.size, i.bytes)) = some (some (.agg #[.int .u64 0, .int .u64 0]), 2, 16) := by kernel_rfl
theorem run_make_keys (n : Nat) (hn : n ≤ 1000) (w : World) :
    (Instr.makeSlice 28 (.int .i64 (n : Int)) (.int .i64 (n : Int))).run Tryd.prog w = .ok (.slice (some ⟨w.heap.size, 0, none⟩) n n) (w.alloc (.cells (kcells (List.replicate n (0, 0))).toArray 37)) := by
  obtain ⟨i, hi', hz⟩ := Option.map_eq_some_iff.1 info_key
  simp only [Prod.mk.injEq] at hz
  obtain ⟨hz0, hz1, hz2⟩ := hz
  have hbb : (i.bytes : Int) * (n : Int) ≤ 281474976710656 := by
    rw [hz2, ← Int.natCast_mul]; omega
  have hr := run_make (P := Tryd.prog) w 28 37 i (.agg #[.int .u64 0, .int .u64 0]) Tryd.underlying28 hi' hz0 .i64 .i64 (n : Int) (n : Int) (by omega) (by omega) hbb (by omega)
  simp only [Int.toNat_natCast, hz1] at hr
  rw [hr]
  congr 3
  unfold madeCells
  apply Array.ext
  · simp [kcells_len]
  · intro j h1 h2
    have hj : j < n * 2 := by simpa using h1
    have hq : j / 2 < n := by omega
    have hg := kcells_get (List.replicate n ((0 : Int), (0 : Int))) (j / 2) (0, 0) (by simp [hq])
    rcases Nat.mod_two_eq_zero_or_one j with hm | hm
    · have e : j / 2 * 2 = j := by omega
      rw [e] at hg
      have := (List.getElem?_eq_some_iff.1 hg.1).2
      simp [Value.cells, hm, this]
    · have e : j / 2 * 2 + 1 = j := by omega
      rw [e] at hg
      have := (List.getElem?_eq_some_iff.1 hg.2).2
      simp [Value.cells, hm, this]
end Go.Proofs.YtmegiodajkeahaaDoor
