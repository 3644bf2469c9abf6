/- A call that writes blocks of a set alone: the frame, and what it leaves. No program in sight. -/
import Derived.Test.YtmegiodajkeahaaDoorChR
namespace Go.Proofs.YtmegiodajkeahaaDoor
open Go Go.RowKit
/-- Outside the set S what was there stays; S grows by new blocks only. -/
structure Fr (S S' : Nat → Prop) (w w' : World) : Prop where
  os : w'.os = w.os
  tape : w'.tape = w.tape
  output : w'.output = w.output
  size : w.heap.size ≤ w'.heap.size
  block : ∀ k, k < w.heap.size → ¬ S k → w'.heap[k]? = w.heap[k]?
  set : ∀ k, k < w.heap.size → S' k → S k
theorem Fr.refl (S : Nat → Prop) (w : World) : Fr S S w w := ⟨rfl, rfl, rfl, Nat.le_refl _, fun _ _ _ => rfl, fun _ _ h => h⟩
theorem Fr.trans {S S' S'' : Nat → Prop} {a b c : World} (h : Fr S S' a b) (k : Fr S' S'' b c) : Fr S S'' a c :=
  ⟨k.os.trans h.os, k.tape.trans h.tape, k.output.trans h.output, Nat.le_trans h.size k.size,
    fun i hi hs => (k.block i (Nat.lt_of_lt_of_le hi h.size) (fun h' => hs (h.set i hi h'))).trans (h.block i hi hs),
    fun i hi hs => h.set i hi (k.set i (Nat.lt_of_lt_of_le hi h.size) hs)⟩
theorem Fr.of_below {S : Nat → Prop} {w w' : World} (h : Below w.heap.size w w') : Fr S S w w' := ⟨h.os, h.tape, h.output, h.size, fun i hi _ => h.block i hi, fun _ _ h => h⟩
theorem Fr.below {S S' : Nat → Prop} {w w' : World} {B : Nat} (h : Fr S S' w w') (hB : B ≤ w.heap.size) (hS : ∀ k, S k → B ≤ k) : Below B w w' :=
  ⟨h.os, h.tape, h.output, h.size, fun k hk => h.block k (by omega) (fun hs => by have := hS k hs; omega)⟩
theorem Fr.from_ {S S' : Nat → Prop} {w w' : World} {B : Nat} (h : Fr S S' w w') (hB : B ≤ w.heap.size) (hS : ∀ k, S k → B ≤ k) : ∀ k, S' k → B ≤ k := fun k hk => by
  rcases Nat.lt_or_ge k w.heap.size with h1 | h1
  · exact hS k (h.set k h1 hk)
  · omega
/-- A larger set to begin with. -/
theorem Fr.wide {S S' T : Nat → Prop} {w w' : World} (h : Fr S S' w w') (hS : ∀ k, S k → T k) : Fr T (fun k => S' k ∨ (k < w.heap.size ∧ T k)) w w' :=
  ⟨h.os, h.tape, h.output, h.size, fun k hk hs => h.block k hk (fun h' => hs (hS k h')), fun k hk hs => by
    rcases hs with hs | hs
    · exact hS k (h.set k hk hs)
    · exact hs.2⟩
theorem Fr.bk {S S' : Nat → Prop} {w w' : World} (h : Fr S S' w w') {g : Nat} {t : TypeId} {cs : Array Value} (hb : Bk w g t cs) (hg : ¬ S g) : Bk w' g t cs := (h.block g hb.lt hg).trans hb
theorem Fr.cell {S S' : Nat → Prop} {w w' : World} (h : Fr S S' w w') {p : Addr} (hp : p.block < w.heap.size) (hg : ¬ S p.block) : w'.cell? p = w.cell? p := World.cell?_of_block (w := w) (h.block p.block hp hg)
theorem Fr.isl {S S' : Nat → Prop} {w w' : World} (h : Fr S S' w w') {A : Option Addr} {k : IntKind} {xs : List Int} (hA : IsSl w A k xs) (ha : ∀ a, A = some a → ¬ S a.block) : IsSl w' A k xs := by
  rcases hA with h1 | ⟨b, off, h1, h2, h3⟩
  · exact .inl h1
  · exact .inr ⟨b, off, h1, Nat.lt_of_lt_of_le h2 h.size, fun i x hx => (h.cell (p := ⟨b, off + i, none⟩) h2 (ha ⟨b, off, none⟩ h1)).trans (h3 i x hx)⟩
theorem Fr.isk {S S' : Nat → Prop} {w w' : World} (h : Fr S S' w w') {A : Option Addr} {l : List (Int × Int)} (hA : IsKs w A l) (ha : ∀ a, A = some a → ¬ S a.block) : IsKs w' A l := by
  rcases hA with h1 | ⟨b, off, h1, h2, h3⟩
  · exact .inl h1
  · exact .inr ⟨b, off, h1, Nat.lt_of_lt_of_le h2 h.size, fun i p hp => ⟨(h.cell (p := ⟨b, off + i * 2, none⟩) h2 (ha ⟨b, off, none⟩ h1)).trans (h3 i p hp).1, (h.cell (p := ⟨b, off + i * 2 + 1, none⟩) h2 (ha ⟨b, off, none⟩ h1)).trans (h3 i p hp).2⟩⟩
/-- A fact on a slice below B, behind steps that leave B. -/
theorem IsSl.below {B : Nat} {w w' : World} {A : Option Addr} {k : IntKind} {xs : List Int} (h : IsSl w A k xs) (hb : Below B w w') (hA : ∀ a, A = some a → a.block < B) : IsSl w' A k xs := by
  rcases h with h | ⟨b, off, h1, h2, h3⟩
  · exact .inl h
  · exact .inr ⟨b, off, h1, Nat.lt_of_lt_of_le h2 hb.size, fun i x hx => (hb.cell (p := ⟨b, off + i, none⟩) (hA ⟨b, off, none⟩ h1)).trans (h3 i x hx)⟩
theorem IsKs.below {B : Nat} {w w' : World} {A : Option Addr} {l : List (Int × Int)} (h : IsKs w A l) (hb : Below B w w') (hA : ∀ a, A = some a → a.block < B) : IsKs w' A l := by
  rcases h with h | ⟨b, off, h1, h2, h3⟩
  · exact .inl h
  · exact .inr ⟨b, off, h1, Nat.lt_of_lt_of_le h2 hb.size, fun i p hp => ⟨(hb.cell (p := ⟨b, off + i * 2, none⟩) (hA ⟨b, off, none⟩ h1)).trans (h3 i p hp).1, (hb.cell (p := ⟨b, off + i * 2 + 1, none⟩) (hA ⟨b, off, none⟩ h1)).trans (h3 i p hp).2⟩⟩
/-- The list of byte strings that lies at v, all of it in blocks of X. -/
def IsBB (w : World) (X : Nat → Prop) (v : Value) (bs : List (List Int)) : Prop :=
  ∃ A c, v = .slice A bs.length c ∧ (bs = [] ∨ ∃ b off, A = some ⟨b, off, none⟩ ∧ X b ∧ b < w.heap.size ∧ ∀ i xs, bs[i]? = some xs → ∃ A' c', w.cell? ⟨b, off + i, none⟩ = some (.slice A' xs.length c') ∧ IsSl w A' .u8 xs ∧ ∀ a, A' = some a → X a.block)
theorem IsBB.next {w w' : World} {X : Nat → Prop} {v : Value} {bs : List (List Int)} (h : IsBB w X v bs) (hb : Below w.heap.size w w') : IsBB w' X v bs := by
  obtain ⟨A, c, h0, h⟩ := h
  refine ⟨A, c, h0, ?_⟩
  rcases h with h | ⟨b, off, h1, hX, h2, h3⟩
  · exact .inl h
  · refine .inr ⟨b, off, h1, hX, Nat.lt_of_lt_of_le h2 hb.size, fun i xs hx => ?_⟩
    obtain ⟨A', c', k1, k2, k3⟩ := h3 i xs hx
    exact ⟨A', c', (hb.cell (p := ⟨b, off + i, none⟩) h2).trans k1, k2.next hb, k3⟩
theorem IsBB.fr {w w' : World} {X S S' : Nat → Prop} {v : Value} {bs : List (List Int)} (h : IsBB w X v bs) (hb : Fr S S' w w') (hd : ∀ k, X k → ¬ S k) : IsBB w' X v bs := by
  obtain ⟨A, c, h0, h⟩ := h
  refine ⟨A, c, h0, ?_⟩
  rcases h with h | ⟨b, off, h1, hX, h2, h3⟩
  · exact .inl h
  · refine .inr ⟨b, off, h1, hX, Nat.lt_of_lt_of_le h2 hb.size, fun i xs hx => ?_⟩
    obtain ⟨A', c', k1, k2, k3⟩ := h3 i xs hx
    exact ⟨A', c', (hb.cell (p := ⟨b, off + i, none⟩) h2 (hd _ hX)).trans k1, hb.isl k2 (fun a ha => hd _ (k3 a ha)), k3⟩
theorem IsBB.wide {w : World} {X Y : Nat → Prop} {v : Value} {bs : List (List Int)} (h : IsBB w X v bs) (hXY : ∀ k, X k → Y k) : IsBB w Y v bs := by
  obtain ⟨A, c, h0, h⟩ := h
  refine ⟨A, c, h0, ?_⟩
  rcases h with h | ⟨b, off, h1, hX, h2, h3⟩
  · exact .inl h
  · refine .inr ⟨b, off, h1, hXY _ hX, h2, fun i xs hx => ?_⟩
    obtain ⟨A', c', k1, k2, k3⟩ := h3 i xs hx
    exact ⟨A', c', k1, k2, fun a ha => hXY _ (k3 a ha)⟩
theorem IsBB.row {w : World} {X : Nat → Prop} {v : Value} {bs : List (List Int)} (h : IsBB w X v bs) : ∃ A c, v = .slice A bs.length c ∧ (bs.length = 0 ∨ ∃ b off, A = some ⟨b, off, none⟩ ∧ X b ∧ b < w.heap.size ∧ ∀ i xs, bs[i]? = some xs → ∃ A' c', w.cell? ⟨b, off + i, none⟩ = some (.slice A' xs.length c') ∧ IsSl w A' .u8 xs ∧ ∀ a, A' = some a → X a.block) := by
  obtain ⟨A, c, h0, h⟩ := h
  refine ⟨A, c, h0, ?_⟩
  rcases h with h | h
  · left; rw [h]; rfl
  · exact .inr h
end Go.Proofs.YtmegiodajkeahaaDoor
