/- Packets: what TopBroadcast reads of them; the contract of right; plain law. -/
import Derived.Test.YtmegiodajkeahaaDoorChLP
import Derived.Test.YtmegiodajkeahaaDoorOpen
namespace Go.Proofs.YtmegiodajkeahaaDoor
open Go Go.RowKit
/-- A packet, and where its bytes lie. -/
structure Pk where
  i : Int
  at_ : Int
  er : Int
  A : Option Addr
  c : Nat
  b : List Int
  bad : Bool
  tag : Int
def pkCells (p : Pk) : Array Value := #[.int .i64 p.i, .int .i64 p.at_, .int .i64 p.er, .slice p.A p.b.length p.c, .bool p.bad, .int .u64 p.tag]
/-- The slice at A reads as these packets. -/
def IsPk (w : World) (A : Option Addr) (l : List Pk) : Prop :=
  l = [] ∨ ∃ b off, A = some ⟨b, off, none⟩ ∧ b < w.heap.size ∧ ∀ i p, l[i]? = some p → (∀ j v, (pkCells p)[j]? = some v → w.cell? ⟨b, off + i * 6 + j, none⟩ = some v) ∧ IsSl w p.A .u8 p.b ∧ (∀ x ∈ p.b, 0 ≤ x ∧ x ≤ 255) ∧ p.b.length ≤ 9223372036854775807
set_option maxHeartbeats 1000000 in
theorem right_any (g n c m d i : Nat) (K : List (Int × Int)) (kk : Int × Int) (A : Option Addr) (b : List Int) (w : World) (hR : Rnd w) (hK : IsKs w (some ⟨g, 0, none⟩) K) (hl : K.length = n) (hk : K[i]? = some kk) (hS : IsSl w A .u8 b) (hb : ∀ x ∈ b, 0 ≤ x ∧ x ≤ 255) (hm : b.length = m) (hm2 : m ≤ 1000000) :
    Calls Tryd.prog 37 #[.slice (some ⟨g, 0, none⟩) n c, .int .i64 (i : Int), .slice A m d] w fun e w' => e = .returned (.int .u64 (Pl.mtag kk b)) ∧ Below w.heap.size w w' := by
  have hin : i < n := by rw [← hl]; exact (List.getElem?_eq_some_iff.1 hk).1
  obtain ⟨q0, q1⟩ : w.cell? ⟨g, i * 2, none⟩ = some (.int .u64 kk.1) ∧ w.cell? ⟨g, i * 2 + 1, none⟩ = some (.int .u64 kk.2) := by
    rcases hK with h0 | ⟨b', off, hA, hb', hc⟩
    · rw [h0] at hk; simp at hk
    · obtain ⟨rfl, rfl⟩ : b' = g ∧ off = 0 := by simpa using hA.symm
      have := hc i kk hk
      simpa using this
  have BM := (Below.refl w.heap.size w).alloc (Nat.le_refl _) (.cells #[.int .u8 109, .int .u8 97, .int .u8 99] 5 (3, 4))
  have SM := hid (isl_const w kMac (3, 4) #[.int .u8 109, .int .u8 97, .int .u8 99] rfl)
  have HB := hid BM
  have HS := hid (And.intro hS (And.intro hb hm))
  have HR := hid hR
  have cv := Lib.run_convert_bytes_const (P := Tryd.prog) w 41 5 #[.int .u8 109, .int .u8 97, .int .u8 99] 3 3 Tryd.underlying41 Tryd.underlying5
  simp only [List.size_toArray, List.length_cons, List.length_nil, Nat.zero_add, Nat.reduceAdd] at cv
  clear BM hS hb hm hR hK hl hk
  go_enter Tryd.func37, Tryd.ntmps37
  go_wp2_with fail
  generalize w.alloc (.cells #[.int .u8 109, .int .u8 97, .int .u8 99] 5 (3, 4)) = w4 at *
  refine (derive_any _ _ _ 3 kMac _ (HR.out.next HB.out) SM.out (by decide) (by decide)).mono ?_
  rintro e w5 ⟨rfl, hb5⟩
  have HB5 := hid (bstep HB.out hb5)
  clear cv q0 q1 SM hb5
  have TG : Calls Tryd.prog 36 #[.agg #[.int .u64 (Pl.d1 kk.1 kk.2 kMac), .int .u64 (Pl.d2 kk.1 kk.2 kMac)], .slice A m d] w5 fun e w' => e = .returned (.int .u64 (Pl.mtag kk b)) ∧ Below w5.heap.size w5 w' := by
    have := tag_any (Pl.d1 kk.1 kk.2 kMac) (Pl.d2 kk.1 kk.2 kMac) A d b w5 (HR.out.next HB5.out) (HS.out.1.next HB5.out) HS.out.2.1 (by have := HS.out.2.2; omega)
    rw [HS.out.2.2] at this
    exact this
  replace TG := hid TG
  go_wp2_with fail
  refine TG.out.mono ?_
  rintro e w6 ⟨rfl, hb6⟩
  go_wp2
  go_ret
  exact ⟨rfl, bstep HB5.out hb6⟩
namespace Pl
/-- The tag of a packet. -/
def pkT (last : Int × Int) (n : Nat) (p : Pk) : Int := if p.bad then p.tag else mtag (dnN last (n - p.i.toNat)) p.b
def pkM (last : Int × Int) (n : Nat) (p : Pk) : Msg := ⟨p.i, p.b, pkT last n p⟩
def pkSafe (st sp de co : Int) (p : Pk) : Bool := decide (ivl st sp de co (p.at_ + p.er) < p.i + de)
def pkGood (last : Int × Int) (n : Nat) (p : Pk) : Bool := mtag (dnN last (n - p.i.toNat)) p.b == pkT last n p
/-- What is held after k packets; which of them have the right tag. -/
def pkL (st sp de co : Int) (l : List Pk) (k : Nat) : List Pk := (l.take k).filter (pkSafe st sp de co)
def pkW (last : Int × Int) (st sp de co : Int) (n : Nat) (l : List Pk) (k : Nat) : List Pk := (pkL st sp de co l k).filter (pkGood last n)
def pkOk (co : Int) (p : Pk) : Prop := 1 ≤ p.i ∧ p.i ≤ co ∧ 0 ≤ p.at_ ∧ p.at_ ≤ 1125899906842624 ∧ 0 ≤ p.er ∧ p.er ≤ 1125899906842624 ∧ p.b.length ≤ 100
theorem pkL_skip {st sp de co : Int} {l : List Pk} {k : Nat} {p : Pk} (h : l[k]? = some p) (hs : pkSafe st sp de co p = false) : pkL st sp de co l (k + 1) = pkL st sp de co l k := by
  unfold pkL
  rw [List.take_add_one, h, List.filter_append]
  simp [hs]
theorem pkL_keep {st sp de co : Int} {l : List Pk} {k : Nat} {p : Pk} (h : l[k]? = some p) (hs : pkSafe st sp de co p = true) : pkL st sp de co l (k + 1) = pkL st sp de co l k ++ [p] := by
  unfold pkL
  rw [List.take_add_one, h, List.filter_append]
  simp [hs]
theorem pkL_le (st sp de co : Int) (l : List Pk) (k : Nat) : (pkL st sp de co l k).length ≤ k := by
  unfold pkL
  have h1 := List.length_filter_le (pkSafe st sp de co) (l.take k)
  have h2 : (l.take k).length ≤ k := List.length_take_le _ _
  omega
theorem pkL_mem {st sp de co : Int} {l : List Pk} {k : Nat} {p : Pk} (h : p ∈ pkL st sp de co l k) : ∃ j, l[j]? = some p ∧ j < k := by
  have h1 := (List.mem_filter.1 h).1
  obtain ⟨j, hj, rfl⟩ := List.getElem_of_mem h1
  rw [List.length_take] at hj
  refine ⟨j, ?_, by omega⟩
  rw [List.getElem_take]
  exact List.getElem?_eq_getElem (by omega)
theorem pk_ok {st sp de co : Int} {last key : Int × Int} {n : Nat} {l : List Pk} {k : Nat} (h0 : 1 ≤ co) (hk : k ≤ 64) (hl : ∀ j p, l[j]? = some p → j < k → pkOk co p ∧ ∀ x ∈ p.b, 0 ≤ x ∧ x ≤ 255) : okR co ⟨0, key, (pkL st sp de co l k).map (pkM last n)⟩ :=
  ⟨Int.le_refl _, by show (0 : Int) ≤ co; omega, by
    show ((pkL st sp de co l k).map (pkM last n)).length ≤ 64
    rw [List.length_map]
    exact Nat.le_trans (pkL_le _ _ _ _ _ _) hk, fun m hm => by
    obtain ⟨p, hp, rfl⟩ := List.mem_map.1 hm
    obtain ⟨j, hj, hjk⟩ := pkL_mem hp
    obtain ⟨⟨a1, a2, _, _, _, _, a7⟩, a8⟩ := hl j p hj hjk
    exact ⟨by show (0 : Int) < p.i; omega, a2, a8, by show p.b.length ≤ 1000000; omega⟩⟩
theorem pk_hErr {st sp de co : Int} {key : Int × Int} {ms : List Msg} {p : Pk} (hp : pkOk co p) (hl : ms.length < 64) : hErr st sp de co ⟨0, key, ms⟩ p.i (p.at_ - p.er) (p.at_ + p.er) = if pkSafe st sp de co p then 0 else 17 := by
  obtain ⟨a1, a2, a3, a4, a5, a6, a7⟩ := hp
  unfold hErr pkSafe
  simp only [decide_eq_true_eq]
  rw [if_neg (by omega), if_neg (by simp only [Decidable.not_not]; exact ⟨by omega, by omega, by omega⟩)]
  by_cases h : ivl st sp de co (p.at_ + p.er) < p.i + de
  · rw [if_neg (by omega), if_neg (by omega), if_neg (by omega), if_pos h]
  · rw [if_pos (by omega), if_neg h]
theorem pk_d {co : Int} {last : Int × Int} {n : Nat} (hn : co = n) (h1 : 1 ≤ n) (ms : List Msg) : dErr co ⟨0, dnN last n, ms⟩ co last = 0 := by
  subst hn
  generalize hk : dnN last n = k
  unfold dErr
  simp only
  rw [if_neg (by omega), if_neg (by omega), show ((n : Int) - 0).toNat = n from by omega, if_pos hk]
theorem pk_out {st sp de co : Int} {last : Int × Int} {n : Nat} {l : List Pk} {k : Nat} (hn : co = n) (hl : ∀ j p, l[j]? = some p → j < k → pkOk co p) :
    dOut co last ((pkL st sp de co l k).map (pkM last n)) = (pkW last st sp de co n l k).map Pk.b := by
  unfold dOut pkW
  rw [List.filter_map, List.map_map]
  have e : (pkL st sp de co l k).filter (relF co last ∘ pkM last n) = (pkL st sp de co l k).filter (pkGood last n) := by
    apply List.filter_congr
    intro p hp
    obtain ⟨j, hj, hjk⟩ := pkL_mem hp
    obtain ⟨a1, a2, _⟩ := hl j p hj hjk
    unfold relF rightB pkGood pkM
    simp only [Function.comp]
    rw [decide_eq_true a2, show (co - p.i).toNat = n - p.i.toNat from by omega]
    rfl
  rw [e]
  rfl
theorem pk_st {st sp de co : Int} {last key : Int × Int} {n : Nat} {l : List Pk} {k : Nat} (hl : ∀ j p, l[j]? = some p → j < k → pkOk co p) : dSt ⟨0, key, (pkL st sp de co l k).map (pkM last n)⟩ co last = ⟨co, last, []⟩ := by
  unfold dSt
  simp only
  rw [List.filter_eq_nil_iff.2 (fun m hm => by
    obtain ⟨p, hp, rfl⟩ := List.mem_map.1 hm
    obtain ⟨j, hj, hjk⟩ := pkL_mem hp
    obtain ⟨a1, a2, _⟩ := hl j p hj hjk
    unfold stayF pkM
    simp only [decide_eq_true_eq]
    omega)]
end Pl
end Go.Proofs.YtmegiodajkeahaaDoor
