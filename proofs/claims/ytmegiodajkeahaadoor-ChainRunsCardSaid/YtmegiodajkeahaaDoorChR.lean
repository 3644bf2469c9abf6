/- Plain law of a receiver: what Hear and Disclose answer, and what is known and held after them. -/
import Derived.Test.YtmegiodajkeahaaDoorChM
namespace Go.Proofs.YtmegiodajkeahaaDoor
open Go Go.RowKit
namespace Pl
/-- A message: its interval, bytes, tag. -/
structure Msg where
  i : Int
  b : List Int
  t : Int
/-- A receiver: the number of the last known key, this key, what is held. -/
structure Rst where
  kn : Int
  key : Int × Int
  ms : List Msg
/-- The key that tags. -/
def mk (p : Int × Int) : Int × Int := (d1 p.1 p.2 kMac, d2 p.1 p.2 kMac)
def mtag (p : Int × Int) (b : List Int) : Int := tagOf (mk p).1 (mk p).2 b
def hErr (st sp de co : Int) (s : Rst) (i lo hi : Int) : Int :=
  if i < 1 ∨ co < i then 3 else if ¬ ivOk lo hi then 2 else if i + de ≤ ivl st sp de co hi then 17 else if i ≤ s.kn then 10 else if 64 ≤ s.ms.length then 13 else 0
def hSt (s : Rst) (m : Msg) : Rst := ⟨s.kn, s.key, s.ms ++ [m]⟩
def dErr (co : Int) (s : Rst) (i : Int) (key : Int × Int) : Int :=
  if i < 1 ∨ co < i then 3 else if i ≤ s.kn then 10 else if dnN key (i - s.kn).toNat = s.key then 0 else 16
def rightB (i : Int) (key : Int × Int) (m : Msg) : Bool := mtag (dnN key (i - m.i).toNat) m.b == m.t
def relF (i : Int) (key : Int × Int) (m : Msg) : Bool := decide (m.i ≤ i) && rightB i key m
def stayF (i : Int) (m : Msg) : Bool := decide (i < m.i)
def dOut (i : Int) (key : Int × Int) (ms : List Msg) : List (List Int) := (ms.filter (relF i key)).map Msg.b
def dSt (s : Rst) (i : Int) (key : Int × Int) : Rst := ⟨i, key, s.ms.filter (stayF i)⟩
/-- Bytes that may be. -/
def okB (b : List Int) : Prop := (∀ x ∈ b, 0 ≤ x ∧ x ≤ 255) ∧ b.length ≤ 1000000
/-- A receiver that may be. -/
structure okR (co : Int) (s : Rst) : Prop where
  kn0 : 0 ≤ s.kn
  kn1 : s.kn ≤ co
  len : s.ms.length ≤ 64
  each : ∀ m ∈ s.ms, s.kn < m.i ∧ m.i ≤ co ∧ okB m.b
theorem dnN_add (p : Int × Int) (a b : Nat) : dnN (dnN p a) b = dnN p (a + b) := by
  induction b with
  | zero => rfl
  | succ b ih => show dn (dnN (dnN p a) b) = dn (dnN p (a + b)); rw [ih]
theorem hErr_zero {st sp de co : Int} {s : Rst} {i lo hi : Int} (h : hErr st sp de co s i lo hi = 0) : 1 ≤ i ∧ i ≤ co ∧ ivOk lo hi ∧ ivl st sp de co hi < i + de ∧ s.kn < i ∧ s.ms.length < 64 := by
  unfold hErr at h
  split at h
  · omega
  split at h
  · omega
  split at h
  · omega
  split at h
  · omega
  split at h
  · omega
  rename_i a b c d e
  refine ⟨by omega, by omega, Decidable.of_not_not b, by omega, by omega, by omega⟩
theorem hErr_ok {st sp de co : Int} {s : Rst} {i lo hi : Int} (h0 : 1 ≤ i) (h1 : i ≤ co) (h2 : ivOk lo hi) (h3 : ivl st sp de co hi < i + de) (h4 : s.kn < i) (h5 : s.ms.length < 64) : hErr st sp de co s i lo hi = 0 := by
  unfold hErr
  rw [if_neg (by omega), if_neg (by simpa using h2), if_neg (by omega), if_neg (by omega), if_neg (by omega)]
theorem okR.hear {co : Int} {s : Rst} (h : okR co s) {i t : Int} {b : List Int} (hi : s.kn < i) (hi2 : i ≤ co) (hl : s.ms.length < 64) (hb : okB b) : okR co (hSt s ⟨i, b, t⟩) :=
  ⟨h.kn0, h.kn1, by unfold hSt; simp; omega, fun m hm => by
    unfold hSt at hm ⊢
    rcases List.mem_append.1 hm with hm | hm
    · exact h.each m hm
    · simp at hm; subst hm; exact ⟨hi, hi2, hb⟩⟩
theorem dErr_zero {co : Int} {s : Rst} {i : Int} {key : Int × Int} (h : dErr co s i key = 0) : 1 ≤ i ∧ i ≤ co ∧ s.kn < i ∧ dnN key (i - s.kn).toNat = s.key := by
  unfold dErr at h
  split at h
  · omega
  split at h
  · omega
  split at h
  · rename_i a b c
    exact ⟨by omega, by omega, by omega, c⟩
  · omega
theorem okR.disc {co : Int} {s : Rst} (h : okR co s) {i : Int} (key : Int × Int) (hi : s.kn < i) (hi2 : i ≤ co) : okR co (dSt s i key) :=
  ⟨by have := h.kn0; show 0 ≤ i; omega, hi2, by
    have := h.len
    have h2 := List.length_filter_le (stayF i) s.ms
    show (s.ms.filter (stayF i)).length ≤ 64
    omega, fun m hm => by
    obtain ⟨hm1, hm2⟩ := List.mem_filter.1 hm
    obtain ⟨_, a, b⟩ := h.each m hm1
    exact ⟨by show i < m.i; simpa [stayF] using hm2, a, b⟩⟩
theorem okR.new {co : Int} (h : 1 ≤ co) (key : Int × Int) : okR co ⟨0, key, []⟩ := ⟨Int.le_refl _, by show (0 : Int) ≤ co; omega, by simp, fun m hm => by cases hm⟩
end Pl
end Go.Proofs.YtmegiodajkeahaaDoor
