/- Plain law, no program in sight: the mixing of two numbers (mix), that it lies in 0 .. 2^64 - 1, and that it is one to one in its second argument and in its first one. -/
import Derived.Laws.BitsAllLaws
namespace Go.Proofs.YtjeojnlkjecojaaDoor
namespace Pl

/-- x xor (x / 2^k), the shift of a round. -/
def xs (k x : Nat) : Nat := x ^^^ x / 2 ^ k
def M : Nat := 18446744073709551616
def c1 : Nat := 13787848793156543929
def c2 : Nat := 10723151780598845931
def rd (k c x : Nat) : Nat := xs k x * c % 18446744073709551616
def fin3 (x : Nat) : Nat := xs 31 (rd 27 c2 (rd 30 c1 x))
/-- The number that the first line of Mix computes. -/
def start (a b : Int) : Int := (a + 11400714819323198485 * (b + 1)) % 18446744073709551616
/-- Mix. -/
def mix (a b : Int) : Int := (fin3 (start a b).toNat : Int)

theorem start_range (a b : Int) : 0 ≤ start a b ∧ start a b < 18446744073709551616 := by unfold start; omega

theorem xs_lt (k x : Nat) (h : x < 18446744073709551616) : xs k x < 18446744073709551616 := by
  have h1 : x / 2 ^ k < 2 ^ 64 := Nat.lt_of_le_of_lt (Nat.div_le_self _ _) (by omega)
  have := Nat.xor_lt_two_pow (n := 64) (x := x) (y := x / 2 ^ k) (by omega) h1
  unfold xs; omega
theorem rd_lt (k c x : Nat) : rd k c x < 18446744073709551616 := Nat.mod_lt _ (by omega)
theorem mix_nonneg (a b : Int) : 0 ≤ mix a b := by unfold mix; omega
theorem mix_lt (a b : Int) : mix a b < 18446744073709551616 := by
  have := xs_lt 31 (rd 27 c2 (rd 30 c1 (start a b).toNat)) (rd_lt _ _ _)
  unfold mix fin3; omega
theorem mix_le (a b : Int) : mix a b ≤ 18446744073709551615 := by have := mix_lt a b; omega

theorem xor_self_eq {x y : Nat} (h : x ^^^ y = 0) : x = y := by
  have : x ^^^ (x ^^^ y) = x := by rw [h, Nat.xor_zero]
  rw [← Nat.xor_assoc, Nat.xor_self, Nat.zero_xor] at this
  exact this.symm
theorem xs_inj {k x y : Nat} (hk : 1 ≤ k) (h : xs k x = xs k y) : x = y := by
  have hd : (x ^^^ y) = (x ^^^ y) / 2 ^ k := by
    have e : (x ^^^ y) / 2 ^ k = x / 2 ^ k ^^^ y / 2 ^ k := by
      rw [← Nat.shiftRight_eq_div_pow, ← Nat.shiftRight_eq_div_pow, ← Nat.shiftRight_eq_div_pow, Nat.shiftRight_xor_distrib]
    rw [e]
    unfold xs at h
    apply xor_self_eq
    have : (x ^^^ y) ^^^ (x / 2 ^ k ^^^ y / 2 ^ k) = (x ^^^ x / 2 ^ k) ^^^ (y ^^^ y / 2 ^ k) := by ac_rfl
    rw [this, h, Nat.xor_self]
  apply xor_self_eq
  rcases Nat.eq_zero_or_pos (x ^^^ y) with h0 | h0
  · exact h0
  · have h2 : 1 < 2 ^ k := Nat.one_lt_two_pow (by omega)
    have := Nat.div_lt_self h0 h2
    omega
theorem mul_inj {c d x y : Nat} (hc : c * d % 18446744073709551616 = 1) (hx : x < 18446744073709551616) (hy : y < 18446744073709551616)
    (h : x * c % 18446744073709551616 = y * c % 18446744073709551616) : x = y := by
  have e : ∀ z, z < 18446744073709551616 → (z * c % 18446744073709551616) * d % 18446744073709551616 = z := fun z hz => by
    rw [Nat.mod_mul_mod, Nat.mul_assoc, Nat.mul_mod, hc, Nat.mul_one, Nat.mod_mod, Nat.mod_eq_of_lt hz]
  rw [← e x hx, ← e y hy, h]
theorem rd_inj {k c d x y : Nat} (hk : 1 ≤ k) (hc : c * d % 18446744073709551616 = 1) (hx : x < 18446744073709551616) (hy : y < 18446744073709551616) (h : rd k c x = rd k c y) : x = y :=
  xs_inj hk (mul_inj hc (xs_lt k x hx) (xs_lt k y hy) h)
theorem fin3_inj {x y : Nat} (hx : x < 18446744073709551616) (hy : y < 18446744073709551616) (h : fin3 x = fin3 y) : x = y := by
  have h1 := xs_inj (by omega) h
  have h2 := rd_inj (d := 3573116690164977347) (by omega) (by decide +kernel) (rd_lt _ _ _) (rd_lt _ _ _) h1
  exact rd_inj (d := 10871156337175269513) (by omega) (by decide +kernel) hx hy h2
theorem start_of_mix {a b a' b' : Int} (h : mix a b = mix a' b') : start a b = start a' b' := by
  have h1 := start_range a b
  have h2 := start_range a' b'
  have h3 : fin3 (start a b).toNat = fin3 (start a' b').toNat := by unfold mix at h; omega
  have := fin3_inj (by omega) (by omega) h3
  omega
theorem golden_dvd {d k : Int} (h : 11400714819323198485 * d = 18446744073709551616 * k) : (18446744073709551616 : Int) ∣ d := by
  have e : 17428512612931826493 * (11400714819323198485 * d) = 17428512612931826493 * (18446744073709551616 * k) := by rw [h]
  rw [← Int.mul_assoc, show (17428512612931826493 * 11400714819323198485 : Int) = 1 + 18446744073709551616 * 10771413168148108919 from by decide, Int.add_mul, Int.one_mul, Int.mul_assoc, Int.mul_left_comm 17428512612931826493] at e
  have d1 : (18446744073709551616 : Int) ∣ d + 18446744073709551616 * (10771413168148108919 * d) := ⟨_, e⟩
  have d2 : (18446744073709551616 : Int) ∣ 18446744073709551616 * (10771413168148108919 * d) := ⟨_, rfl⟩
  exact (Int.dvd_add_left d2).1 d1
theorem mix_inj_right {a b c : Int} (hb : 0 ≤ b ∧ b < 18446744073709551616) (hc : 0 ≤ c ∧ c < 18446744073709551616) (h : mix a b = mix a c) : b = c := by
  have h1 := Int.emod_eq_emod_iff_emod_sub_eq_zero.1 (start_of_mix h)
  obtain ⟨k, hk⟩ := Int.dvd_of_emod_eq_zero h1
  have e : 11400714819323198485 * (b - c) = a + 11400714819323198485 * (b + 1) - (a + 11400714819323198485 * (c + 1)) := by clear hk h1 h; omega
  obtain ⟨t, ht⟩ := golden_dvd (d := b - c) (k := k) (e.trans hk)
  clear hk e h1 h
  omega
theorem mix_inj_left {a b c : Int} (ha : 0 ≤ a ∧ a < 18446744073709551616) (hb : 0 ≤ b ∧ b < 18446744073709551616) (h : mix a c = mix b c) : a = b := by
  have h1 := Int.emod_eq_emod_iff_emod_sub_eq_zero.1 (start_of_mix h)
  obtain ⟨k, hk⟩ := Int.dvd_of_emod_eq_zero h1
  have e : a - b = a + 11400714819323198485 * (c + 1) - (b + 11400714819323198485 * (c + 1)) := by clear hk h1 h; omega
  have hk' := e.trans hk
  clear hk e h1 h
  omega
/-- One step on in the seed is one step on in the number. -/
theorem mix_next (a b : Int) : mix (a + 11400714819323198485) b = mix a (b + 1) := by
  have e : start (a + 11400714819323198485) b = start a (b + 1) := by
    unfold start
    rw [show a + 11400714819323198485 + 11400714819323198485 * (b + 1) = a + 11400714819323198485 * (b + 1 + 1) from by omega]
  unfold mix
  rw [e]
/-! As the walk spells it. -/
theorem wrap_start (a b : Int) : IntKind.u64.wrap (a + IntKind.u64.wrap (11400714819323198485 * IntKind.u64.wrap (b + 1))) = ((start a b).toNat : Int) := by
  have h := start_range a b
  rw [IntKind.wrap_u64, IntKind.wrap_u64, IntKind.wrap_u64, Int.toNat_of_nonneg h.1]
  unfold start
  rw [Int.add_emod a ((11400714819323198485 * ((b + 1) % 18446744073709551616)) % 18446744073709551616), Int.emod_emod_of_dvd _ (Int.dvd_refl _), Int.mul_emod 11400714819323198485 ((b + 1) % 18446744073709551616), Int.emod_emod_of_dvd _ (Int.dvd_refl _), ← Int.mul_emod, ← Int.add_emod]
theorem step30 (X : Nat) (hX : X < 18446744073709551616) : IntKind.u64.wrap (bits .xor .u64 (X : Int) ((X : Int) / 1073741824) * 13787848793156543929) = ((rd 30 c1 X : Nat) : Int) := by
  have h := mixStep_u64 X 1073741824 13787848793156543929 hX
  exact h
theorem step27 (X : Nat) (hX : X < 18446744073709551616) : IntKind.u64.wrap (bits .xor .u64 (X : Int) ((X : Int) / 134217728) * 10723151780598845931) = ((rd 27 c2 X : Nat) : Int) := by
  have h := mixStep_u64 X 134217728 10723151780598845931 hX
  exact h
theorem step31 (X : Nat) (hX : X < 18446744073709551616) : bits .xor .u64 (X : Int) ((X : Int) / 2147483648) = ((xs 31 X : Nat) : Int) := by
  have h := xorShift_u64 X 2147483648 hX
  exact h
theorem mix_walk (a b : Int) : bits .xor .u64 (IntKind.u64.wrap (bits .xor .u64 (IntKind.u64.wrap (bits .xor .u64 ((start a b).toNat : Int) (((start a b).toNat : Int) / 1073741824) * 13787848793156543929))
    (IntKind.u64.wrap (bits .xor .u64 ((start a b).toNat : Int) (((start a b).toNat : Int) / 1073741824) * 13787848793156543929) / 134217728) * 10723151780598845931))
    (IntKind.u64.wrap (bits .xor .u64 (IntKind.u64.wrap (bits .xor .u64 ((start a b).toNat : Int) (((start a b).toNat : Int) / 1073741824) * 13787848793156543929))
    (IntKind.u64.wrap (bits .xor .u64 ((start a b).toNat : Int) (((start a b).toNat : Int) / 1073741824) * 13787848793156543929) / 134217728) * 10723151780598845931) / 2147483648) = mix a b := by
  have h := start_range a b
  rw [step30 _ (by omega), step27 _ (rd_lt _ _ _), step31 _ (rd_lt _ _ _)]
  rfl
theorem wrap_mix (a b : Int) : IntKind.u64.wrap (mix a b) = mix a b := by
  have h1 := mix_nonneg a b
  have h2 := mix_lt a b
  rw [IntKind.wrap_u64]
  omega
attribute [irreducible] mix
end Pl
end Go.Proofs.YtjeojnlkjecojaaDoor
