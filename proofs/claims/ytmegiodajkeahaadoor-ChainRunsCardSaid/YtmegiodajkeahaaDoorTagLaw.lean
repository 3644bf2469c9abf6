/- Plain law, no program in sight: the tag of a byte string as a fold over its bytes, that the words of at most eight bytes tell strings of one length apart, and the tag of a string that is made of whole words. -/
import Derived.Test.YtmegiodajkeahaaDoorMix
namespace Go.Proofs.YtmegiodajkeahaaDoor
namespace Pl

/-- A number's place in a word. -/
def sft (s : Nat) : Int := 2 ^ (8 * s)
theorem sft_zero : sft 0 = 1 := rfl
theorem sft_succ (s : Nat) : sft (s + 1) = 256 * sft s := by
  unfold sft
  rw [show 8 * (s + 1) = 8 * s + 8 from by omega, Int.pow_add]
  omega
theorem sft_pos (s : Nat) : 0 < sft s := Int.pow_pos (by omega)

structure St where
  h : Int
  w : Int
  s : Nat

def stp (t : St) (c : Int) : St := if t.s = 7 then ⟨mix t.h (t.w + c * sft t.s), 0, 0⟩ else ⟨t.h, t.w + c * sft t.s, t.s + 1⟩
def flush (t : St) : Int := if 0 < t.s then mix t.h t.w else t.h
def stOf (k0 k1 : Int) (xs : List Int) : St := xs.foldl stp ⟨mix k0 k1, 0, 0⟩
/-- The tag. -/
def tagOf (k0 k1 : Int) (xs : List Int) : Int := mix (flush (stOf k0 k1 xs)) (xs.length : Int)

/-- The three slots behind i bytes. -/
def hAt (k0 k1 : Int) (xs : List Int) (i : Nat) : Int := (stOf k0 k1 (xs.take i)).h
def wAt (k0 k1 : Int) (xs : List Int) (i : Nat) : Int := (stOf k0 k1 (xs.take i)).w

theorem stOf_snoc (k0 k1 : Int) (xs : List Int) (c : Int) : stOf k0 k1 (xs ++ [c]) = stp (stOf k0 k1 xs) c := by simp [stOf]
theorem take_snoc {xs : List Int} {i : Nat} {x : Int} (h : xs[i]? = some x) : xs.take (i + 1) = xs.take i ++ [x] := by
  rw [List.take_add_one, h]; rfl
theorem stOf_next (k0 k1 : Int) {xs : List Int} {i : Nat} {x : Int} (h : xs[i]? = some x) : stOf k0 k1 (xs.take (i + 1)) = stp (stOf k0 k1 (xs.take i)) x := by
  rw [take_snoc h, stOf_snoc]
theorem stp_s (t : St) (c : Int) (h : t.s < 8) : (stp t c).s = (t.s + 1) % 8 := by
  unfold stp
  split
  · rename_i e; rw [e]
  · show t.s + 1 = _; omega
theorem foldl_s : ∀ (xs : List Int) (t : St), t.s < 8 → (xs.foldl stp t).s = (t.s + xs.length) % 8
  | [], t, h => by simp; omega
  | x :: xs, t, h => by
    have hs := stp_s t x h
    rw [List.foldl_cons, foldl_s xs (stp t x) (by omega), hs]
    simp only [List.length_cons]
    omega
theorem stOf_s (k0 k1 : Int) (xs : List Int) : (stOf k0 k1 xs).s = xs.length % 8 := by
  unfold stOf
  rw [foldl_s _ _ (by show 0 < 8; omega)]
  simp
theorem stp_w (t : St) (c : Int) (h : 0 ≤ t.w ∧ t.w < sft t.s) (hc : 0 ≤ c ∧ c ≤ 255) : 0 ≤ (stp t c).w ∧ (stp t c).w < sft (stp t c).s := by
  unfold stp
  split
  · exact ⟨Int.le_refl _, by show (0 : Int) < sft 0; rw [sft_zero]; omega⟩
  · show 0 ≤ t.w + c * sft t.s ∧ t.w + c * sft t.s < sft (t.s + 1)
    rw [sft_succ]
    have hp := sft_pos t.s
    have h1 : 0 ≤ c * sft t.s := Int.mul_nonneg hc.1 (by omega)
    have h2 : c * sft t.s ≤ 255 * sft t.s := Int.mul_le_mul_of_nonneg_right hc.2 (by omega)
    omega
theorem foldl_w : ∀ (xs : List Int) (t : St), (0 ≤ t.w ∧ t.w < sft t.s) → (∀ x ∈ xs, 0 ≤ x ∧ x ≤ 255) → 0 ≤ (xs.foldl stp t).w ∧ (xs.foldl stp t).w < sft (xs.foldl stp t).s
  | [], _, h, _ => h
  | x :: xs, t, h, hx => by
    rw [List.foldl_cons]
    exact foldl_w xs (stp t x) (stp_w t x h (hx x (by simp))) (fun y hy => hx y (by simp [hy]))
theorem stOf_w (k0 k1 : Int) (xs : List Int) (hx : ∀ x ∈ xs, 0 ≤ x ∧ x ≤ 255) : 0 ≤ (stOf k0 k1 xs).w ∧ (stOf k0 k1 xs).w < sft (xs.length % 8) := by
  have := foldl_w xs ⟨mix k0 k1, 0, 0⟩ ⟨Int.le_refl _, by show (0 : Int) < sft 0; rw [sft_zero]; omega⟩ hx
  have e := stOf_s k0 k1 xs
  unfold stOf at *
  rw [e] at this
  exact this

/-! A word's number: the least significant byte first. -/
def word : List Int → Int
  | [] => 0
  | x :: xs => x + 256 * word xs
theorem word_snoc : ∀ (xs : List Int) (c : Int), word (xs ++ [c]) = word xs + c * sft xs.length
  | [], c => by simp [word, sft_zero]
  | x :: xs, c => by
    simp only [List.cons_append, word, word_snoc xs c, List.length_cons, sft_succ]
    rw [Int.mul_add, Int.mul_left_comm c 256]
    omega
theorem word_inj : ∀ {xs ys : List Int}, xs.length = ys.length → (∀ x ∈ xs, 0 ≤ x ∧ x ≤ 255) → (∀ x ∈ ys, 0 ≤ x ∧ x ≤ 255) → word xs = word ys → xs = ys
  | [], [], _, _, _, _ => rfl
  | [], _ :: _, h, _, _, _ => by simp at h
  | _ :: _, [], h, _, _, _ => by simp at h
  | x :: xs, y :: ys, h, hx, hy, e => by
    have h1 := hx x (by simp)
    have h2 := hy y (by simp)
    simp only [word] at e
    have e1 : x = y := by omega
    have e2 : word xs = word ys := by omega
    rw [e1, word_inj (by simpa using h) (fun z hz => hx z (by simp [hz])) (fun z hz => hy z (by simp [hz])) e2]
theorem word_range : ∀ (xs : List Int), (∀ x ∈ xs, 0 ≤ x ∧ x ≤ 255) → 0 ≤ word xs ∧ word xs < sft xs.length
  | [], _ => by simp [word, sft_zero]
  | x :: xs, hx => by
    have h1 := hx x (by simp)
    have h2 := word_range xs (fun z hz => hx z (by simp [hz]))
    simp only [word, List.length_cons, sft_succ]
    omega

/-- Fewer than eight further bytes go into the word. -/
theorem foldl_few (h : Int) : ∀ (ys xs : List Int), xs.length + ys.length < 8 → ys.foldl stp ⟨h, word xs, xs.length⟩ = ⟨h, word (xs ++ ys), xs.length + ys.length⟩
  | [], xs, _ => by simp
  | y :: ys, xs, hl => by
    simp only [List.length_cons] at hl
    have e : stp ⟨h, word xs, xs.length⟩ y = ⟨h, word (xs ++ [y]), (xs ++ [y]).length⟩ := by
      unfold stp
      rw [if_neg (by show ¬ xs.length = 7; omega), word_snoc]
      simp
    rw [List.foldl_cons, e, foldl_few h ys (xs ++ [y]) (by simp; omega)]
    simp
    omega
theorem foldl_eight (h : Int) (ys : List Int) (hl : ys.length = 8) : ys.foldl stp ⟨h, 0, 0⟩ = ⟨mix h (word ys), 0, 0⟩ := by
  have hne : ys ≠ [] := by intro e; rw [e] at hl; simp at hl
  have e := List.dropLast_concat_getLast hne
  generalize ys.getLast hne = c at e
  have hd : ys.dropLast.length = 7 := by simp; omega
  generalize ys.dropLast = zs at e hd
  subst e
  have f := foldl_few h zs [] (by simp; omega)
  simp only [word, List.length_nil, Nat.zero_add, List.nil_append] at f
  rw [List.foldl_append, f, List.foldl_cons, List.foldl_nil, word_snoc]
  unfold stp
  rw [if_pos hd]

/-- The tag of a string of one to eight bytes: its one word, then its length. -/
theorem tagOf_short (k0 k1 : Int) (xs : List Int) (h1 : 1 ≤ xs.length) (h8 : xs.length ≤ 8) : tagOf k0 k1 xs = mix (mix (mix k0 k1) (word xs)) (xs.length : Int) := by
  unfold tagOf stOf
  by_cases h : xs.length = 8
  · rw [foldl_eight _ _ h]
    rfl
  · have f := foldl_few (mix k0 k1) xs [] (by simp; omega)
    simp only [word, List.length_nil, Nat.zero_add, List.nil_append] at f
    rw [f]
    unfold flush
    rw [if_pos (by show 0 < xs.length; omega)]
theorem tagOf_inj {k0 k1 : Int} {xs ys : List Int} (hl : xs.length = ys.length) (h8 : xs.length ≤ 8) (hx : ∀ x ∈ xs, 0 ≤ x ∧ x ≤ 255) (hy : ∀ x ∈ ys, 0 ≤ x ∧ x ≤ 255)
    (h : tagOf k0 k1 xs = tagOf k0 k1 ys) : xs = ys := by
  by_cases h0 : xs.length = 0
  · have e1 := List.eq_nil_of_length_eq_zero h0
    have e2 : ys = [] := List.eq_nil_of_length_eq_zero (by omega)
    rw [e1, e2]
  · rw [tagOf_short k0 k1 xs (by omega) h8, tagOf_short k0 k1 ys (by omega) (by omega), hl] at h
    have r1 := word_range xs hx
    have r2 := word_range ys hy
    have b : ∀ n : Nat, n ≤ 8 → sft n ≤ 18446744073709551616 := by
      intro n hn
      have hc : n = 0 ∨ n = 1 ∨ n = 2 ∨ n = 3 ∨ n = 4 ∨ n = 5 ∨ n = 6 ∨ n = 7 ∨ n = 8 := by omega
      rcases hc with rfl | rfl | rfl | rfl | rfl | rfl | rfl | rfl | rfl <;> decide
    have b1 := b xs.length h8
    have b2 := b ys.length (by omega)
    have e := mix_inj_left ⟨mix_nonneg _ _, mix_lt _ _⟩ ⟨mix_nonneg _ _, mix_lt _ _⟩ h
    exact word_inj hl hx hy (mix_inj_right (by omega) (by omega) e)
theorem tagOf_range (k0 k1 : Int) (xs : List Int) : 0 ≤ tagOf k0 k1 xs ∧ tagOf k0 k1 xs < 18446744073709551616 := ⟨mix_nonneg _ _, mix_lt _ _⟩

/-! The reference goes from word to word. -/
def seg (xs : List Int) (i k : Nat) : List Int := (xs.drop i).take k
def refH (k0 k1 : Int) (xs : List Int) (i : Nat) : Int := flush (stOf k0 k1 (xs.take i))
theorem refH_zero (k0 k1 : Int) (xs : List Int) : refH k0 k1 xs 0 = mix k0 k1 := rfl
theorem seg_length (xs : List Int) (i k : Nat) (h : i + k ≤ xs.length) : (seg xs i k).length = k := by unfold seg; simp; omega
theorem seg_snoc {xs : List Int} {i k : Nat} {x : Int} (h : xs[i + k]? = some x) : seg xs i (k + 1) = seg xs i k ++ [x] := by
  unfold seg
  rw [List.take_add_one, List.getElem?_drop, h]; rfl
theorem word_seg {xs : List Int} {i k : Nat} {x : Int} (h : xs[i + k]? = some x) : word (seg xs i (k + 1)) = word (seg xs i k) + x * sft k := by
  have hl := (List.getElem?_eq_some_iff.1 h).1
  rw [seg_snoc h, word_snoc, seg_length xs i k (by omega)]
theorem seg_end {xs : List Int} {i k : Nat} (hk : k ≤ 8) (h : k < 8 → xs.length ≤ i + k) : seg xs i k = seg xs i 8 := by
  by_cases h8 : k = 8
  · rw [h8]
  · have := h (by omega)
    unfold seg
    rw [List.take_of_length_le (by simp; omega), List.take_of_length_le (by simp; omega)]
theorem refH_next (k0 k1 : Int) (xs : List Int) (j : Nat) (hx : ∀ x ∈ xs, 0 ≤ x ∧ x ≤ 255) (h : 8 * j < xs.length) : refH k0 k1 xs (8 * (j + 1)) = mix (refH k0 k1 xs (8 * j)) (word (seg xs (8 * j) 8)) := by
  have hl : (xs.take (8 * j)).length = 8 * j := by simp; omega
  have hs := stOf_s k0 k1 (xs.take (8 * j))
  have hw := stOf_w k0 k1 (xs.take (8 * j)) (fun x h => hx x (List.mem_of_mem_take h))
  rw [hl, Nat.mul_mod_right] at hs hw
  rw [sft_zero] at hw
  have hw0 : (stOf k0 k1 (xs.take (8 * j))).w = 0 := by omega
  have hh : refH k0 k1 xs (8 * j) = (stOf k0 k1 (xs.take (8 * j))).h := by
    unfold refH flush
    rw [hs]; rfl
  have he : stOf k0 k1 (xs.take (8 * j)) = ⟨refH k0 k1 xs (8 * j), 0, 0⟩ := by
    rw [hh, ← hw0]
    generalize stOf k0 k1 (xs.take (8 * j)) = t at hs hw0
    obtain ⟨a, b, c⟩ := t
    simp only at hs hw0
    rw [hs]
  have ht : xs.take (8 * (j + 1)) = xs.take (8 * j) ++ seg xs (8 * j) 8 := by
    unfold seg
    rw [show 8 * (j + 1) = 8 * j + 8 from by omega, List.take_add]
  have e2 : stOf k0 k1 (xs.take (8 * (j + 1))) = (seg xs (8 * j) 8).foldl stp ⟨refH k0 k1 xs (8 * j), 0, 0⟩ := by
    rw [ht, ← he]
    unfold stOf
    rw [List.foldl_append]
  show flush (stOf k0 k1 (xs.take (8 * (j + 1)))) = _
  rw [e2]
  have hle : (seg xs (8 * j) 8).length ≤ 8 := by unfold seg; simp; omega
  have hge : 1 ≤ (seg xs (8 * j) 8).length := by unfold seg; simp; omega
  by_cases h8 : (seg xs (8 * j) 8).length = 8
  · rw [foldl_eight _ _ h8]; rfl
  · have f := foldl_few (refH k0 k1 xs (8 * j)) (seg xs (8 * j) 8) [] (by simp; omega)
    simp only [word, List.length_nil, Nat.zero_add, List.nil_append] at f
    rw [f]
    unfold flush
    rw [if_pos (by show 0 < (seg xs (8 * j) 8).length; omega)]
theorem refH_end (k0 k1 : Int) (xs : List Int) (i : Nat) (h : xs.length ≤ i) : mix (refH k0 k1 xs i) (xs.length : Int) = tagOf k0 k1 xs := by
  unfold refH
  rw [List.take_of_length_le h]
  rfl
theorem word_seg_range (xs : List Int) (i k : Nat) (hx : ∀ x ∈ xs, 0 ≤ x ∧ x ≤ 255) (h : i + k ≤ xs.length) : 0 ≤ word (seg xs i k) ∧ word (seg xs i k) < sft k := by
  have := word_range (seg xs i k) (fun x h => hx x (List.mem_of_mem_drop (List.mem_of_mem_take h)))
  rw [seg_length xs i k h] at this
  exact this

/-- The key that is derived: its two numbers. -/
def d1 (k0 k1 : Int) (xs : List Int) : Int := mix (tagOf k0 k1 xs) 1
def d2 (k0 k1 : Int) (xs : List Int) : Int := mix (tagOf k0 k1 xs) 2
theorem d_ne (k0 k1 : Int) (xs : List Int) : d1 k0 k1 xs ≠ d2 k0 k1 xs := by
  intro h
  have := mix_inj_right (a := tagOf k0 k1 xs) (b := 1) (c := 2) (by omega) (by omega) h
  omega
theorem d1_inj {k0 k1 : Int} {xs ys : List Int} (h : d1 k0 k1 xs = d1 k0 k1 ys) : tagOf k0 k1 xs = tagOf k0 k1 ys := mix_inj_left (tagOf_range _ _ _) (tagOf_range _ _ _) h

/-- A list of tags. -/
def foldOf (xs : List Int) : Int := xs.foldl mix 0
theorem foldOf_snoc (xs : List Int) (t : Int) : foldOf (xs ++ [t]) = mix (foldOf xs) t := by simp [foldOf]

/-! Whole words. -/
/-- Byte number k of a number. -/
def byteOf (x : Int) (k : Nat) : Int := x / sft k % 256
def bytes8 (x : Int) : List Int := [byteOf x 0, byteOf x 1, byteOf x 2, byteOf x 3, byteOf x 4, byteOf x 5, byteOf x 6, byteOf x 7]
theorem word_bytes8 (x : Int) (h : 0 ≤ x ∧ x < 18446744073709551616) : word (bytes8 x) = x := by
  have s : sft 0 = 1 ∧ sft 1 = 256 ∧ sft 2 = 65536 ∧ sft 3 = 16777216 ∧ sft 4 = 4294967296 ∧ sft 5 = 1099511627776 ∧ sft 6 = 281474976710656 ∧ sft 7 = 72057594037927936 := by decide
  obtain ⟨s0, s1, s2, s3, s4, s5, s6, s7⟩ := s
  simp only [word, bytes8, byteOf, s0, s1, s2, s3, s4, s5, s6, s7]
  omega
def bytesOf (xs : List Int) : List Int := xs.flatMap bytes8
theorem stOf_bytes (k0 k1 : Int) (xs : List Int) (hx : ∀ x ∈ xs, 0 ≤ x ∧ x < 18446744073709551616) : stOf k0 k1 (bytesOf xs) = ⟨xs.foldl mix (mix k0 k1), 0, 0⟩ := by
  have g : ∀ (xs : List Int) (h : Int), (∀ x ∈ xs, 0 ≤ x ∧ x < 18446744073709551616) → (bytesOf xs).foldl stp ⟨h, 0, 0⟩ = ⟨xs.foldl mix h, 0, 0⟩ := by
    intro xs
    induction xs with
    | nil => intro h _; rfl
    | cons x xs ih =>
      intro h hx
      unfold bytesOf at ih ⊢
      rw [List.flatMap_cons, List.foldl_append, foldl_eight h (bytes8 x) rfl, word_bytes8 x (hx x (by simp)), ih _ (fun y hy => hx y (by simp [hy]))]
      rfl
  exact g xs _ hx
theorem bytesOf_length (xs : List Int) : (bytesOf xs).length = 8 * xs.length := by
  unfold bytesOf
  induction xs with
  | nil => rfl
  | cons x xs ih => rw [List.flatMap_cons, List.length_append, ih]; simp [bytes8]; omega
theorem tagOf_words (k0 k1 : Int) (xs : List Int) (hx : ∀ x ∈ xs, 0 ≤ x ∧ x < 18446744073709551616) : tagOf k0 k1 (bytesOf xs) = mix (xs.foldl mix (mix k0 k1)) (8 * (xs.length : Int)) := by
  unfold tagOf
  rw [stOf_bytes k0 k1 xs hx, bytesOf_length]
  unfold flush
  rw [if_neg (by show ¬ 0 < 0; omega)]
  congr 1
/-! As the walk spells it. -/
theorem st_at (k0 k1 : Int) (xs : List Int) (k : Nat) (h : k ≤ xs.length) : stOf k0 k1 (xs.take k) = ⟨hAt k0 k1 xs k, wAt k0 k1 xs k, k % 8⟩ := by
  have hs := stOf_s k0 k1 (xs.take k)
  rw [List.length_take, Nat.min_eq_left h] at hs
  unfold hAt wAt
  rw [← hs]
theorem at_next (k0 k1 : Int) {xs : List Int} {k : Nat} {x : Int} (hx : xs[k]? = some x) : stp ⟨hAt k0 k1 xs k, wAt k0 k1 xs k, k % 8⟩ x = ⟨hAt k0 k1 xs (k + 1), wAt k0 k1 xs (k + 1), (k + 1) % 8⟩ := by
  have hl : k < xs.length := (List.getElem?_eq_some_iff.1 hx).1
  rw [← st_at k0 k1 xs k (by omega), ← st_at k0 k1 xs (k + 1) (by omega), stOf_next k0 k1 hx]
theorem w_zero (k0 k1 : Int) (xs : List Int) (k : Nat) (h : k ≤ xs.length) (hx : ∀ x ∈ xs, 0 ≤ x ∧ x ≤ 255) (h0 : k % 8 = 0) : wAt k0 k1 xs k = 0 := by
  have hw := stOf_w k0 k1 (xs.take k) (fun x hx' => hx x (List.mem_of_mem_take hx'))
  rw [List.length_take, Nat.min_eq_left h, h0, sft_zero] at hw
  unfold wAt
  omega
theorem w_range (k0 k1 : Int) (xs : List Int) (k : Nat) (h : k ≤ xs.length) (hx : ∀ x ∈ xs, 0 ≤ x ∧ x ≤ 255) : 0 ≤ wAt k0 k1 xs k ∧ wAt k0 k1 xs k < sft (k % 8) := by
  have hw := stOf_w k0 k1 (xs.take k) (fun x hx' => hx x (List.mem_of_mem_take hx'))
  rw [List.length_take, Nat.min_eq_left h] at hw
  exact hw
theorem tag_at (k0 k1 : Int) (xs : List Int) : mix (flush ⟨hAt k0 k1 xs xs.length, wAt k0 k1 xs xs.length, xs.length % 8⟩) (xs.length : Int) = tagOf k0 k1 xs := by
  rw [← st_at k0 k1 xs xs.length (Nat.le_refl _), List.take_length]
  rfl
theorem sft_le (s : Nat) (hs : s < 8) : sft s ≤ 72057594037927936 := by
  have hc : s = 0 ∨ s = 1 ∨ s = 2 ∨ s = 3 ∨ s = 4 ∨ s = 5 ∨ s = 6 ∨ s = 7 := by omega
  rcases hc with rfl | rfl | rfl | rfl | rfl | rfl | rfl | rfl <;> decide
theorem sft_nat (s : Nat) : sft s = ((2 ^ (8 * s) : Nat) : Int) := by unfold sft; rw [Int.natCast_pow]; rfl
theorem mul_sft (c : Int) (s : Nat) (hs : s < 8) (hc : 0 ≤ c ∧ c ≤ 255) : 0 ≤ c * sft s ∧ c * sft s < 18446744073709551616 := by
  have hp := sft_pos s
  have hl := sft_le s hs
  have h1 : 0 ≤ c * sft s := Int.mul_nonneg hc.1 (by omega)
  have h2 : c * sft s ≤ 255 * sft s := Int.mul_le_mul_of_nonneg_right hc.2 (by omega)
  omega
theorem wrap_shift (c : Int) (s : Nat) (hs : s < 8) (hc : 0 ≤ c ∧ c ≤ 255) : IntKind.u64.wrap (c * 2 ^ (8 * s)) = c * sft s := by
  have h := mul_sft c s hs hc
  rw [show (2 : Int) ^ (8 * s) = sft s from rfl, IntKind.wrap_u64]
  exact Int.emod_eq_of_lt h.1 h.2
theorem or_shift (wd c : Int) (s : Nat) (hs : s < 8) (hc : 0 ≤ c ∧ c ≤ 255) (hw : 0 ≤ wd ∧ wd < sft s) :
    bits .or .u64 wd (IntKind.u64.wrap (c * 2 ^ (8 * s))) = wd + c * sft s := by
  have h := mul_sft c s hs hc
  have hl := sft_le s hs
  rw [wrap_shift c s hs hc, u64_or wd (c * sft s) hw.1 (by omega) h.1 h.2]
  have e : (c * sft s).toNat = c.toNat * 2 ^ (8 * s) := by
    obtain ⟨n, rfl⟩ := Int.eq_ofNat_of_zero_le hc.1
    rw [sft_nat, ← Int.natCast_mul]
    rfl
  have hs' := sft_nat s
  have j := nat_join (8 * s) (c * sft s).toNat wd.toNat (by rw [e]; exact Nat.mul_mod_left _ _) (by omega)
  rw [Nat.or_comm, j]
  omega
theorem add_shift (wd c : Int) (s : Nat) (hs : s < 8) (hc : 0 ≤ c ∧ c ≤ 255) (hw : 0 ≤ wd ∧ wd < sft s) :
    IntKind.u64.wrap (wd + IntKind.u64.wrap (c * 2 ^ (8 * s))) = wd + c * sft s := by
  have h := mul_sft c s hs hc
  have hl := sft_le s hs
  have h2 : c * sft s ≤ 255 * sft s := Int.mul_le_mul_of_nonneg_right hc.2 (by omega)
  rw [wrap_shift c s hs hc, IntKind.wrap_u64]
  exact Int.emod_eq_of_lt (by omega) (by omega)
theorem stp_few (h wd c : Int) (s : Nat) (h7 : s ≠ 7) : stp ⟨h, wd, s⟩ c = ⟨h, wd + c * sft s, s + 1⟩ := by
  unfold stp
  rw [if_neg (by simpa using h7)]
theorem stp_full (h wd c : Int) : stp ⟨h, wd, 7⟩ c = ⟨mix h (wd + c * sft 7), 0, 0⟩ := rfl
end Pl
end Go.Proofs.YtmegiodajkeahaaDoor
