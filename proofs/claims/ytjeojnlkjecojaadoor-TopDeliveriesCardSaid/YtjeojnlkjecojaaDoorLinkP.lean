/- Plain law of links, no program in sight: what a link is, whether it is valid, its delays. -/
import Derived.Test.YtjeojnlkjecojaaDoorMix
namespace Go.Proofs.YtjeojnlkjecojaaDoor.Pl
/-- A change: when, of which direction, to which delay. -/
abbrev Chg := Int × Int × Int
structure Lk where
  d0 : Int
  d1 : Int
  v0 : Int
  v1 : Int
  loss : Int
  seed : Int
  ch : List Chg
def inR (n lim : Int) : Bool := decide (0 ≤ n) && decide (n ≤ lim)
theorem inR_true {n lim : Int} : inR n lim = true ↔ 0 ≤ n ∧ n ≤ lim := by unfold inR; simp
theorem inR_false {n lim : Int} : inR n lim = false ↔ n < 0 ∨ lim < n := by
  unfold inR
  rw [Bool.and_eq_false_iff, decide_eq_false_iff_not, decide_eq_false_iff_not]
  omega
def clampD (x : Int) : Int := if 10000000000 < if x < 0 then 0 else x then 10000000000 else if x < 0 then 0 else x
theorem clampD_eq {x : Int} : clampD x = x ↔ 0 ≤ x ∧ x ≤ 10000000000 := by unfold clampD; split <;> split at * <;> omega
def chgOk (c : Chg) : Bool := inR c.1 1125899906842624 && inR c.2.1 1 && inR c.2.2 10000000000
def ordered : List Chg → Bool
  | a :: b :: r => decide (a.1 ≤ b.1) && ordered (b :: r)
  | _ => true
def headOk (l : Lk) : Bool := inR l.d0 10000000000 && inR l.d1 10000000000 && inR l.v0 10000000000 && inR l.v1 10000000000 && inR l.loss 1000
def errOf (l : Lk) : Int := if headOk l = false then 3 else if l.ch.all chgOk = false then 3 else if 16 < l.ch.length then 6 else if ordered l.ch = false then 12 else 0
theorem ordered_step : ∀ (l : List Chg) (i : Nat) (a b : Chg), ordered l = true → l[i]? = some a → l[i + 1]? = some b → a.1 ≤ b.1
  | [], i, a, b, _, h, _ => by simp at h
  | [_], i, a, b, _, _, h2 => by simp at h2
  | x :: y :: r, 0, a, b, h, h1, h2 => by
    simp at h1 h2; subst h1 h2
    simp [ordered] at h
    exact h.1
  | x :: y :: r, i + 1, a, b, h, h1, h2 => by
    simp [ordered] at h
    exact ordered_step (y :: r) i a b h.2 (by simpa using h1) (by simpa using h2)
theorem ordered_of : ∀ (l : List Chg), (∀ (i : Nat) (a b : Chg), l[i]? = some a → l[i + 1]? = some b → a.1 ≤ b.1) → ordered l = true
  | [], _ => rfl
  | [_], _ => rfl
  | x :: y :: r, h => by
    simp [ordered]
    exact ⟨h 0 x y rfl rfl, ordered_of (y :: r) (fun i a b h1 h2 => h (i + 1) a b (by simpa using h1) (by simpa using h2))⟩
theorem errOf_head {l : Lk} (h : headOk l = false) : errOf l = 3 := by unfold errOf; rw [if_pos h]
theorem errOf_chg {l : Lk} {k : Nat} {c : Chg} (hc : l.ch[k]? = some c) (h : chgOk c = false) : errOf l = 3 := by
  have : l.ch.all chgOk = false := by
    rw [Bool.eq_false_iff]; intro ha
    have := List.all_eq_true.1 ha c (List.mem_of_getElem? hc)
    rw [h] at this; cases this
  unfold errOf; split
  · rfl
  · rfl
theorem all_of {l : List Chg} (h : ∀ (i : Nat) (c : Chg), l[i]? = some c → chgOk c = true) : l.all chgOk = true := by
  rw [List.all_eq_true]; intro c hc
  obtain ⟨i, hi⟩ := List.mem_iff_getElem?.1 hc
  exact h i c hi
theorem errOf_long {l : Lk} (h : headOk l = true) (ha : l.ch.all chgOk = true) (hl : 16 < l.ch.length) : errOf l = 6 := by
  unfold errOf; simp [h, ha, hl]
theorem errOf_order {l : Lk} (h : headOk l = true) (ha : l.ch.all chgOk = true) (hl : l.ch.length ≤ 16) {i : Nat} {a b : Chg} (h1 : l.ch[i]? = some a) (h2 : l.ch[i + 1]? = some b) (hlt : b.1 < a.1) : errOf l = 12 := by
  have : ordered l.ch = false := by
    rw [Bool.eq_false_iff]; intro ho
    have := ordered_step l.ch i a b ho h1 h2; omega
  unfold errOf; simp [h, ha, this]; omega
theorem errOf_ok {l : Lk} (h : headOk l = true) (ha : l.ch.all chgOk = true) (hl : l.ch.length ≤ 16) (ho : ordered l.ch = true) : errOf l = 0 := by
  unfold errOf; simp [h, ha, ho]; omega
theorem ok_of {l : Lk} (h : errOf l = 0) : headOk l = true ∧ l.ch.all chgOk = true ∧ l.ch.length ≤ 16 ∧ ordered l.ch = true := by
  unfold errOf at h
  split at h
  · omega
  · split at h
    · omega
    · split at h
      · omega
      · split at h
        · omega
        · next h1 h2 h3 h4 => exact ⟨by simpa using h1, by simpa using h2, by omega, by simpa using h4⟩
/-- The delay of a direction after some changes. -/
def upd (dir at_ base : Int) (c : Chg) : Int := if c.1 ≤ at_ ∧ c.2.1 = dir then c.2.2 else base
def nowOf (base dir at_ : Int) (l : List Chg) : Int := l.foldl (fun b c => upd dir at_ b c) base
theorem nowOf_take {l : List Chg} {k : Nat} {c : Chg} (hc : l[k]? = some c) (base dir at_ : Int) : nowOf base dir at_ (l.take (k + 1)) = upd dir at_ (nowOf base dir at_ (l.take k)) c := by
  unfold nowOf; rw [List.take_add_one, hc]; simp
def dBase (l : Lk) (dir : Int) : Int := if dir = 0 then l.d0 else l.d1
def vBase (l : Lk) (dir : Int) : Int := if dir = 0 then l.v0 else l.v1
def okDir (dir : Int) : Bool := inR dir 1
def okAt (at_ : Int) : Bool := inR at_ 1125899906842624
def okN (n : Int) : Bool := inR n 1099511627776
def delayOf (l : Lk) (dir at_ : Int) : Int := if errOf l = 0 ∧ okDir dir = true ∧ okAt at_ = true then nowOf (dBase l dir) dir at_ l.ch else 0
def asymOf (l : Lk) (at_ : Int) : Int := delayOf l 0 at_ - delayOf l 1 at_
def noiseOf (l : Lk) (dir n : Int) : Int := if errOf l = 0 ∧ okDir dir = true ∧ okN n = true then mix l.seed (4 * n + 2 * dir + 1) % (vBase l dir + 1) else 0
def lost (l : Lk) (dir n : Int) : Bool := decide (mix l.seed (4 * n + 2 * dir) % 1000 < l.loss)
def arrives (l : Lk) (dir at_ n : Int) : Bool := decide (errOf l = 0) && okDir dir && okAt at_ && okN n && !lost l dir n
def arriveOf (l : Lk) (dir at_ n : Int) : Int := if arrives l dir at_ n = true then at_ + delayOf l dir at_ + noiseOf l dir n else 0
def loOf (base dir : Int) (l : List Chg) : Int := l.foldl (fun b c => if c.2.1 = dir then min b c.2.2 else b) base
def hiOf (base dir : Int) (l : List Chg) : Int := l.foldl (fun b c => if c.2.1 = dir then max b c.2.2 else b) base
theorem loOf_take {l : List Chg} {k : Nat} {c : Chg} (hc : l[k]? = some c) (base dir : Int) : loOf base dir (l.take (k + 1)) = if c.2.1 = dir then min (loOf base dir (l.take k)) c.2.2 else loOf base dir (l.take k) := by
  unfold loOf; rw [List.take_add_one, hc]; simp
theorem hiOf_take {l : List Chg} {k : Nat} {c : Chg} (hc : l[k]? = some c) (base dir : Int) : hiOf base dir (l.take (k + 1)) = if c.2.1 = dir then max (hiOf base dir (l.take k)) c.2.2 else hiOf base dir (l.take k) := by
  unfold hiOf; rw [List.take_add_one, hc]; simp
end Go.Proofs.YtjeojnlkjecojaaDoor.Pl
