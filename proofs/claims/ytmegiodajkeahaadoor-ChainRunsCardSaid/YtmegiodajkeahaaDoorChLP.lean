/- Messages of which some have another tag, released key by key, or at once: plain law. -/
import Derived.Test.YtmegiodajkeahaaDoorChCP
namespace Go.Proofs.YtmegiodajkeahaaDoor.Pl
/-- The first n messages that f makes. -/
def mkL (f : Nat → Int → Msg) (of : List Int) (n : Nat) : List Msg := (of.take n).mapIdx f
theorem mkL_zero (f : Nat → Int → Msg) (of : List Int) : mkL f of 0 = [] := rfl
theorem mkL_len (f : Nat → Int → Msg) (of : List Int) (n : Nat) (h : n ≤ of.length) : (mkL f of n).length = n := by unfold mkL; simp; omega
theorem mkL_next (f : Nat → Int → Msg) (of : List Int) (n : Nat) (i : Int) (h : of[n]? = some i) : mkL f of (n + 1) = mkL f of n ++ [f n i] := by
  have hl : n < of.length := (List.getElem?_eq_some_iff.1 h).1
  unfold mkL
  rw [List.take_add_one, h]
  simp only [Option.toList_some, List.mapIdx_append, List.length_take, Nat.min_eq_left (Nat.le_of_lt hl), List.mapIdx_cons, List.mapIdx_nil, Nat.zero_add]
theorem mkL_mem (f : Nat → Int → Msg) (of : List Int) (n : Nat) (m : Msg) (h : m ∈ mkL f of n) : ∃ (i : Int) (j : Nat), of[j]? = some i ∧ j < n ∧ m = f j i := by
  unfold mkL at h
  obtain ⟨j, hj, rfl⟩ := List.mem_mapIdx.1 h
  have hl : j < (of.take n).length := hj
  rw [List.length_take] at hl
  refine ⟨(of.take n)[j], j, ?_, by omega, rfl⟩
  rw [List.getElem_take]
  exact List.getElem?_eq_getElem (by omega)
/-- Message number j of interval i; with another tag where od says so. -/
def lmT (last : Int × Int) (i : Int) (j : Nat) : Int := mtag (dnN last (10 - i).toNat) [i, (j : Int)]
def lmF (last : Int × Int) (od : Nat → Bool) (j : Nat) (i : Int) : Msg := ⟨i, [i, (j : Int)], if od j then Go.IntKind.u64.wrap (lmT last i j + 1) else lmT last i j⟩
theorem lm_hErr (key : Int × Int) (ms : List Msg) (i : Int) (h1 : 1 ≤ i) (h2 : i ≤ 10) (hl : ms.length < 64) : hErr 1000 100 2 10 ⟨0, key, ms⟩ i 0 0 = 0 :=
  hErr_ok h1 h2 ⟨by omega, by omega, by omega⟩ (by rw [ivl_bad (.inr (by omega))]; omega) (by show (0 : Int) < i; omega) hl
/-- Each message is of an interval from 1 to 10, its bytes are the interval and a number. -/
def Fit (ms : List Msg) : Prop := ∀ m ∈ ms, 1 ≤ m.i ∧ m.i ≤ 10 ∧ ∃ j : Int, m.b = [m.i, j] ∧ 0 ≤ j ∧ j ≤ 255
theorem fit_mk (last : Int × Int) (od : Nat → Bool) (of : List Int) (n : Nat) (hn : n ≤ 30) (hof : ∀ j i, of[j]? = some i → j < n → 1 ≤ i ∧ i ≤ 10) : Fit (mkL (lmF last od) of n) := fun m hm => by
  obtain ⟨i, j, hi, hj, rfl⟩ := mkL_mem _ of n m hm
  obtain ⟨h1, h2⟩ := hof j i hi hj
  exact ⟨h1, h2, (j : Int), rfl, by omega, by omega⟩
theorem fit_ok {ms : List Msg} (h : Fit ms) (hl : ms.length ≤ 30) (kn : Int) (h0 : 0 ≤ kn) (h1 : kn ≤ 10) (hk : ∀ m ∈ ms, kn < m.i) (key : Int × Int) : okR 10 ⟨kn, key, ms⟩ :=
  ⟨h0, h1, by show ms.length ≤ 64; omega, fun m hm => by
    obtain ⟨a1, a2, j, hb, b1, b2⟩ := h m hm
    refine ⟨hk m hm, a2, ?_, by rw [hb]; show 2 ≤ 1000000; decide⟩
    intro x hx
    rw [hb] at hx
    simp at hx
    rcases hx with rfl | rfl <;> omega⟩
theorem fit_filter {ms : List Msg} (h : Fit ms) (p : Msg → Bool) : Fit (ms.filter p) := fun m hm => h m (List.mem_filter.1 hm).1
/-- Its tag is right. -/
def good (last : Int × Int) (m : Msg) : Bool := mtag (dnN last (10 - m.i).toNat) m.b == m.t
def cnt (last : Int × Int) (ms : List Msg) (t : Nat) : Nat := ((ms.filter (good last)).filter fun m => m.i == (t : Int)).length
theorem ls_d (last : Int × Int) (ms : List Msg) (i : Nat) (hi : i < 10) : dErr 10 ⟨(i : Int), dnN last (10 - i), ms⟩ ((i : Int) + 1) (dnN last (10 - (i + 1))) = 0 := by
  have h : dnN (dnN last (10 - (i + 1))) 1 = dnN last (10 - i) := by
    rw [dnN_add]
    congr 1
    omega
  generalize dnN last (10 - i) = a at *
  generalize dnN last (10 - (i + 1)) = b at *
  unfold dErr
  simp only
  rw [if_neg (by omega), if_neg (by omega), show ((i : Int) + 1 - (i : Int)).toNat = 1 from by omega, if_pos h]
theorem ls_stay0 {ms : List Msg} (h : Fit ms) : ms.filter (stayF 0) = ms := by
  rw [List.filter_eq_self]
  intro m hm
  have := (h m hm).1
  simp [stayF]
  omega
theorem ls_stay (ms : List Msg) (i : Nat) (key k : Int × Int) : dSt ⟨(i : Int), k, ms.filter (stayF (i : Int))⟩ ((i : Int) + 1) key = ⟨(i : Int) + 1, key, ms.filter (stayF ((i : Int) + 1))⟩ := by
  unfold dSt
  simp only
  rw [List.filter_filter]
  congr 1
  apply List.filter_congr
  intro m _
  unfold stayF
  rw [Bool.eq_iff_iff]
  simp only [Bool.and_eq_true, decide_eq_true_eq]
  omega
theorem ls_out (last : Int × Int) (ms : List Msg) (i : Nat) (hi : i < 10) : dOut ((i : Int) + 1) (dnN last (10 - (i + 1))) (ms.filter (stayF (i : Int))) = ((ms.filter (good last)).filter fun m => m.i == ((i + 1 : Nat) : Int)).map Msg.b := by
  unfold dOut
  rw [List.filter_filter, List.filter_filter]
  congr 1
  apply List.filter_congr
  intro m _
  unfold relF stayF rightB good
  by_cases h : m.i = (i : Int) + 1
  · rw [h]
    have e1 : ((i : Int) + 1 - ((i : Int) + 1)).toNat = 0 := by omega
    have e2 : ((10 : Int) - ((i : Int) + 1)).toNat = 10 - (i + 1) := by omega
    rw [e1, e2]
    have e3 : dnN (dnN last (10 - (i + 1))) 0 = dnN last (10 - (i + 1)) := rfl
    rw [e3]
    have e4 : decide ((i : Int) + 1 ≤ (i : Int) + 1) = true := by simp
    have e5 : decide ((i : Int) < (i : Int) + 1) = true := by rw [decide_eq_true_eq]; omega
    have e6 : ((i : Int) + 1 == ((i + 1 : Nat) : Int)) = true := by simp
    rw [e4, e5, e6]
    simp
  · have e6 : (m.i == ((i + 1 : Nat) : Int)) = false := by rw [beq_eq_false_iff_ne]; omega
    rw [e6]
    by_cases h2 : m.i ≤ (i : Int) + 1
    · have : decide ((i : Int) < m.i) = false := by simp; omega
      rw [this]; simp
    · have : decide (m.i ≤ (i : Int) + 1) = false := by simp; omega
      rw [this]; simp
theorem ls_out10 (last : Int × Int) {ms : List Msg} (h : Fit ms) : dOut 10 last ms = (ms.filter (good last)).map Msg.b := by
  unfold dOut
  congr 1
  apply List.filter_congr
  intro m hm
  have := (h m hm).2.1
  unfold relF rightB good
  rw [decide_eq_true this]
  rfl
theorem ls_st10 (last key : Int × Int) {ms : List Msg} (h : Fit ms) : dSt ⟨0, key, ms⟩ 10 last = ⟨10, last, []⟩ := by
  unfold dSt
  simp only
  rw [List.filter_eq_nil_iff.2 (fun m hm => by
    have := (h m hm).2.1
    simp [stayF]
    omega)]
theorem ls_stay10 {ms : List Msg} (h : Fit ms) : ms.filter (stayF 10) = [] := by
  rw [List.filter_eq_nil_iff.2 (fun m hm => by
    have := (h m hm).2.1
    simp [stayF]
    omega)]
/-! The counts. -/
def tab (f : Nat → Int) : List Int := (List.range 11).map f
theorem tab_get (f : Nat → Int) (t : Nat) (h : t < 11) : (tab f)[t]? = some (f t) := by unfold tab; rw [List.getElem?_map, List.getElem?_range h]; rfl
theorem tab_set (f g : Nat → Int) (t : Nat) (x : Int) (_h : t < 11) (h1 : g t = x) (h2 : ∀ s, s ≠ t → g s = f s) : (tab f).set t x = tab g := by
  unfold tab
  apply List.ext_getElem
  · simp
  · intro i hi1 hi2
    simp only [List.getElem_set, List.getElem_map, List.getElem_range]
    by_cases e : t = i
    · subst e; simp [h1]
    · rw [if_neg e]; exact (h2 i (fun e2 => e e2.symm)).symm
/-- After i keys, and c messages of the next. -/
def upT (last : Int × Int) (ms : List Msg) (i c t : Nat) : Int := if t = 0 then 0 else if t ≤ i then (cnt last ms t : Int) else if t = i + 1 then (c : Int) else 0
theorem upT_zero (last : Int × Int) (ms : List Msg) : tab (upT last ms 0 0) = List.replicate 11 0 := by
  unfold tab
  rw [List.eq_replicate_iff]
  refine ⟨by simp, fun b hb => ?_⟩
  obtain ⟨t, _, rfl⟩ := List.mem_map.1 hb
  unfold upT
  split
  · rfl
  · split
    · omega
    · split <;> rfl
theorem upT_at (last : Int × Int) (ms : List Msg) (i c : Nat) : upT last ms i c (i + 1) = c := by
  unfold upT
  rw [if_neg (by omega), if_neg (by omega), if_pos rfl]
theorem upT_step (last : Int × Int) (ms : List Msg) (i c : Nat) (h : i < 10) : (tab (upT last ms i c)).set (i + 1) ((c : Int) + 1) = tab (upT last ms i (c + 1)) :=
  tab_set _ _ _ _ (by omega) (by rw [upT_at]; simp) (fun s hs => by
    unfold upT
    split
    · rfl
    · split
      · rfl
      · rfl)
theorem upT_next (last : Int × Int) (ms : List Msg) (i : Nat) : tab (upT last ms i (cnt last ms (i + 1))) = tab (upT last ms (i + 1) 0) := by
  unfold tab
  apply List.map_congr_left
  intro t _
  unfold upT
  split
  · rfl
  · by_cases h1 : t ≤ i
    · rw [if_pos h1, if_pos (by omega)]
    · rw [if_neg h1]
      by_cases h2 : t = i + 1
      · subst h2; rw [if_pos rfl, if_pos (Nat.le_refl _)]
      · rw [if_neg h2, if_neg (by omega)]
        split <;> rfl
/-- Of all, less those of the first n. -/
def dnT (last : Int × Int) (ms : List Msg) (n t : Nat) : Int := if t = 0 then 0 else (cnt last ms t : Int) - ((((ms.filter (good last)).take n).filter fun m => m.i == (t : Int)).length : Nat)
theorem dnT_zero (last : Int × Int) (ms : List Msg) : tab (upT last ms 10 0) = tab (dnT last ms 0) := by
  unfold tab
  apply List.map_congr_left
  intro t ht
  have := List.mem_range.1 ht
  unfold upT dnT
  split
  · rfl
  · rw [if_pos (by omega)]
    simp
theorem dnT_step (last : Int × Int) (ms : List Msg) (n : Nat) (m : Msg) (t : Nat) (hm : (ms.filter (good last))[n]? = some m) (ht : m.i = (t : Int)) (h1 : 1 ≤ t) (h2 : t ≤ 10) :
    (tab (dnT last ms n)).set t (dnT last ms n t - 1) = tab (dnT last ms (n + 1)) := by
  have hs : ∀ s : Nat, ((((ms.filter (good last)).take (n + 1)).filter fun m => m.i == (s : Int))).length = ((((ms.filter (good last)).take n).filter fun m => m.i == (s : Int))).length + (if s = t then 1 else 0) := by
    intro s
    rw [List.take_add_one, hm, List.filter_append, List.length_append]
    congr 1
    simp only [Option.toList_some, List.filter_cons, List.filter_nil]
    by_cases e : s = t
    · subst e
      rw [if_pos rfl, if_pos (by rw [ht]; simp)]
      rfl
    · rw [if_neg e, if_neg (by rw [ht, beq_iff_eq]; omega)]
      rfl
  refine tab_set _ _ _ _ (by omega) ?_ (fun s hs' => ?_)
  · unfold dnT
    rw [if_neg (by omega), if_neg (by omega), hs t, if_pos rfl]
    omega
  · unfold dnT
    rw [hs s, if_neg hs']
    rfl
theorem dnT_end (last : Int × Int) (ms : List Msg) (n : Nat) (h : (ms.filter (good last)).length ≤ n) : tab (dnT last ms n) = List.replicate 11 0 := by
  unfold tab
  rw [List.eq_replicate_iff]
  refine ⟨by simp, fun b hb => ?_⟩
  obtain ⟨t, _, rfl⟩ := List.mem_map.1 hb
  unfold dnT cnt
  split
  · rfl
  · rw [List.take_of_length_le h]
    omega
theorem cnt_le (last : Int × Int) (ms : List Msg) (t : Nat) : cnt last ms t ≤ ms.length := by
  unfold cnt
  exact Nat.le_trans (List.length_filter_le _ _) (List.length_filter_le _ _)
theorem dnT_bound (last : Int × Int) (ms : List Msg) (n t : Nat) : -(ms.length : Int) ≤ dnT last ms n t ∧ dnT last ms n t ≤ ms.length := by
  unfold dnT
  have h1 := cnt_le last ms t
  have h2 := List.length_filter_le (fun m : Msg => m.i == (t : Int)) ((ms.filter (good last)).take n)
  have h3 := List.length_take_le n (ms.filter (good last))
  have h3' : ((ms.filter (good last)).take n).length ≤ (ms.filter (good last)).length := by rw [List.length_take]; omega
  have h4 := List.length_filter_le (good last) ms
  split <;> omega
end Go.Proofs.YtmegiodajkeahaaDoor.Pl
