/- Plain facts on links that the laws ask, and the law's own check of arguments. -/
import Derived.Test.YtjeojnlkjecojaaDoorLinkLaw1
namespace Go.Proofs.YtjeojnlkjecojaaDoor
open Go Go.RowKit
theorem lo_now_hi (dir at_ : Int) : ∀ (cs : List Pl.Chg) (b lo hi : Int), lo ≤ b → b ≤ hi → Pl.loOf lo dir cs ≤ Pl.nowOf b dir at_ cs ∧ Pl.nowOf b dir at_ cs ≤ Pl.hiOf hi dir cs
  | [], b, lo, hi, h1, h2 => ⟨h1, h2⟩
  | (x, d, y) :: cs, b, lo, hi, h1, h2 => by
    refine lo_now_hi dir at_ cs (Pl.upd dir at_ b (x, d, y)) (if d = dir then min lo y else lo) (if d = dir then max hi y else hi) ?_ ?_
    · unfold Pl.upd; dsimp only; split <;> split <;> omega
    · unfold Pl.upd; dsimp only; split <;> split <;> omega
theorem lo_range (dir : Int) : ∀ (cs : List Pl.Chg) (base : Int), cs.all Pl.chgOk = true → 0 ≤ base → 0 ≤ Pl.loOf base dir cs
  | [], base, _, hb => hb
  | (x, d, y) :: cs, base, h, hb => by
    rw [List.all_cons, Bool.and_eq_true] at h
    refine lo_range dir cs (if d = dir then min base y else base) h.2 ?_
    have h1 := h.1
    unfold Pl.chgOk at h1
    simp only [Bool.and_eq_true, Pl.inR_true] at h1
    split <;> omega
theorem base_range {l : Pl.Lk} (he : Pl.errOf l = 0) (dir : Int) : (0 ≤ Pl.dBase l dir ∧ Pl.dBase l dir ≤ 10000000000) ∧ 0 ≤ Pl.vBase l dir ∧ Pl.vBase l dir ≤ 10000000000 := by
  have h := head_of he
  unfold Pl.dBase Pl.vBase
  split <;> omega
theorem noise_le {l : Pl.Lk} {dir : Int} (he : Pl.errOf l = 0) (m : Int) : Pl.noiseOf l dir m ≤ Pl.vBase l dir := by
  have hv := (base_range he dir).2
  unfold Pl.noiseOf
  split
  · have := Int.emod_lt_of_pos (Pl.mix l.seed (4 * m + 2 * dir + 1)) (show 0 < Pl.vBase l dir + 1 by omega)
    omega
  · omega
theorem within_bounds {l : Pl.Lk} {dir : Int} (he : Pl.errOf l = 0) (hd : Pl.okDir dir = true) : 0 ≤ bLo l dir ∧ bLo l dir ≤ bHi l dir ∧ bHi l dir ≤ 20000000000 := by
  have hb := base_range he dir
  have hc := (Pl.ok_of he).2.1
  have h1 := lo_range dir l.ch (Pl.dBase l dir) hc hb.1.1
  have h2 := hi_range dir l.ch (Pl.dBase l dir) hc hb.1
  have h3 := lo_now_hi dir 0 l.ch (Pl.dBase l dir) (Pl.dBase l dir) (Pl.dBase l dir) (Int.le_refl _) (Int.le_refl _)
  unfold bLo bHi
  rw [if_pos ⟨he, hd⟩, if_pos ⟨he, hd⟩]
  omega
theorem within_delay {l : Pl.Lk} {dir at_ : Int} (he : Pl.errOf l = 0) (hd : Pl.okDir dir = true) (ha : Pl.okAt at_ = true) (m : Int) : bLo l dir ≤ Pl.delayOf l dir at_ ∧ Pl.delayOf l dir at_ + Pl.noiseOf l dir m ≤ bHi l dir := by
  have h3 := lo_now_hi dir at_ l.ch (Pl.dBase l dir) (Pl.dBase l dir) (Pl.dBase l dir) (Int.le_refl _) (Int.le_refl _)
  have hn := noise_le (dir := dir) he m
  rw [delayOf_good he hd ha]
  unfold bLo bHi
  rw [if_pos ⟨he, hd⟩, if_pos ⟨he, hd⟩]
  omega
theorem not_arrives_loss {l : Pl.Lk} {dir at_ m : Int} (he : Pl.errOf l = 0) (hd : Pl.okDir dir = true) (ha : Pl.okAt at_ = true) (hn : Pl.okN m = true) (h : Pl.arrives l dir at_ m = false) : 0 < l.loss := by
  rw [arrives_good he hd ha hn] at h
  unfold Pl.lost at h
  have := Int.emod_nonneg (Pl.mix l.seed (4 * m + 2 * dir)) (show (1000 : Int) ≠ 0 by decide)
  simp at h
  omega
/-- Another Loss. -/
def withLoss (l : Pl.Lk) (x : Int) : Pl.Lk := { l with loss := x }
theorem err_loss {l : Pl.Lk} {x : Int} (he : Pl.errOf l = 0) (h0 : 0 ≤ x) (h1 : x ≤ 1000) : Pl.errOf (withLoss l x) = 0 := by
  obtain ⟨a, b, c, d⟩ := Pl.ok_of he
  refine Pl.errOf_ok ?_ b c d
  unfold Pl.headOk at a ⊢
  simp only [Bool.and_eq_true] at a ⊢
  exact ⟨a.1, Pl.inR_true.2 ⟨h0, h1⟩⟩
theorem delay_loss {l : Pl.Lk} {x : Int} (he : Pl.errOf l = 0) (h0 : 0 ≤ x) (h1 : x ≤ 1000) (dir at_ : Int) : Pl.delayOf (withLoss l x) dir at_ = Pl.delayOf l dir at_ := by
  unfold Pl.delayOf; rw [err_loss he h0 h1, he]; rfl
theorem noise_loss {l : Pl.Lk} {x : Int} (he : Pl.errOf l = 0) (h0 : 0 ≤ x) (h1 : x ≤ 1000) (dir m : Int) : Pl.noiseOf (withLoss l x) dir m = Pl.noiseOf l dir m := by
  unfold Pl.noiseOf; rw [err_loss he h0 h1, he]; rfl
theorem arrives_loss {l : Pl.Lk} {dir at_ m x : Int} (he : Pl.errOf l = 0) (hd : Pl.okDir dir = true) (ha : Pl.okAt at_ = true) (hn : Pl.okN m = true) (h0 : 0 ≤ x) (h1 : x ≤ 1000) : Pl.arrives (withLoss l x) dir at_ m = !decide (Pl.mix l.seed (4 * m + 2 * dir) % 1000 < x) := by
  rw [arrives_good (err_loss he h0 h1) hd ha hn]; rfl
/-- What arrives with a greater Loss arrives with a smaller one, at the same time. -/
theorem less_loss {l : Pl.Lk} {dir at_ m x : Int} (he : Pl.errOf l = 0) (hd : Pl.okDir dir = true) (ha : Pl.okAt at_ = true) (hn : Pl.okN m = true) (h0 : 0 ≤ x) (h1 : x ≤ l.loss) (h : Pl.arrives l dir at_ m = true) : Pl.arrives (withLoss l x) dir at_ m = true ∧ Pl.arriveOf (withLoss l x) dir at_ m = Pl.arriveOf l dir at_ m := by
  have hl := (head_of he).2.2.2.2
  have hh := h
  rw [arrives_good he hd ha hn] at hh
  unfold Pl.lost at hh
  simp at hh
  have hy : Pl.arrives (withLoss l x) dir at_ m = true := by
    rw [arrives_loss he hd ha hn h0 (by omega)]; simp; omega
  refine ⟨hy, ?_⟩
  rw [arriveOf_yes hy, arriveOf_yes h, delay_loss he h0 (by omega), noise_loss he h0 (by omega)]
theorem no_loss {l : Pl.Lk} {dir at_ m : Int} (he : Pl.errOf l = 0) (hd : Pl.okDir dir = true) (ha : Pl.okAt at_ = true) (hn : Pl.okN m = true) : Pl.arrives (withLoss l 0) dir at_ m = true := by
  rw [arrives_loss he hd ha hn (by decide) (by decide)]
  have := Int.emod_nonneg (Pl.mix l.seed (4 * m + 2 * dir)) (show (1000 : Int) ≠ 0 by decide)
  simp; omega
theorem all_loss {l : Pl.Lk} {dir at_ m : Int} (he : Pl.errOf l = 0) (hd : Pl.okDir dir = true) (ha : Pl.okAt at_ = true) (hn : Pl.okN m = true) : Pl.arrives (withLoss l 1000) dir at_ m = false := by
  rw [arrives_loss he hd ha hn (by decide) (by decide)]
  have := Int.emod_lt_of_pos (Pl.mix l.seed (4 * m + 2 * dir)) (show (0 : Int) < 1000 by decide)
  simp; omega
theorem right_yes {x y z : Int} (hx : Pl.okDir x = true) (hy : Pl.okAt y = true) (hz : Pl.okN z = true) (w : World) : Calls Tryd.prog 25 #[.int .i64 x, .int .i64 y, .int .i64 z] w fun e w' => e = .returned (.bool true) ∧ w = w' := by
  obtain ⟨y0, y1⟩ := Pl.inR_true.1 hy
  obtain ⟨z0, z1⟩ := Pl.inR_true.1 hz
  rcases okDir_of hx with rfl | rfl
  · go_enter Tryd.func25, Tryd.ntmps25
    go_wp2
    go_ret
    exact ⟨rfl, rfl⟩
  · go_enter Tryd.func25, Tryd.ntmps25
    go_wp2
    go_ret
    exact ⟨rfl, rfl⟩
theorem right_no {x y z : Int} (h : (Pl.okDir x && Pl.okAt y && Pl.okN z) = false) (w : World) : Calls Tryd.prog 25 #[.int .i64 x, .int .i64 y, .int .i64 z] w fun e w' => e = .returned (.bool false) ∧ w = w' := by
  have h' : ¬ (((0 ≤ x ∧ x ≤ 1) ∧ 0 ≤ y ∧ y ≤ 1125899906842624) ∧ 0 ≤ z ∧ z ≤ 1099511627776) := by
    intro hh
    rw [← Bool.not_eq_true] at h
    apply h
    rw [Bool.and_eq_true, Bool.and_eq_true]
    exact ⟨⟨Pl.inR_true.2 hh.1.1, Pl.inR_true.2 hh.1.2⟩, Pl.inR_true.2 hh.2⟩
  clear h
  have g : ∀ w : World, Calls Tryd.prog 25 #[.int .i64 x, .int .i64 y, .int .i64 z] w fun e w' => e = .returned (.bool false) ∧ w = w' := by
    intro w
    by_cases x0 : x = 0 ∨ x = 1
    case neg =>
      have x1 : ¬ x = 0 := fun h => x0 (.inl h)
      have x2 : ¬ x = 1 := fun h => x0 (.inr h)
      clear x0 h'
      go_enter Tryd.func25, Tryd.ntmps25
      go_wp2
      go_ret
      exact ⟨rfl, rfl⟩
    case pos =>
      by_cases y0 : y < 0
      · rcases x0 with rfl | rfl
        · go_enter Tryd.func25, Tryd.ntmps25
          go_wp2
          go_ret
          exact ⟨rfl, rfl⟩
        · go_enter Tryd.func25, Tryd.ntmps25
          go_wp2
          go_ret
          exact ⟨rfl, rfl⟩
      by_cases y1 : 1125899906842624 < y
      · rcases x0 with rfl | rfl
        · go_enter Tryd.func25, Tryd.ntmps25
          go_wp2
          go_ret
          exact ⟨rfl, rfl⟩
        · go_enter Tryd.func25, Tryd.ntmps25
          go_wp2
          go_ret
          exact ⟨rfl, rfl⟩
      by_cases z0 : z < 0
      · rcases x0 with rfl | rfl
        · go_enter Tryd.func25, Tryd.ntmps25
          go_wp2
          go_ret
          exact ⟨rfl, rfl⟩
        · go_enter Tryd.func25, Tryd.ntmps25
          go_wp2
          go_ret
          exact ⟨rfl, rfl⟩
      have z1 : 1099511627776 < z := by omega
      rcases x0 with rfl | rfl
      · go_enter Tryd.func25, Tryd.ntmps25
        go_wp2
        go_ret
        exact ⟨ret_bool (decide_eq_false (by omega)), rfl⟩
      · go_enter Tryd.func25, Tryd.ntmps25
        go_wp2
        go_ret
        exact ⟨ret_bool (decide_eq_false (by omega)), rfl⟩
  exact g w
end Go.Proofs.YtjeojnlkjecojaaDoor
