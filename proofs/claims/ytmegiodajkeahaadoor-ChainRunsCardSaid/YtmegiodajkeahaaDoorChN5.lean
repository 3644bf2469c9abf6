/- What ChainRuns keeps: both receivers stand alike. The calls on them, all ways in one contract each. -/
import Derived.Test.YtmegiodajkeahaaDoorChN4
import Derived.Test.YtmegiodajkeahaaDoorChAl
namespace Go.Proofs.YtmegiodajkeahaaDoor
open Go Go.RowKit
theorem rcv_lt {w : World} {S : Nat → Prop} {g : Nat} {st sp de co : Int} {s : Pl.Rst} (h : RcvS w S g st sp de co s) : ∀ k, S k → k < w.heap.size := by
  obtain ⟨v, L, M⟩ := h
  exact M.lt
/-- '[]byte("mac")': the conversion of the bytes that lie at p. -/
theorem run_conv_mac (w : World) (p : Nat) (h : Bk w p 5 #[.int .u8 109, .int .u8 97, .int .u8 99]) :
    ∃ w', (convert 41 41 (.slice (some ⟨p, 0, none⟩) 3 3)).run Tryd.prog w = .ok (.slice (some ⟨p, 0, none⟩) 3 3) w' ∧ IsSl w' (some ⟨p, 0, none⟩) .u8 kMac ∧ ∀ B, B ≤ p → Below B w w' := by
  have hlt := h.lt
  have hsh : w.shape? p = some (5, 3) := by
    unfold World.shape?
    rw [show w.heap[p]? = _ from h]
    rfl
  have hne : ∀ k, k ≠ p → (w.freeze ⟨p, 3, none⟩ 1).heap[k]? = w.heap[k]? := fun k hk => by
    unfold World.freeze
    rw [if_neg (by decide)]
    simp only [Array.getElem?_modify]
    rw [if_neg (fun e => hk e.symm)]
  have hp : (w.freeze ⟨p, 3, none⟩ 1).heap[p]? = some (.cells #[.int .u8 109, .int .u8 97, .int .u8 99] 5 (3, 4)) := by
    unfold World.freeze
    rw [if_neg (by decide)]
    simp only [Array.getElem?_modify]
    rw [if_pos trivial, show w.heap[p]? = _ from h]
    rfl
  have hz : (w.freeze ⟨p, 3, none⟩ 1).heap.size = w.heap.size := by
    unfold World.freeze
    rw [if_neg (by decide)]
    simp
  refine ⟨w.freeze ⟨p, 3, none⟩ 1, ?_, ?_, fun B hB => ?_⟩
  · simp [convert, run_underlying Tryd.underlying41, run_underlying Tryd.underlying5, markStringish, hsh]
  · refine .inr ⟨p, 0, rfl, by omega, fun i x hx => ?_⟩
    rw [Nat.zero_add]
    simp only [World.cell?, hp]
    match i, hx with
    | 0, hx => cases hx; rfl
    | 1, hx => cases hx; rfl
    | 2, hx => cases hx; rfl
    | i + 3, hx => simp [kMac] at hx
  · exact ⟨rfl, rfl, rfl, Nat.le_of_eq hz.symm, fun k hk => hne k (by omega)⟩
namespace Pl
def hNx (st sp de co : Int) (s : Rst) (i : Int) (b : List Int) (t lo hi : Int) : Rst := if hErr st sp de co s i lo hi = 0 then hSt s ⟨i, b, t⟩ else s
def dNx (co : Int) (s : Rst) (i : Int) (key : Int × Int) : Rst := if dErr co s i key = 0 then dSt s i key else s
def dO (co : Int) (s : Rst) (i : Int) (key : Int × Int) : List (List Int) := if dErr co s i key = 0 then dOut i key s.ms else []
theorem okR.hNx {st sp de co : Int} {s : Rst} (h : okR co s) {i t lo hi : Int} {b : List Int} (hb : okB b) : okR co (hNx st sp de co s i b t lo hi) := by
  unfold Pl.hNx
  split
  · rename_i h0
    obtain ⟨h1, h2, _, _, h5, h6⟩ := hErr_zero h0
    exact h.hear h5 h2 h6 hb
  · exact h
theorem okR.dNx {co : Int} {s : Rst} (h : okR co s) {i : Int} {key : Int × Int} : okR co (dNx co s i key) := by
  unfold Pl.dNx
  split
  · rename_i h0
    obtain ⟨h1, h2, h3, _⟩ := dErr_zero h0
    exact h.disc key h3 h2
  · exact h
theorem okR.dO {co : Int} {s : Rst} (h : okR co s) (i : Int) (key : Int × Int) : (dO co s i key).length ≤ 1000000 ∧ ∀ b ∈ dO co s i key, b.length ≤ 1000000 := by
  unfold Pl.dO
  split
  · unfold dOut
    refine ⟨?_, fun b hb => ?_⟩
    · have h1 := h.len
      have h2 := List.length_filter_le (relF i key) s.ms
      rw [List.length_map]
      omega
    · obtain ⟨m, hm, rfl⟩ := List.mem_map.1 hb
      exact (h.each m (List.mem_filter.1 hm).1).2.2.2
  · exact ⟨by simp, fun b hb => by cases hb⟩
end Pl
theorem isBB_nil (w : World) (X : Nat → Prop) : IsBB w X (.slice none 0 0) [] := ⟨none, 0, rfl, .inl rfl⟩
theorem hear_all {S : Nat → Prop} {g : Nat} {st sp de co : Int} {s : Pl.Rst} {i : Int} {A : Option Addr} {c : Nat} {b : List Int} {t lo hi : Int} {W : World}
    (hC : Pl.cfOk st sp de co) (hs : Pl.okR co s) (hb : Pl.okB b) (hS : IsSl W A .u8 b) (hM : RcvS W S g st sp de co s) {n : Nat} (hn : b.length = n) :
    Calls Tryd.prog 26 #[pt g, .int .i64 i, .slice A n c, .int .u64 t, .agg #[.int .i64 lo, .int .i64 hi]] W fun e w' => e = .returned (.int .i64 (Pl.hErr st sp de co s i lo hi)) ∧ ∃ S', RcvS w' S' g st sp de co (Pl.hNx st sp de co s i b t lo hi) ∧ Fr S S' W w' :=
  hn ▸ (hear_any S g st sp de co s i A c b t lo hi W hC hs hb hS hM).mono fun e w' ⟨h1, h2⟩ => by
    refine ⟨h1, ?_⟩
    unfold Pl.hNx
    rcases h2 with ⟨h2, h3⟩ | ⟨h2, h3⟩
    · rw [if_neg h2]
      exact ⟨S, hM.next h3, Fr.of_below h3⟩
    · rw [if_pos h2]
      exact h3
theorem refHear_all {S : Nat → Prop} {g : Nat} {st sp de co : Int} {s : Pl.Rst} {i : Int} {A : Option Addr} {c : Nat} {b : List Int} {t lo hi : Int} {W : World}
    (hC : Pl.cfOk st sp de co) (hs : Pl.okR co s) (hb : Pl.okB b) (hS : IsSl W A .u8 b) (hM : RefS W S g st sp de co s) {n : Nat} (hn : b.length = n) :
    Calls Tryd.prog 27 #[pt g, .int .i64 i, .slice A n c, .int .u64 t, .agg #[.int .i64 lo, .int .i64 hi]] W fun e w' => e = .returned (.int .i64 (Pl.hErr st sp de co s i lo hi)) ∧ ∃ S', RefS w' S' g st sp de co (Pl.hNx st sp de co s i b t lo hi) ∧ Fr S S' W w' :=
  hn ▸ (refHear_any S g st sp de co s i A c b t lo hi W hC hs hb hS hM).mono fun e w' ⟨h1, h2⟩ => by
    refine ⟨h1, ?_⟩
    unfold Pl.hNx
    rcases h2 with ⟨h2, h3⟩ | ⟨h2, h3⟩
    · rw [if_neg h2]
      exact ⟨S, hM.next h3, Fr.of_below h3⟩
    · rw [if_pos h2]
      exact h3
theorem disc_all {S : Nat → Prop} {g : Nat} {st sp de co : Int} {s : Pl.Rst} {i : Int} {key : Int × Int} {W : World} (M : RcvS W S g st sp de co s) (hs : Pl.okR co s) (hco : co ≤ 64) (hR : Rnd W) (hS : ∀ k, S k → 2 ≤ k) :
    Calls Tryd.prog 28 #[pt g, .int .i64 i, .agg #[.int .u64 key.1, .int .u64 key.2]] W fun e w' => ∃ rv S', e = .returned (.tuple #[rv, .int .i64 (Pl.dErr co s i key)]) ∧ RcvS w' S' g st sp de co (Pl.dNx co s i key) ∧ IsBB w' S' rv (Pl.dO co s i key) ∧ Fr S S' W w' :=
  (disclose_any S g st sp de co s i key W M hs hco hR hS).mono fun e w' h => by
    unfold Pl.dNx Pl.dO
    rcases h with ⟨h1, h2, h3⟩ | ⟨h1, rv, S', h2, h3, h4, h5⟩
    · rw [if_neg h1, if_neg h1]
      exact ⟨_, S, h2, M.next h3, isBB_nil _ _, Fr.of_below h3⟩
    · rw [if_pos h1, if_pos h1, h1]
      exact ⟨rv, S', h2, h3, h4, h5⟩
theorem refDisc_all {S : Nat → Prop} {g : Nat} {st sp de co : Int} {s : Pl.Rst} {i : Int} {key : Int × Int} {W : World} (M : RefS W S g st sp de co s) (hs : Pl.okR co s) (hco : co ≤ 64) :
    Calls Tryd.prog 29 #[pt g, .int .i64 i, .agg #[.int .u64 key.1, .int .u64 key.2]] W fun e w' => ∃ rv S', e = .returned (.tuple #[rv, .int .i64 (Pl.dErr co s i key)]) ∧ RefS w' S' g st sp de co (Pl.dNx co s i key) ∧ IsBB w' S' rv (Pl.dO co s i key) ∧ Fr S S' W w' :=
  (refDisclose_any S g st sp de co s i key W M hs hco).mono fun e w' h => by
    unfold Pl.dNx Pl.dO
    rcases h with ⟨h1, h2, h3⟩ | ⟨h1, rv, S', h2, h3, h4, h5⟩
    · rw [if_neg h1, if_neg h1]
      exact ⟨_, S, h2, M.next h3, isBB_nil _ _, Fr.of_below h3⟩
    · rw [if_pos h1, if_pos h1, h1]
      exact ⟨rv, S', h2, h3, h4, h5⟩
/-- The two receivers, at sa and at sb. -/
structure CrI (W : World) (kb : Nat) (K : List (Int × Int)) (st sp de co : Int) (ga gb : Nat) (sa sb : Pl.Rst) (Sa Sb : Nat → Prop) (w : World) : Prop where
  bel : Below W.heap.size W w
  keys : IsKs w (some ⟨kb, 0, none⟩) K
  kl : kb < w.heap.size
  a : RcvS w Sa ga st sp de co sa
  b : RefS w Sb gb st sp de co sb
  la : ∀ j, Sa j → W.heap.size ≤ j
  lb : ∀ j, Sb j → W.heap.size ≤ j
  ka : ¬ Sa kb
  kb' : ¬ Sb kb
  dj : ∀ j, Sa j → ¬ Sb j
  oka : Pl.okR co sa
  okb : Pl.okR co sb
section
variable {W w w' : World} {kb : Nat} {K : List (Int × Int)} {st sp de co : Int} {ga gb : Nat} {sa sb s' : Pl.Rst} {Sa Sb S' : Nat → Prop}
theorem CrI.next (h : CrI W kb K st sp de co ga gb sa sb Sa Sb w) (hb : Below w.heap.size w w') : CrI W kb K st sp de co ga gb sa sb Sa Sb w' :=
  ⟨bstep h.bel hb, h.keys.next hb, Nat.lt_of_lt_of_le h.kl hb.size, h.a.next hb, h.b.next hb, h.la, h.lb, h.ka, h.kb', h.dj, h.oka, h.okb⟩
theorem CrI.stepA (h : CrI W kb K st sp de co ga gb sa sb Sa Sb w) (hr : RcvS w' S' ga st sp de co s') (F : Fr Sa S' w w') (ho : Pl.okR co s') : CrI W kb K st sp de co ga gb s' sb S' Sb w' :=
  ⟨h.bel.trans (F.below h.bel.size h.la), F.isk h.keys (fun a ha => by cases ha; exact h.ka), Nat.lt_of_lt_of_le h.kl F.size, hr, h.b.far F (fun k hk h2 => h.dj k h2 hk), F.from_ h.bel.size h.la, h.lb, fun e => h.ka (F.set kb h.kl e), h.kb',
    fun j h1 h2 => h.dj j (F.set j (h.b.lt j h2) h1) h2, ho, h.okb⟩
theorem CrI.stepB (h : CrI W kb K st sp de co ga gb sa sb Sa Sb w) (hr : RefS w' S' gb st sp de co s') (F : Fr Sb S' w w') (ho : Pl.okR co s') : CrI W kb K st sp de co ga gb sa s' Sa S' w' :=
  ⟨h.bel.trans (F.below h.bel.size h.lb), F.isk h.keys (fun a ha => by cases ha; exact h.kb'), Nat.lt_of_lt_of_le h.kl F.size, h.a.far F (fun k hk h2 => h.dj k hk h2), hr, h.la, F.from_ h.bel.size h.lb, h.ka, fun e => h.kb' (F.set kb h.kl e),
    fun j h1 h2 => h.dj j h1 (F.set j (rcv_lt h.a j h1) h2), h.oka, ho⟩
/-- The caller's bytes, behind a receiver's step. -/
theorem CrI.slA (h : CrI W kb K st sp de co ga gb sa sb Sa Sb w) {A : Option Addr} {b : List Int} (hA : IsSl W A .u8 b) : IsSl w A .u8 b := hA.next h.bel
end
theorem IsCl.next {w' : World} {A : Option Addr} {l : List Cl} {W : World} (h : IsCl W A l) (hb : Below W.heap.size W w') : IsCl w' A l := by
  rcases h with h | ⟨b, off, h1, h2, h3⟩
  · exact .inl h
  · exact .inr ⟨b, off, h1, Nat.lt_of_lt_of_le h2 hb.size, fun i p hp => ⟨fun j v hj => (hb.cell (p := ⟨b, off + i * 6 + j, none⟩) h2).trans ((h3 i p hp).1 j v hj), (h3 i p hp).2.1.next hb, (h3 i p hp).2.2⟩⟩
theorem smallB_of {l : List Cl} (h : smallB l = true) : l.length ≤ 80 ∧ ∀ p ∈ l, p.b.length ≤ 100 := by
  unfold smallB at h
  rw [Bool.and_eq_true, List.all_eq_true] at h
  exact ⟨of_decide_eq_true h.1, fun p hp => of_decide_eq_true (h.2 p hp)⟩
end Go.Proofs.YtmegiodajkeahaaDoor
