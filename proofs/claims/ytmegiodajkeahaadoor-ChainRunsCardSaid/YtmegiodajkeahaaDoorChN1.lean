/- The memory of the reference's receiver; New, Known, Held and mac's Check of the reference; key and small of the law. -/
import Derived.Test.YtmegiodajkeahaaDoorChX
import Derived.Test.YtmegiodajkeahaaDoorChA1
import Derived.Test.YtmegiodajkeahaaDoorChOp4
import Derived.Test.YtmegiodajkeahaaDoorOwn
namespace Go.Proofs.YtmegiodajkeahaaDoor
open Go Go.RowKit
def rrc (st sp de co : Int) (kv v : Value) : Array Value := #[.int .i64 st, .int .i64 sp, .int .i64 de, .int .i64 co, kv, v]
/-- The reference's receiver at block g, that owns the blocks of S: n steps are known, and the keys of all of them. -/
structure RefM (w : World) (S : Nat → Prop) (g : Nat) (st sp de co : Int) (s : Pl.Rst) (n : Nat) (kv v : Value) (L : List Lm) : Prop where
  ms : L.map Prod.fst = s.ms
  kn : s.kn = (n : Int)
  bk : Bk w g 79 (rrc st sp de co kv v)
  keys : OwnK w 0 kv (Pl.keysL s.key n)
  own : w.ownsRow 0 84 3 v L.length (mcells L)
  ing : S g
  ink : ∀ h, kv.ownBlock = some h → S h ∧ h ≠ g
  inh : ∀ h, v.ownBlock = some h → S h ∧ h ≠ g
  byt : ∀ x ∈ L, IsSl w x.2.1 .u8 x.1.b ∧ ∀ a, x.2.1 = some a → S a.block ∧ a.block ≠ g ∧ v.ownBlock ≠ some a.block
  lt : ∀ k, S k → k < w.heap.size
def RefS (w : World) (S : Nat → Prop) (g : Nat) (st sp de co : Int) (s : Pl.Rst) : Prop := ∃ n kv v L, RefM w S g st sp de co s n kv v L
theorem own_of_fr {w w' : World} {S S' : Nat → Prop} {B : Nat} {e : TypeId} {z n : Nat} {v : Value} {xs : List Value} (h : w.ownsRow B e z v n xs) (F : Fr S S' w w') (hv : ∀ r, v.ownBlock = some r → ¬ S r) : w'.ownsRow B e z v n xs := by
  obtain ⟨h1, h2⟩ := h
  refine ⟨h1, ?_⟩
  rcases h2 with h2 | ⟨g, cap, cur, hv', hB, hh, r⟩
  · exact .inl h2
  · exact .inr ⟨g, cap, cur, hv', hB, F.bk (t := e) hh (hv g (by rw [hv']; rfl)), r⟩
theorem RefM.next {w w' : World} {S : Nat → Prop} {g : Nat} {st sp de co : Int} {s : Pl.Rst} {n : Nat} {kv v : Value} {L : List Lm} (h : RefM w S g st sp de co s n kv v L) (hb : Below w.heap.size w w') : RefM w' S g st sp de co s n kv v L :=
  ⟨h.ms, h.kn, h.bk.next hb, h.keys.next hb, own_next h.own hb, h.ing, h.ink, h.inh, fun x hx => ⟨(h.byt x hx).1.next hb, (h.byt x hx).2⟩, fun k hk => Nat.lt_of_lt_of_le (h.lt k hk) hb.size⟩
theorem RefS.next {w w' : World} {S : Nat → Prop} {g : Nat} {st sp de co : Int} {s : Pl.Rst} (h : RefS w S g st sp de co s) (hb : Below w.heap.size w w') : RefS w' S g st sp de co s := by
  obtain ⟨n, kv, v, L, h⟩ := h
  exact ⟨n, kv, v, L, h.next hb⟩
theorem RefS.far {w w' : World} {S T T' : Nat → Prop} {g : Nat} {st sp de co : Int} {s : Pl.Rst} (h : RefS w S g st sp de co s) (hb : Fr T T' w w') (hd : ∀ k, S k → ¬ T k) : RefS w' S g st sp de co s := by
  obtain ⟨n, kv, v, L, h⟩ := h
  exact ⟨n, kv, v, L, ⟨h.ms, h.kn, hb.bk h.bk (hd _ h.ing), own_of_fr h.keys hb (fun r hr => hd _ (h.ink r hr).1), own_of_fr h.own hb (fun r hr => hd _ (h.inh r hr).1), h.ing, h.ink, h.inh, fun x hx => ⟨hb.isl (h.byt x hx).1 (fun a ha => hd _ ((h.byt x hx).2 a ha).1), (h.byt x hx).2⟩, fun k hk => Nat.lt_of_lt_of_le (h.lt k hk) hb.size⟩⟩
theorem RefS.lt {w : World} {S : Nat → Prop} {g : Nat} {st sp de co : Int} {s : Pl.Rst} (h : RefS w S g st sp de co s) : ∀ k, S k → k < w.heap.size := by
  obtain ⟨n, kv, v, L, h⟩ := h
  exact h.lt
theorem RefM.shape {w : World} {S : Nat → Prop} {g : Nat} {st sp de co : Int} {s : Pl.Rst} {n : Nat} {kv v : Value} {L : List Lm} (h : RefM w S g st sp de co s n kv v L) : (∃ A c, v = .slice A s.ms.length c) ∧ ∃ b c, kv = .slice (some ⟨b, 0, none⟩) (n + 1) c ∧ b < w.heap.size ∧ S b ∧ b ≠ g ∧ IsKs w (some ⟨b, 0, none⟩) (Pl.keysL s.key n) := by
  have hl : L.length = s.ms.length := by rw [← h.ms]; simp
  constructor
  · rcases h.own.2 with ⟨rfl, h0⟩ | ⟨g', cap, cur, rfl, _⟩
    · exact ⟨none, 0, by rw [← hl, h0]⟩
    · exact ⟨_, _, by rw [hl]⟩
  · obtain ⟨b, c, hv, _, hb, hk⟩ := h.keys.row (by rw [Pl.keysL_len]; omega)
    rw [Pl.keysL_len] at hv
    have := h.ink b (by rw [hv]; rfl)
    exact ⟨b, c, hv, hb, this.1, this.2, hk⟩
set_option maxHeartbeats 1000000 in
theorem refNew_any (st sp de co k0 k1 : Int) (w : World) : Calls Tryd.prog 21 #[.agg (cfCells st sp de co), .agg #[.int .u64 k0, .int .u64 k1]] w fun e w' => Below w.heap.size w w' ∧
    ((¬ Pl.cfOk st sp de co ∧ e = .returned (.pointer none)) ∨ (Pl.cfOk st sp de co ∧ ∃ g, w.heap.size ≤ g ∧ e = .returned (pt g) ∧ RefS w' (fun k => w.heap.size ≤ k ∧ k < w'.heap.size) g st sp de co ⟨0, (k0, k1), []⟩)) := by
  have KA : CfS w w.heap.size st sp de co (w.alloc (.cells (cfCells st sp de co) 23)) := ⟨Bk.new w 23 _, (Below.refl w.heap.size w).alloc (Nat.le_refl _) _⟩
  have K := CfS.next KA ((Below.refl _ _).alloc (Nat.le_refl _) (.cells #[.int .u64 k0, .int .u64 k1] 37))
  have S := Bk.new (w.alloc (.cells (cfCells st sp de co) 23)) 37 #[.int .u64 k0, .int .u64 k1]
  have hg : (w.alloc (.cells (cfCells st sp de co) 23)).heap.size = w.heap.size + 1 := by simp
  rw [hg] at S
  clear KA hg
  have CK := fun w => refChk_any st sp de co w
  obtain ⟨c0, c1, c2, c3⟩ := CfS.cells K
  replace CK := hid CK
  unfold cfCells at *
  go_enter Tryd.func21, Tryd.ntmps21
  go_wp2_with fail
  clear c0 c1 c2 c3
  generalize (w.alloc (.cells #[.int .i64 st, .int .i64 sp, .int .i64 de, .int .i64 co] 23)).alloc (.cells #[.int .u64 k0, .int .u64 k1] 37) = w0 at *
  refine (CK.out _).mono ?_
  rintro e w1 ⟨rfl, hb⟩
  have K1 := CfS.next K hb
  have S1 := S.next hb
  clear K S hb CK
  obtain ⟨c0, c1, c2, c3⟩ := CfS.cells K1
  obtain ⟨s0, s1⟩ := S1.two
  by_cases hok : Pl.cfOk st sp de co
  case neg =>
    have h3 := Pl.cfErr_no hok
    rw [h3]
    go_wp2
    go_ret
    exact ⟨K1.2, .inl ⟨hok, rfl⟩⟩
  have h3 := Pl.cfErr_yes hok
  rw [h3]
  replace hok := hid hok
  clear h3
  have hsz := K1.2.size
  have KK := OwnK.lit (w := w1) (B := w.heap.size) [(k0, k1)] hsz (by simp)
  have KR := Bk.new (w1.alloc (.cells #[.int .u64 k0, .int .u64 k1] 37)) 79 (rrc st sp de co (.slice (some ⟨w1.heap.size, 0, none⟩) 1 1) (.slice none 0 0))
  have BK := (Below.refl w1.heap.size w1).alloc (Nat.le_refl _) (.cells #[.int .u64 k0, .int .u64 k1] 37)
  have BR := (K1.2.alloc hsz (.cells #[.int .u64 k0, .int .u64 k1] 37)).alloc (Nat.le_trans hsz BK.size) (.cells (rrc st sp de co (.slice (some ⟨w1.heap.size, 0, none⟩) 1 1) (.slice none 0 0)) 79)
  have KK2 := KK.next ((Below.refl _ _).alloc (Nat.le_refl _) (.cells (rrc st sp de co (.slice (some ⟨w1.heap.size, 0, none⟩) 1 1) (.slice none 0 0)) 79))
  have HH := hid (And.intro KK2 (And.intro KR BR))
  clear KK KR BK BR KK2
  go_wp2
  go_ret
  obtain ⟨KK2, KR, BR⟩ := HH.out
  have hz : (w1.alloc (.cells #[.int .u64 k0, .int .u64 k1] 37)).heap.size = w1.heap.size + 1 := by simp
  rw [hz] at KR
  have hl := KR.lt
  refine ⟨BR, .inr ⟨hok.out, w1.heap.size + 1, by omega, rfl, 0, .slice (some ⟨w1.heap.size, 0, none⟩) 1 1, .slice none 0 0, [], ?_⟩⟩
  refine ⟨rfl, rfl, KR, ?_, World.ownsRow_nil _ _ _ _, ⟨by omega, hl⟩, fun h hh => ?_, fun h hh => (by cases hh), (fun x hx => by cases hx), fun k hk => hk.2⟩
  · have e : Pl.keysL ((⟨0, (k0, k1), []⟩ : Pl.Rst)).key 0 = [(k0, k1)] := rfl
    rw [e]
    obtain ⟨a1, a2⟩ := KK2
    refine ⟨a1, ?_⟩
    rcases a2 with a2 | ⟨g, cap, cur, hv, hB, r⟩
    · exact .inl a2
    · exact .inr ⟨g, cap, cur, hv, Nat.zero_le _, r⟩
  · obtain rfl : w1.heap.size = h := by simpa [Value.ownBlock] using hh
    refine ⟨⟨hsz, Nat.lt_trans (Nat.lt_succ_self _) hl⟩, by omega⟩
theorem refNew_yes (st sp de co k0 k1 : Int) (h : Pl.cfOk st sp de co) (w : World) : Calls Tryd.prog 21 #[.agg #[.int .i64 st, .int .i64 sp, .int .i64 de, .int .i64 co], .agg #[.int .u64 k0, .int .u64 k1]] w fun e w' => (∃ g, w.heap.size ≤ g ∧ e = .returned (pt g) ∧ RefS w' (fun k => w.heap.size ≤ k ∧ k < w'.heap.size) g st sp de co ⟨0, (k0, k1), []⟩) ∧ Below w.heap.size w w' :=
  (refNew_any st sp de co k0 k1 w).mono fun e w' ⟨hb, h'⟩ => by
    rcases h' with ⟨h1, _⟩ | ⟨_, g, h1, h2, h3⟩
    · exact absurd h h1
    · exact ⟨⟨g, h1, h2, h3⟩, hb⟩
theorem refNew_no (st sp de co k0 k1 : Int) (h : ¬ Pl.cfOk st sp de co) (w : World) : Calls Tryd.prog 21 #[.agg #[.int .i64 st, .int .i64 sp, .int .i64 de, .int .i64 co], .agg #[.int .u64 k0, .int .u64 k1]] w fun e w' => e = .returned (.pointer none) ∧ Below w.heap.size w w' :=
  (refNew_any st sp de co k0 k1 w).mono fun e w' ⟨hb, h'⟩ => by
    rcases h' with ⟨_, h1⟩ | ⟨h1, _⟩
    · exact ⟨h1, hb⟩
    · exact absurd h1 h
theorem refKnown_of {S : Nat → Prop} {g : Nat} {st sp de co : Int} {s : Pl.Rst} {W : World} (hs : Pl.okR co s) (hco : co ≤ 64) (M : RefS W S g st sp de co s) : Calls Tryd.prog 32 #[pt g] W fun e w' => e = .returned (.int .i64 s.kn) ∧ W = w' := by
  obtain ⟨n, kv, v, L, M⟩ := M
  obtain ⟨_, b, c, hk, _⟩ := M.shape
  have c4 : W.cell? ⟨g, 4, none⟩ = some kv := M.bk.cell 4
  rw [hk] at c4
  have hkn := M.kn
  have h1 := hs.kn1
  rw [hkn]
  have hn : n ≤ 64 := by omega
  clear hk hkn M hs h1
  go_enter Tryd.func32, Tryd.ntmps32
  go_wp2
  go_ret
  exact ⟨ret_int (by omega), rfl⟩
theorem refHeld_of {S : Nat → Prop} {g : Nat} {st sp de co : Int} {s : Pl.Rst} {W : World} (M : RefS W S g st sp de co s) : Calls Tryd.prog 34 #[pt g] W fun e w' => e = .returned (.int .i64 s.ms.length) ∧ W = w' := by
  obtain ⟨n, kv, v, L, M⟩ := M
  obtain ⟨⟨A, c, hv⟩, _⟩ := M.shape
  have c5 : W.cell? ⟨g, 5, none⟩ = some v := M.bk.cell 5
  rw [hv] at c5
  generalize s.ms.length = m at *
  clear hv M
  go_enter Tryd.func34, Tryd.ntmps34
  go_wp2
  go_ret
  exact ⟨rfl, rfl⟩
set_option maxHeartbeats 400000 in
theorem refMacCheck_any (k0 k1 : Int) (A : Option Addr) (c : Nat) (xs : List Int) (t : Int) (w : World) (hS : IsSl w A .u8 xs) (hx : ∀ x ∈ xs, 0 ≤ x ∧ x ≤ 255) (hn : xs.length ≤ 1000000000) :
    Calls Tryd.prog 46 #[.agg #[.int .u64 k0, .int .u64 k1], .slice A xs.length c, .int .u64 t] w fun e w' => e = .returned (.bool (Pl.tagOf k0 k1 xs == t)) ∧ Below w.heap.size w w' := by
  have HX := hid hx
  clear hx
  go_enter Tryd.func46, Tryd.ntmps46
  go_wp2_with fail
  refine (refTag_any k0 k1 A c xs _ (hS.next ((Below.refl _ _).alloc (Nat.le_refl _) _)) HX.out hn).mono ?_
  rintro e w1 ⟨rfl, hb1⟩
  go_wp2
  go_ret
  exact ⟨rfl, bup ((Below.refl _ _).alloc (Nat.le_refl _) _) hb1 (by simp)⟩
/-- The key that the law takes for a number. -/
def keyAt (K : List (Int × Int)) (i : Int) : Int × Int := if i < 0 ∨ (K.length : Int) ≤ i then K.getD (K.length - 1) (0, 0) else K.getD i.toNat (0, 0)
set_option maxHeartbeats 1000000 in
theorem key_any (b n c : Nat) (K : List (Int × Int)) (i : Int) (w : World) (hK : IsKs w (some ⟨b, 0, none⟩) K) (hl : K.length = n) (h0 : 0 < n) (hn : n ≤ 1000) :
    Calls Tryd.prog 25 #[.slice (some ⟨b, 0, none⟩) n c, .int .i64 i] w fun e w' => e = .returned (.agg #[.int .u64 (keyAt K i).1, .int .u64 (keyAt K i).2]) ∧ Below w.heap.size w w' := by
  rcases hK with h1 | ⟨b', off, hA, hb, hc⟩
  · rw [h1] at hl; simp at hl; omega
  obtain ⟨rfl, rfl⟩ : b' = b ∧ off = 0 := by cases hA; exact ⟨rfl, rfl⟩
  have R0 := Bk.new w 37 #[.int .u64 0, .int .u64 0]
  have B0 := (Below.refl w.heap.size w).alloc (Nat.le_refl _) (.cells #[.int .u64 0, .int .u64 0] 37)
  obtain ⟨r0, r1⟩ := R0.two
  have f0 := R0.free 0
  have f1 := R0.free 1
  obtain ⟨j, hj, hkj⟩ : ∃ j : Nat, j < n ∧ keyAt K i = K.getD j (0, 0) ∧ ((i < 0 ∨ (n : Int) ≤ i) ∧ j = n - 1 ∨ (0 ≤ i ∧ i < (n : Int)) ∧ (j : Int) = i) := by
    by_cases h : i < 0 ∨ (n : Int) ≤ i
    · exact ⟨n - 1, by omega, by unfold keyAt; rw [hl, if_pos h], .inl ⟨h, rfl⟩⟩
    · exact ⟨i.toNat, by omega, by unfold keyAt; rw [hl, if_neg h], .inr ⟨by omega, by omega⟩⟩
  have hg : K[j]? = some (K.getD j (0, 0)) := by
    have : j < K.length := by omega
    simp [List.getD, this]
  obtain ⟨c0, c1⟩ := hc j _ hg
  simp only [Nat.zero_add] at c0 c1
  rw [hkj.1]
  generalize K.getD j (0, 0) = kk at *
  obtain ⟨x, y⟩ := kk
  simp only at c0 c1 ⊢
  replace hkj := hkj.2
  clear hg hc hA hl B0 R0
  have done : Bk (w.alloc (.cells #[.int .u64 x, .int .u64 y] 37)) w.heap.size 37 #[.int .u64 x, .int .u64 y] ∧ Below w.heap.size w (w.alloc (.cells #[.int .u64 x, .int .u64 y] 37)) := ⟨Bk.new _ _ _, (Below.refl _ _).alloc (Nat.le_refl _) _⟩
  replace done := hid done
  rcases hkj with ⟨hi | hi, rfl⟩ | ⟨⟨hi0, hi1⟩, rfl⟩
  · obtain ⟨m, rfl⟩ : ∃ m, n = m + 1 := ⟨n - 1, by omega⟩
    simp only [Nat.add_sub_cancel] at c0 c1
    go_enter Tryd.func25, Tryd.ntmps25
    go_wp2
    refine bodyPost_ret (results_cell_row rfl _ _ w.heap.size 37 #[.int .u64 x, .int .u64 y] (0, 0) _ rfl done.out.1 Tryd.underlying37 rfl (by kernel_rfl)) rfl ⟨rfl, done.out.2⟩
  · obtain ⟨m, rfl⟩ : ∃ m, n = m + 1 := ⟨n - 1, by omega⟩
    simp only [Nat.add_sub_cancel] at c0 c1
    have hi' : ¬ i < 0 := by omega
    go_enter Tryd.func25, Tryd.ntmps25
    go_wp2
    refine bodyPost_ret (results_cell_row rfl _ _ w.heap.size 37 #[.int .u64 x, .int .u64 y] (0, 0) _ rfl done.out.1 Tryd.underlying37 rfl (by kernel_rfl)) rfl ⟨rfl, done.out.2⟩
  · go_enter Tryd.func25, Tryd.ntmps25
    go_wp2
    refine bodyPost_ret (results_cell_row rfl _ _ w.heap.size 37 #[.int .u64 x, .int .u64 y] (0, 0) _ rfl done.out.1 Tryd.underlying37 rfl (by kernel_rfl)) rfl ⟨rfl, done.out.2⟩
def smallB (l : List Cl) : Bool := decide (l.length ≤ 80) && l.all fun p => decide (p.b.length ≤ 100)
set_option maxHeartbeats 1000000 in
theorem small_any (A : Option Addr) (c n : Nat) (l : List Cl) (w : World) (hA : IsCl w A l) (hl : l.length = n) (hmx : n ≤ 9223372036854775807) :
    Calls Tryd.prog 22 #[.slice A n c] w fun e w' => e = .returned (.bool (smallB l)) ∧ w = w' := by
  have HL := hid hl
  have HA := hid hA
  clear hl hA
  by_cases h80 : 80 < n
  · have hs : smallB l = false := by unfold smallB; rw [HL.out, decide_eq_false (by omega)]; rfl
    rw [hs]
    go_enter Tryd.func22, Tryd.ntmps22
    go_wp2
    go_ret
    exact ⟨rfl, rfl⟩
  · go_enter Tryd.func22, Tryd.ntmps22
    go_wp2
    go_loop [3] (fun i => ∃ k : Nat, k ≤ n ∧ i = .int .i64 (k : Int) ∧ ∀ p ∈ l.take k, p.b.length ≤ 100) (fun i => n - (intOf i).toNat)
    case atStart => exact ⟨0, Nat.zero_le _, rfl, fun p hp => by simp at hp⟩
    case round =>
      obtain ⟨k, hk, rfl, hal⟩ := hrel
      have HAL := hid hal
      clear hal
      by_cases hlt : k < n
      · obtain ⟨p, hp⟩ : ∃ x, l[k]? = some x := ⟨l[k]'(by have := HL.out; omega), List.getElem?_eq_getElem _⟩
        rcases HA.out with h0 | ⟨b, off, rfl, hb, hc⟩
        · rw [h0] at hp; simp at hp
        have c2 : w.cell? ⟨b, off + k * 6 + 2, none⟩ = some (.slice p.A p.b.length p.c) := (hc k p hp).1 2 _ rfl
        have HP := hid hp
        generalize hm : p.b.length = m at *
        have hmb : m ≤ 9223372036854775807 := by have := (hc k p hp).2.2.2.1; omega
        have HM := hid hm
        clear hp hc hm
        by_cases h100 : 100 < m
        · have hs : smallB l = false := by
            unfold smallB
            have : l.all (fun p => decide (p.b.length ≤ 100)) = false := by
              rw [List.all_eq_false]
              exact ⟨p, List.mem_of_getElem? HP.out, by rw [HM.out]; simp; omega⟩
            rw [this, Bool.and_false]
          have HS := hid hs
          clear hs
          go_wp2
          go_ret
          exact ⟨ret_bool HS.out.symm, rfl⟩
        · go_wp2
          go_round
          case rel =>
            refine ⟨k + 1, by omega, by simp, fun q hq => ?_⟩
            rw [List.take_add_one, HP.out] at hq
            rcases List.mem_append.1 hq with hq | hq
            · exact HAL.out q hq
            · simp at hq; subst hq; rw [HM.out]; omega
          case measure => simp [intOf]; omega
      · obtain rfl : k = n := by omega
        have hs : smallB l = true := by
          unfold smallB
          rw [HL.out, decide_eq_true (by omega), Bool.true_and, List.all_eq_true]
          intro p hp
          exact decide_eq_true (HAL.out p (by rw [List.take_of_length_le (by rw [HL.out]; exact Nat.le_refl _)]; exact hp))
        have HS := hid hs
        clear hs
        go_wp2
        go_ret
        exact ⟨ret_bool HS.out.symm, rfl⟩
end Go.Proofs.YtmegiodajkeahaaDoor
