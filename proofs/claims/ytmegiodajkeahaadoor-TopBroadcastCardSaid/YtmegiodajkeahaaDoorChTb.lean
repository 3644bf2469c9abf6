/- The walk of the law TopBroadcast. -/
import Derived.Test.YtmegiodajkeahaaDoorChOp3
import Derived.Test.YtmegiodajkeahaaDoorChAl
import Derived.Deep.RegionHeld3
import Derived.Lib.BufferRead
import Derived.Deep.RegionWith
import Derived.Deep.DrawnRows
namespace Go.Proofs.YtmegiodajkeahaaDoor
open Go Go.RowKit
/-- What TopBroadcast keeps: the rounds, the keys, the configuration's box, all old memory. -/
structure TbA (W : World) (g : Nat) (K : List (Int × Int)) (st sp de co : Int) (w : World) : Prop where
  rnd : Rnd w
  keys : IsKs w (some ⟨g, 0, none⟩) K
  cf : Bk w W.heap.size 23 (cfCells st sp de co)
  below : Below W.heap.size W w
  lo : W.heap.size < g
  hi : g < w.heap.size
theorem TbA.next {W w w' : World} {g : Nat} {K : List (Int × Int)} {st sp de co : Int} (h : TbA W g K st sp de co w) (hb : Below w.heap.size w w') : TbA W g K st sp de co w' :=
  ⟨h.rnd.next hb, h.keys.next hb, h.cf.next hb, bstep h.below hb, h.lo, Nat.lt_of_lt_of_le h.hi hb.size⟩
theorem TbA.fr {W w w' : World} {g : Nat} {K : List (Int × Int)} {st sp de co : Int} {S S' : Nat → Prop} (h : TbA W g K st sp de co w) (F : Fr S S' w w') (hS : ∀ k, S k → W.heap.size ≤ k) (hg : ¬ S g) (hx : ¬ S W.heap.size) (hW : 2 ≤ W.heap.size) : TbA W g K st sp de co w' := by
  have hb : Below W.heap.size w w' := F.below h.below.size hS
  exact ⟨h.rnd.below hb (by omega), F.isk h.keys (fun a ha => by cases ha; exact hg), F.bk h.cf hx, h.below.trans hb, h.lo, Nat.lt_of_lt_of_le h.hi F.size⟩
theorem TbA.grown {W w w' : World} {g : Nat} {K : List (Int × Int)} {st sp de co : Int} {r : Option Nat} (h : TbA W g K st sp de co w) (hg : w.grownBy w' r) (hr : ∀ k, r = some k → W.heap.size ≤ k ∧ k ≠ g ∧ k ≠ W.heap.size) (hW : 2 ≤ W.heap.size) : TbA W g K st sp de co w' :=
  h.fr (S := fun k => r = some k) (S' := fun k => r = some k) ⟨hg.os, hg.tape, hg.output, hg.size, fun k hk hn => hg.block k hk (fun e => hn e.symm), fun _ _ h => h⟩ (fun k hk => (hr k hk).1) (fun e => (hr g e).2.1 rfl) (fun e => (hr _ e).2.2 rfl) hW
theorem TbA.key {W w : World} {g : Nat} {K : List (Int × Int)} {st sp de co : Int} (h : TbA W g K st sp de co w) {i : Nat} {p : Int × Int} (hp : K[i]? = some p) : w.cell? ⟨g, i * 2, none⟩ = some (.int .u64 p.1) ∧ w.cell? ⟨g, i * 2 + 1, none⟩ = some (.int .u64 p.2) := by
  rcases h.keys with h0 | ⟨b, off, hA, hb, hc⟩
  · rw [h0] at hp; simp at hp
  · obtain ⟨rfl, rfl⟩ : b = g ∧ off = 0 := by simpa using hA.symm
    have := hc i p hp
    simpa using this
theorem TbA.conf {W w : World} {g : Nat} {K : List (Int × Int)} {st sp de co : Int} (h : TbA W g K st sp de co w) : (w.cell? ⟨W.heap.size, 0, none⟩ = some (.int .i64 st)) ∧ (w.cell? ⟨W.heap.size, 1, none⟩ = some (.int .i64 sp)) ∧ (w.cell? ⟨W.heap.size, 2, none⟩ = some (.int .i64 de)) ∧ (w.cell? ⟨W.heap.size, 3, none⟩ = some (.int .i64 co)) := ⟨h.cf.cell 0, h.cf.cell 1, h.cf.cell 2, h.cf.cell 3⟩
theorem RcvS.lt {w : World} {S : Nat → Prop} {g : Nat} {st sp de co : Int} {s : Pl.Rst} (h : RcvS w S g st sp de co s) : ∀ k, S k → k < w.heap.size := by
  obtain ⟨v, L, M⟩ := h
  exact M.lt
def pslv (p : Pk) : Value := .slice p.A p.b.length p.c
/-- What holds at the head of a round. -/
structure TbI (W : World) (g : Nat) (K : List (Int × Int)) (st sp de : Int) (n : Nat) (k0 last : Int × Int) (l : List Pk) (gr k : Nat) (sv : Value) (w : World) (S : Nat → Prop) : Prop where
  a : TbA W g K st sp de n w
  rc : RcvS w S gr st sp de n ⟨0, k0, (Pl.pkL st sp de n l k).map (Pl.pkM last n)⟩
  lo : ∀ j, S j → W.heap.size ≤ j
  hg : ¬ S g
  hx : ¬ S W.heap.size
  own : w.ownsRow W.heap.size 41 1 sv (Pl.pkW last st sp de n n l k).length ((Pl.pkW last st sp de n n l k).map pslv)
  off : ∀ r, sv.ownBlock = some r → ¬ S r ∧ r ≠ g ∧ r ≠ W.heap.size
  ok : ∀ j p, l[j]? = some p → j < k → Pl.pkOk n p
/-- What the drawn region reads. -/
def TbC (W : World) (x : Nat) (st sp de : Int) (n : Nat) (p : Pk) (w : World) : Prop :=
  ((w.cell? ⟨x, 0, none⟩ = some (.int .i64 p.i)) ∧ (w.cell? ⟨x, 1, none⟩ = some (.int .i64 p.at_)) ∧ (w.cell? ⟨x, 2, none⟩ = some (.int .i64 p.er))) ∧
  ((w.cell? ⟨W.heap.size, 0, none⟩ = some (.int .i64 st)) ∧ (w.cell? ⟨W.heap.size, 1, none⟩ = some (.int .i64 sp)) ∧ (w.cell? ⟨W.heap.size, 2, none⟩ = some (.int .i64 de)) ∧ (w.cell? ⟨W.heap.size, 3, none⟩ = some (.int .i64 (n : Int)))) ∧
  (x < w.heap.size ∧ W.heap.size < w.heap.size)
theorem TbC.next {W w w' : World} {x : Nat} {st sp de : Int} {n : Nat} {p : Pk} (h : TbC W x st sp de n p w) (hb : Below w.heap.size w w') : TbC W x st sp de n p w' := by
  obtain ⟨⟨a0, a1, a2⟩, ⟨b0, b1, b2, b3⟩, h1, h2⟩ := h
  exact ⟨⟨(hb.cell (p := ⟨x, 0, none⟩) h1).trans a0, (hb.cell (p := ⟨x, 1, none⟩) h1).trans a1, (hb.cell (p := ⟨x, 2, none⟩) h1).trans a2⟩,
    ⟨(hb.cell (p := ⟨W.heap.size, 0, none⟩) h2).trans b0, (hb.cell (p := ⟨W.heap.size, 1, none⟩) h2).trans b1, (hb.cell (p := ⟨W.heap.size, 2, none⟩) h2).trans b2, (hb.cell (p := ⟨W.heap.size, 3, none⟩) h2).trans b3⟩, Nat.lt_of_lt_of_le h1 hb.size, Nat.lt_of_lt_of_le h2 hb.size⟩
def TbB (W0 W : World) (x : Nat) (st sp de : Int) (n : Nat) (p : Pk) (w : World) : Prop :=
  ((w.cell? ⟨x, 0, none⟩ = some (.int .i64 p.i)) ∧ (w.cell? ⟨x, 1, none⟩ = some (.int .i64 p.at_)) ∧ (w.cell? ⟨x, 2, none⟩ = some (.int .i64 p.er))) ∧
  ((w.cell? ⟨W.heap.size, 0, none⟩ = some (.int .i64 st)) ∧ (w.cell? ⟨W.heap.size, 1, none⟩ = some (.int .i64 sp)) ∧ (w.cell? ⟨W.heap.size, 2, none⟩ = some (.int .i64 de)) ∧ (w.cell? ⟨W.heap.size, 3, none⟩ = some (.int .i64 (n : Int)))) ∧
  (TbC W x st sp de n p w ∧ Below W0.heap.size W0 w)
theorem TbB.next {W0 W w w' : World} {x : Nat} {st sp de : Int} {n : Nat} {p : Pk} (h : TbB W0 W x st sp de n p w) (hb : Below w.heap.size w w') : TbB W0 W x st sp de n p w' :=
  have hc := h.2.2.1.next hb
  ⟨hc.1, hc.2.1, hc, bstep h.2.2.2 hb⟩
/-- The string of these bytes. -/
def strOf (xs : List Int) : ByteArray := ⟨(xs.map fun x => UInt8.ofNat x.toNat).toArray⟩
theorem conv_str (w : World) (A : Option Addr) (c : Nat) (xs : List Int) (m : Nat) (hS : IsSl w A .u8 xs) (hb : ∀ x ∈ xs, 0 ≤ x ∧ x ≤ 255) (hm : xs.length = m) : (convert 41 9 (.slice A m c)).run Tryd.prog w = .ok (.string (strOf xs)) w := by
  subst hm
  rcases A with _ | a
  · obtain rfl : xs = [] := by
      rcases hS with h | ⟨b, off, h, _⟩
      · exact h
      · cases h
    exact Lib.run_convert_nil_bytes w 41 9 5 c Tryd.underlying41 Tryd.underlying5 Tryd.underlying9
  · have h := run_convert_bytes_back (P := Tryd.prog) w 41 9 5 a c (xs.map fun x => UInt8.ofNat x.toNat) Tryd.underlying41 Tryd.underlying5 Tryd.underlying9 (fun j hj => by
      rcases hS with h0 | ⟨b, off, hA, _, hc⟩
      · subst h0; simp at hj
      · cases hA
        have hj' : j < xs.length := by simpa using hj
        have hx := hc j _ (List.getElem?_eq_getElem hj')
        have hbx := hb _ (List.getElem_mem hj')
        rw [add_none, hx]
        simp only [List.getElem_map]
        have e : ((UInt8.ofNat xs[j].toNat).toNat : Int) = xs[j] := by
          rw [UInt8.toNat_ofNat']
          omega
        rw [e])
    simp only [List.length_map] at h
    exact h
def TbE (W0 W : World) (gr n : Nat) (A5 : Option Addr) (c5 : Nat) (w : World) : Prop :=
  (w.cell? ⟨W.heap.size, 3, none⟩ = some (.int .i64 (n : Int))) ∧ (w.cell? ⟨gr, 4, none⟩ = some (.int .i64 (n : Int))) ∧ (w.cell? ⟨gr, 7, none⟩ = some (.slice A5 0 c5)) ∧ W.heap.size < w.heap.size ∧ gr < w.heap.size ∧ Below W0.heap.size W0 w
theorem TbE.next {W0 W w w' : World} {gr n : Nat} {A5 : Option Addr} {c5 : Nat} (h : TbE W0 W gr n A5 c5 w) (hb : Below w.heap.size w w') : TbE W0 W gr n A5 c5 w' :=
  ⟨(hb.cell (p := ⟨W.heap.size, 3, none⟩) h.2.2.2.1).trans h.1, (hb.cell (p := ⟨gr, 4, none⟩) h.2.2.2.2.1).trans h.2.1, (hb.cell (p := ⟨gr, 7, none⟩) h.2.2.2.2.1).trans h.2.2.1, Nat.lt_of_lt_of_le h.2.2.2.1 hb.size, Nat.lt_of_lt_of_le h.2.2.2.2.1 hb.size, bstep h.2.2.2.2.2 hb⟩
theorem pkW_skip {last : Int × Int} {st sp de co : Int} {n : Nat} {l : List Pk} {k : Nat} {p : Pk} (h : l[k]? = some p) (hs : Pl.pkSafe st sp de co p = false) : Pl.pkW last st sp de co n l (k + 1) = Pl.pkW last st sp de co n l k := by
  unfold Pl.pkW; rw [Pl.pkL_skip h hs]
theorem pkW_bad {last : Int × Int} {st sp de co : Int} {n : Nat} {l : List Pk} {k : Nat} {p : Pk} (h : l[k]? = some p) (hs : Pl.pkSafe st sp de co p = true) (hg : Pl.pkGood last n p = false) : Pl.pkW last st sp de co n l (k + 1) = Pl.pkW last st sp de co n l k := by
  unfold Pl.pkW; rw [Pl.pkL_keep h hs, List.filter_append]; simp [hg]
theorem pkW_good {last : Int × Int} {st sp de co : Int} {n : Nat} {l : List Pk} {k : Nat} {p : Pk} (h : l[k]? = some p) (hs : Pl.pkSafe st sp de co p = true) (hg : Pl.pkGood last n p = true) : Pl.pkW last st sp de co n l (k + 1) = Pl.pkW last st sp de co n l k ++ [p] := by
  unfold Pl.pkW; rw [Pl.pkL_keep h hs, List.filter_append]; simp [hg]
theorem pkW_le (last : Int × Int) (st sp de co : Int) (n : Nat) (l : List Pk) (k : Nat) : (Pl.pkW last st sp de co n l k).length ≤ k := by
  unfold Pl.pkW
  exact Nat.le_trans (List.length_filter_le _ _) (Pl.pkL_le st sp de co l k)
theorem ok_next {co : Int} {l : List Pk} {k : Nat} {p : Pk} (h : l[k]? = some p) (hp : Pl.pkOk co p) (hl : ∀ j q, l[j]? = some q → j < k → Pl.pkOk co q) : ∀ j q, l[j]? = some q → j < k + 1 → Pl.pkOk co q := fun j q hj hjk => by
  by_cases e : j = k
  · subst e
    rw [h] at hj
    cases hj
    exact hp
  · exact hl j q hj (by omega)
theorem own_fr2 {w w' : World} {B : Nat} {e : TypeId} {z n : Nat} {v : Value} {xs : List Value} {S S' : Nat → Prop} (h : w.ownsRow B e z v n xs) (F : Fr S S' w w') (hv : ∀ r, v.ownBlock = some r → ¬ S r) : w'.ownsRow B e z v n xs := by
  obtain ⟨h1, h2⟩ := h
  refine ⟨h1, ?_⟩
  rcases h2 with h2 | ⟨g, cap, cur, hv', hB, hh, r⟩
  · exact .inl h2
  · exact .inr ⟨g, cap, cur, hv', hB, F.bk (t := e) hh (hv g (by rw [hv']; rfl)), r⟩
theorem TbI.add {W w w8 : World} {g : Nat} {K : List (Int × Int)} {st sp de : Int} {n : Nat} {k0 last : Int × Int} {l : List Pk} {gr k : Nat} {sv v' : Value} {S : Nat → Prop} {p : Pk} {o : Obj} (hp : l[k]? = some p) (hs : Pl.pkSafe st sp de n p = true) (hgd : Pl.pkGood last n p = true) (hW : 2 ≤ W.heap.size)
    (ha : TbA W g K st sp de n w) (hr : RcvS w S gr st sp de n ⟨0, k0, (Pl.pkL st sp de n l (k + 1)).map (Pl.pkM last n)⟩) (hlo : ∀ j, S j → W.heap.size ≤ j) (hg : ¬ S g) (hx : ¬ S W.heap.size) (hoff : ∀ r, sv.ownBlock = some r → ¬ S r ∧ r ≠ g ∧ r ≠ W.heap.size)
    (hB : ∀ r, sv.ownBlock = some r → W.heap.size ≤ r) (hok : ∀ j q, l[j]? = some q → j < k + 1 → Pl.pkOk n q) (hg8 : (w.alloc o).grownBy w8 sv.ownBlock)
    (O8 : w8.ownsRow W.heap.size 41 1 v' ((Pl.pkW last st sp de n n l k).length + 1) ((Pl.pkW last st sp de n n l k).map pslv ++ [pslv p])) (hat : v'.ownBlock = sv.ownBlock ∨ v'.ownBlock = some (w.alloc o).heap.size) : TbI W g K st sp de n k0 last l gr (k + 1) v' w8 S := by
  have BA : Below w.heap.size w (w.alloc o) := (Below.refl _ _).alloc (Nat.le_refl _) o
  have hsz : (w.alloc o).heap.size = w.heap.size + 1 := by simp
  have hgl := ha.hi
  have hlow := ha.lo
  have hxl := ha.cf.lt
  refine ⟨(ha.next BA).grown hg8 (fun r hr => ⟨hB r hr, (hoff r hr).2⟩) hW, (hr.next BA).grown hg8 (fun r hr => (hoff r hr).1), hlo, hg, hx, ?_, fun r hr' => ?_, hok⟩
  · rw [pkW_good hp hs hgd, List.length_append, List.map_append]
    exact O8
  · rcases hat with h | h
    · exact hoff r (h ▸ hr')
    · rw [h] at hr'
      obtain rfl : (w.alloc o).heap.size = r := by simpa using hr'
      exact ⟨fun e => by have := hr.lt _ e; omega, by omega, by omega⟩
set_option maxHeartbeats 8000000 in
set_option maxRecDepth 100000 in
theorem topBroadcast_yes (seed st sp de : Int) (n : Nat) (A : Option Addr) (d nl : Nat) (l : List Pk) (W : World) (hR : Rnd W) (hl : l.length = nl) (h64 : nl ≤ 64) (hP : IsPk W A l) (hok : Pl.cfOk st sp de n) :
    Calls Tryd.prog 11 #[.int .u64 seed, .agg #[.int .i64 st, .int .i64 sp, .int .i64 de, .int .i64 (n : Int)], .slice A nl d] W fun e w' => e = .returned (.bool true) ∧ Below W.heap.size W w' := by
  have hW2 : 2 ≤ W.heap.size := hR.lt
  have HP := hid (And.intro hP hl)
  have HOK := hid hok
  have hn1 : 1 ≤ n := by have := hok.2.2.2.1; omega
  have hn64 : n ≤ 64 := by have := hok.2.2.2.2; omega
  have hde : 1 ≤ de ∧ de ≤ 8 := hok.2.2.1
  obtain ⟨hde0, hde1⟩ := hde
  clear hl hP hok
  have CK : ∀ w, Calls Tryd.prog 12 #[.agg #[.int .i64 st, .int .i64 sp, .int .i64 de, .int .i64 (n : Int)]] w fun e w' => e = .returned (.int .i64 0) ∧ Below w.heap.size w w' := fun w => by
    have := chk_any st sp de n w
    rw [Pl.cfErr_yes HOK.out] at this
    exact this
  have CL := fun w h => make_any seed n hn1 hn64 w h
  generalize Pl.lastK seed n = last at *
  have K0 := Pl.keysL_get last n 0 (Nat.zero_le _)
  have KA := fun i h => Pl.keysL_get last n i h
  have KN := Pl.keysL_get last n n (Nat.le_refl _)
  have KL := Pl.keysL_len last n
  rw [Nat.sub_zero] at K0
  rw [Nat.sub_self] at KN
  have HD := hid (fun ms => Pl.pk_d (co := n) (last := last) (n := n) rfl hn1 ms)
  generalize Pl.keysL last n = K at *
  generalize Pl.dnN last n = k0 at *
  have HK := hid (And.intro K0 (And.intro KN (And.intro KL KA)))
  replace CL := hid CL
  replace CK := hid CK
  have NW : Hid (∀ w, Calls Tryd.prog 20 #[.agg #[.int .i64 st, .int .i64 sp, .int .i64 de, .int .i64 (n : Int)], .agg #[.int .u64 k0.1, .int .u64 k0.2]] w fun e w' => (∃ g, w.heap.size ≤ g ∧ e = .returned (pt g) ∧ RcvS w' (· = g) g st sp de n ⟨0, (k0.1, k0.2), []⟩) ∧ Below w.heap.size w w') := hid (fun w => new_yes st sp de n k0.1 k0.2 HOK.out w)
  have KB := Bk.new W 23 (cfCells st sp de n)
  have BB := (Below.refl W.heap.size W).alloc (Nat.le_refl _) (.cells (cfCells st sp de n) 23)
  have hsz : (W.alloc (.cells (cfCells st sp de n) 23)).heap.size = W.heap.size + 1 := by simp
  unfold cfCells at KB BB hsz
  have HB0 := hid (And.intro KB (And.intro BB hsz))
  have c0 := KB.cell 0
  have c1 := KB.cell 1
  have c2 := KB.cell 2
  have c3 := KB.cell 3
  simp only [List.getElem?_toArray, List.getElem?_cons_zero, List.getElem?_cons_succ] at c0 c1 c2 c3
  have HR := hid hR
  clear K0 KA KN KL hR KB BB hsz
  go_enter Tryd.func11, Tryd.ntmps11
  go_wp2_with fail
  generalize W.alloc (.cells #[.int .i64 st, .int .i64 sp, .int .i64 de, .int .i64 (n : Int)] 23) = w0 at *
  refine (CK.out _).mono ?_
  rintro e w1 ⟨rfl, hb1⟩
  have KB1 := HB0.out.1.next hb1
  have BB1 := bstep HB0.out.2.1 hb1
  have hs1 : W.heap.size + 1 ≤ w1.heap.size := by have := hb1.size; have := HB0.out.2.2; omega
  have HB1 := hid (And.intro KB1 (And.intro BB1 hs1))
  clear c0 c1 c2 c3 hb1 CK HB0 BB1 hs1
  have c0 := KB1.cell 0
  have c1 := KB1.cell 1
  have c2 := KB1.cell 2
  have c3 := KB1.cell 3
  simp only [List.getElem?_toArray, List.getElem?_cons_zero, List.getElem?_cons_succ] at c0 c1 c2 c3
  clear KB1
  go_wp2_with fail
  refine (CL.out _ (HR.out.next HB1.out.2.1)).mono ?_
  rintro e w2 ⟨rfl, Kb, hb2⟩
  have HA2 : Hid (TbA W w1.heap.size K st sp de n w2) := hid ⟨HR.out.next (bstep HB1.out.2.1 hb2), Kb.is, HB1.out.1.next hb2, bstep HB1.out.2.1 hb2, by have := HB1.out.2.2; omega, Bk.lt Kb⟩
  generalize w1.heap.size = g at *
  clear c0 c1 c2 c3 Kb hb2 CL HB1
  obtain ⟨c0, c1, c2, c3⟩ := HA2.out.conf
  obtain ⟨e0, e1⟩ := HA2.out.key HK.out.1
  simp only [Nat.zero_mul, Nat.zero_add] at e0 e1
  go_wp2_with fail
  go_still_tail 4, (by kernel_rfl)
  change wpList _ _ _ _ _ w2.drew
  have HA3 := hid (HA2.out.next (Below.refl _ _).drew)
  generalize w2.drew = w3 at *
  clear c0 c1 c2 c3 e0 e1 HA2
  go_wp2_with fail
  refine (NW.out _).mono ?_
  rintro e w4 ⟨⟨gr, hgr, rfl, R4⟩, hb4⟩
  have hA3h := HA3.out.hi
  have hA3l := HA3.out.lo
  have HI0 : Hid (TbI W g K st sp de n k0 last l gr 0 (.slice none 0 0) w4 (· = gr)) := hid ⟨HA3.out.next hb4, R4, (fun j hj => by omega), (fun e => by omega), (fun e => by omega), World.ownsRow_nil _ _ _ _, (fun r h => by cases h), (fun j p _ hj => by omega)⟩
  clear R4 hb4 hgr HA3 NW hA3h hA3l
  go_wp2_with fail
  go_loopw [9, 51] (fun sv iv wr => ∃ k : Nat, k ≤ nl ∧ iv = .int .i64 (k : Int) ∧ ∃ S, TbI W g K st sp de n k0 last l gr k sv wr S) (fun _ iv _ => nl - (intOf iv).toNat)
  case atStart => exact ⟨0, Nat.zero_le _, rfl, _, HI0.out⟩
  case round =>
    clear HI0
    obtain ⟨k, hk, rfl, S, I⟩ := hrel
    have HI := hid I
    clear I
    by_cases hlt : k < nl
    · obtain ⟨p, hp⟩ : ∃ x, l[k]? = some x := ⟨l[k]'(by have := HP.out.2; omega), List.getElem?_eq_getElem _⟩
      rcases HP.out.1 with h0 | ⟨pb, po, hA1, hpb, hpc⟩
      · have := HP.out.2; rw [h0] at this; simp at this; omega
      subst hA1
      obtain ⟨hpc, hS, hbw, hbl⟩ := hpc k p hp
      have hbel := HI.out.a.below
      have q0 : wr.cell? ⟨pb, po + k * 6, none⟩ = some (.int .i64 p.i) := (hbel.cell (p := ⟨pb, po + k * 6 + 0, none⟩) hpb).trans (hpc 0 _ rfl)
      have q1 : wr.cell? ⟨pb, po + k * 6 + 1, none⟩ = some (.int .i64 p.at_) := (hbel.cell (p := ⟨pb, po + k * 6 + 1, none⟩) hpb).trans (hpc 1 _ rfl)
      have q2 : wr.cell? ⟨pb, po + k * 6 + 2, none⟩ = some (.int .i64 p.er) := (hbel.cell (p := ⟨pb, po + k * 6 + 2, none⟩) hpb).trans (hpc 2 _ rfl)
      have q3 : wr.cell? ⟨pb, po + k * 6 + 3, none⟩ = some (.slice p.A p.b.length p.c) := (hbel.cell (p := ⟨pb, po + k * 6 + 3, none⟩) hpb).trans (hpc 3 _ rfl)
      have q4 : wr.cell? ⟨pb, po + k * 6 + 4, none⟩ = some (.bool p.bad) := (hbel.cell (p := ⟨pb, po + k * 6 + 4, none⟩) hpb).trans (hpc 4 _ rfl)
      have q5 : wr.cell? ⟨pb, po + k * 6 + 5, none⟩ = some (.int .u64 p.tag) := (hbel.cell (p := ⟨pb, po + k * 6 + 5, none⟩) hpb).trans (hpc 5 _ rfl)
      have Hp := hid hp
      obtain ⟨i, at_, er, pA, pc, b, bad, tg⟩ := p
      simp only at q0 q1 q2 q3 q4 q5 hS hbw hbl
      have HS := hid (And.intro hS hbw)
      have HBW : Hid (∀ (j : Nat) (q : Pk), l[j]? = some q → ∀ x ∈ q.b, 0 ≤ x ∧ x ≤ 255) := hid (fun j q hj => by
        rcases HP.out.1 with h0 | ⟨pb', po', hA1, hpb', hpc'⟩
        · rw [h0] at hj; simp at hj
        · exact (hpc' j q hj).2.2.1)
      have HBox := hid (And.intro (Bk.new wr 67 (pkCells ⟨i, at_, er, pA, pc, b, bad, tg⟩)) (hbel.alloc hbel.size (.cells (pkCells ⟨i, at_, er, pA, pc, b, bad, tg⟩) 67)))
      have hAx := HI.out.a.next ((Below.refl wr.heap.size wr).alloc (Nat.le_refl _) (.cells (pkCells ⟨i, at_, er, pA, pc, b, bad, tg⟩) 67))
      unfold pkCells at HBox hAx
      simp only at HBox hAx
      have HAx := hid hAx
      have HAw := hid ((Below.refl wr.heap.size wr).alloc (Nat.le_refl _) (.cells (pkCells ⟨i, at_, er, pA, pc, b, bad, tg⟩) 67))
      unfold pkCells at HAw
      simp only at HAw
      generalize hm : b.length = m at *
      have HM := hid hm
      clear hp hpc hS hbw hbel hm
      obtain ⟨c0, c1, c2, c3⟩ := hAx.conf
      clear hAx
      by_cases hx0 : i < 1
      · go_wp2
        go_ret
        exact ⟨rfl, HBox.out.2⟩
      by_cases hx89 : (n : Int) < i
      · go_wp2
        go_ret
        exact ⟨rfl, HBox.out.2⟩
      by_cases hx187 : at_ < 0
      · go_wp2
        go_ret
        exact ⟨rfl, HBox.out.2⟩
      by_cases hx280 : 1125899906842624 < at_
      · go_wp2
        go_ret
        exact ⟨rfl, HBox.out.2⟩
      by_cases hx388 : er < 0
      · go_wp2
        go_ret
        exact ⟨rfl, HBox.out.2⟩
      by_cases hx480 : 1125899906842624 < er
      · go_wp2
        go_ret
        exact ⟨rfl, HBox.out.2⟩
      by_cases hx587 : 100 < m
      · go_wp2
        go_ret
        exact ⟨rfl, HBox.out.2⟩
      obtain ⟨i, rfl⟩ : ∃ j : Nat, i = j := ⟨i.toNat, by omega⟩
      have hpk : Pl.pkOk n ⟨(i : Int), at_, er, pA, pc, b, bad, tg⟩ := ⟨show 1 ≤ (i : Int) by omega, show (i : Int) ≤ n by omega, show 0 ≤ at_ by omega, show at_ ≤ 1125899906842624 by omega, show 0 ≤ er by omega, show er ≤ 1125899906842624 by omega, by have := HM.out; show b.length ≤ 100; omega⟩
      have HPK := hid hpk
      have hkk := hid (HK.out.2.2.2 i (by omega))
      have hpT : Hid (Pl.pkT last n ⟨(i : Int), at_, er, pA, pc, b, bad, tg⟩ = if bad = true then tg else Pl.mtag (Pl.dnN last (n - i)) b) := hid (by unfold Pl.pkT; simp only [Int.toNat_natCast])
      have hpG : Hid (Pl.pkGood last n ⟨(i : Int), at_, er, pA, pc, b, bad, tg⟩ = (Pl.mtag (Pl.dnN last (n - i)) b == Pl.pkT last n ⟨(i : Int), at_, er, pA, pc, b, bad, tg⟩)) := hid (by unfold Pl.pkGood; simp only [Int.toNat_natCast])
      have hpS : Hid (Pl.pkSafe st sp de n ⟨(i : Int), at_, er, pA, pc, b, bad, tg⟩ = decide (Pl.ivl st sp de n (at_ + er) < (i : Int) + de)) := hid rfl
      have hpM : Hid (Pl.pkM last n ⟨(i : Int), at_, er, pA, pc, b, bad, tg⟩ = ⟨(i : Int), b, Pl.pkT last n ⟨(i : Int), at_, er, pA, pc, b, bad, tg⟩⟩) := hid rfl
      have hokb : Hid (Pl.okB b) := hid ⟨HS.out.2, by have := HM.out; omega⟩
      have CI : Hid (∀ w, Calls Tryd.prog 17 #[.agg #[.int .i64 st, .int .i64 sp, .int .i64 de, .int .i64 (n : Int)], .int .i64 (at_ + er)] w fun e w' => e = .returned (.int .i64 (Pl.ivl st sp de n (at_ + er))) ∧ Below w.heap.size w w') := hid (fun w => interval_any st sp de n (at_ + er) (by omega) w)
      have RT : Hid (∀ w' : World, Rnd w' → IsKs w' (some ⟨g, 0, none⟩) K → IsSl w' pA .u8 b → Calls Tryd.prog 37 #[.slice (some ⟨g, 0, none⟩) (n + 1) (n + 1), .int .i64 (i : Int), .slice pA m pc] w' fun e w'' => e = .returned (.int .u64 (Pl.mtag (Pl.dnN last (n - i)) b)) ∧ Below w'.heap.size w' w'') := hid (fun w' h1 h2 h3 =>
        right_any g (n + 1) (n + 1) m pc i K _ pA b w' h1 h2 HK.out.2.2.1 hkk.out h3 HS.out.2 HM.out (by omega))
      generalize hPT : Pl.pkT last n ⟨(i : Int), at_, er, pA, pc, b, bad, tg⟩ = pT at *
      generalize hMT : Pl.mtag (Pl.dnN last (n - i)) b = mT at *
      generalize hVL : Pl.ivl st sp de n (at_ + er) = vl at *
      have HPT := hid hPT
      clear hpk hPT hMT hVL
      go_wp2_with fail
      generalize wr.alloc (.cells #[.int .i64 (i : Int), .int .i64 at_, .int .i64 er, .slice pA m pc, .bool bad, .int .u64 tg] 67) = wb at *
      refine (RT.out wb HAx.out.rnd HAx.out.keys (HS.out.1.next HBox.out.2)).mono ?_
      rintro e wc ⟨rfl, hbc⟩
      have HAc := hid (HAx.out.next hbc)
      have HBc := hid (HBox.out.1.next hbc)
      have b0 := HBc.out.cell 0
      have b1 := HBc.out.cell 1
      have b2 := HBc.out.cell 2
      have b3 := HBc.out.cell 3
      have b4 := HBc.out.cell 4
      have b5 := HBc.out.cell 5
      simp only [List.getElem?_toArray, List.getElem?_cons_zero, List.getElem?_cons_succ] at b0 b1 b2 b3 b4 b5
      have HWc := hid (HAw.out.trans (hbc.mono HAw.out.size))
      have HRc := hid (HI.out.rc.next HWc.out)
      clear q0 q1 q2 q3 q4 q5 c0 c1 c2 c3 hbc HBox HAx
      go_upto_if 98 with (fail)
      go_cut [12] (fun t12 wx => t12 = .int .u64 pT ∧ wc = wx)
      case first =>
        cases bad
        · go_wp2_with fail
          go_meet
          exact ⟨by rw [hpT.out, if_neg (by decide)], rfl⟩
        · go_wp2_with fail
          go_meet
          exact ⟨by rw [hpT.out, if_pos trivial], rfl⟩
      case rest =>
        obtain ⟨rfl, rfl⟩ := hcut
        have hlen := hid (show ((Pl.pkL st sp de n l k).map (Pl.pkM last n)).length < 64 by rw [List.length_map]; have := Pl.pkL_le st sp de n l k; omega)
        have hE := hid (Pl.pk_hErr (st := st) (sp := sp) (de := de) (co := n) (key := k0) (ms := (Pl.pkL st sp de n l k).map (Pl.pkM last n)) HPK.out hlen.out)
        have hokR := hid (Pl.pk_ok (st := st) (sp := sp) (de := de) (co := n) (last := last) (key := k0) (n := n) (l := l) (k := k) (by omega) (by omega) (fun j q hj hjk => ⟨HI.out.ok j q hj hjk, HBW.out j q hj⟩))
        have hSl := hid HI.out.rc.lt
        by_cases hs : vl < (i : Int) + de
        · have hst : Hid (Pl.pkSafe st sp de n ⟨(i : Int), at_, er, pA, pc, b, bad, tg⟩ = true) := hid (by rw [hpS.out]; exact decide_eq_true hs)
          have HV : Hid (Calls Tryd.prog 26 #[pt gr, .int .i64 (i : Int), .slice pA m pc, .int .u64 pT, .agg #[.int .i64 (at_ - er), .int .i64 (at_ + er)]] wc fun e w' => e = .returned (.int .i64 0) ∧ ∃ S', RcvS w' S' gr st sp de n ⟨0, k0, (Pl.pkL st sp de n l (k + 1)).map (Pl.pkM last n)⟩ ∧ Fr S S' wc w') := hid (by
            have h0 : Pl.hErr st sp de n ⟨0, k0, (Pl.pkL st sp de n l k).map (Pl.pkM last n)⟩ (i : Int) (at_ - er) (at_ + er) = 0 := by have := hE.out; rw [hst.out, if_pos rfl] at this; exact this
            refine (hear_yes h0 HOK.out hokR.out hokb.out (HS.out.1.next HAc.out.below) HRc.out (n := m) HM.out (t := pT)).mono fun e w' ⟨h1, S', h2, h3⟩ => ⟨h1, S', ?_, h3⟩
            rw [Pl.pkL_keep Hp.out hst.out, List.map_append]
            have e2 := hpM.out
            show RcvS w' S' gr st sp de n ⟨0, k0, _ ++ [Pl.pkM last n ⟨(i : Int), at_, er, pA, pc, b, bad, tg⟩]⟩
            rw [e2]
            exact h2)
          go_wp2_with fail
          refine HV.out.mono ?_
          rintro e wd ⟨rfl, S', Rd, Fd⟩
          have hbx : ¬ S wr.heap.size := fun h => by have := HI.out.rc.lt _ h; omega
          have HAd := hid (HAc.out.fr Fd HI.out.lo HI.out.hg HI.out.hx hW2)
          have HBd := hid (Fd.bk HBc.out hbx)
          have HRd := hid Rd
          have HFd := hid Fd
          have HC17 : Hid (TbB wd W wr.heap.size st sp de n ⟨(i : Int), at_, er, pA, pc, b, bad, tg⟩ wd) := hid ⟨⟨HBd.out.cell 0, HBd.out.cell 1, HBd.out.cell 2⟩, HAd.out.conf, ⟨⟨HBd.out.cell 0, HBd.out.cell 1, HBd.out.cell 2⟩, HAd.out.conf, HBd.out.lt, HAd.out.cf.lt⟩, Below.refl _ _⟩
          clear Rd Fd HV b0 b1 b2 b3 b4 b5 hbx
          go_wp2_with fail
          have hw1 := IntWalk.i64_in (at_ + er) (by omega)
          have hw2 := IntWalk.i64_in ((i : Int) + de) (by omega)
          refine region_class (fun w' => TbB wd W wr.heap.size st sp de n ⟨(i : Int), at_, er, pA, pc, b, bad, tg⟩ w') (by kernel_rfl) (by kernel_rfl) (HC17.out.next (Below.refl _ _).drew) ?_
          repeat
            first
            | (refine BigFrame.wpQuiet_skip (by rfl) ?_
               simp only [Act.put, List.setIfInBounds_toArray, List.set_cons_zero, List.set_cons_succ])
            | (refine class_want (by rfl) ?_
               apply Exists.intro
               refine ⟨fun w1 h1 => ?_, ?_⟩
               focus
                 obtain ⟨⟨p0, p1, p2⟩, ⟨v0, v1, v2, v3⟩, _⟩ := id h1
                 simp only at p0 p1 p2
                 unfold Oper.quietAt Oper.quietUpon
                 go_simp
                 first
                 | exact rfl
                 | (with_reducible refine (CI.out _).mono ?_
                    rintro e w2 ⟨rfl, hb⟩
                    exact ⟨rfl, TbB.next h1 hb⟩)
               simp only [Act.put, List.setIfInBounds_toArray, List.set_cons_zero, List.set_cons_succ])
          refine wpQuiet_nil ?_
          intro w3 h3
          have HAe := hid (HAd.out.next h3.2.2.2)
          have HBe := hid (HBd.out.next h3.2.2.2)
          have HRe := hid (HRd.out.next h3.2.2.2)
          have HBel := hid h3.2.2.2
          have b0 := HBe.out.cell 0
          have b3 := HBe.out.cell 3
          simp only [List.getElem?_toArray, List.getElem?_cons_zero, List.getElem?_cons_succ] at b0 b3
          clear h3 hw1 hw2
          go_wp2_with fail
          refine (RT.out w3 HAe.out.rnd HAe.out.keys (HS.out.1.next HAe.out.below)).mono ?_
          rintro e we ⟨rfl, hbe⟩
          have HAf := hid (HAe.out.next hbe)
          have HRf := hid (HRe.out.next hbe)
          have hg' := hid (fun e => HI.out.hg (HFd.out.set g HAc.out.hi e))
          have hx' := hid (fun e => HI.out.hx (HFd.out.set _ HAc.out.cf.lt e))
          have hlo' := hid (HFd.out.from_ HAc.out.below.size HI.out.lo)
          have hsvl := hid (fun r (e : u9.ownBlock = some r) => World.ownsRow.lt HI.out.own r e)
          have hoff' := hid (fun r (e : u9.ownBlock = some r) => (show ¬ S' r ∧ r ≠ g ∧ r ≠ W.heap.size from ⟨fun h => (HI.out.off r e).1 (HFd.out.set r (Nat.lt_of_lt_of_le (hsvl.out r e).2 HWc.out.size) h), (HI.out.off r e).2⟩))
          have HOwn := hid (own_next (own_next (own_fr2 (own_next HI.out.own HWc.out) HFd.out (fun r e => (HI.out.off r e).1)) HBel.out) hbe)
          have hb3 : we.cell? ⟨wr.heap.size, 3, none⟩ = some (.slice pA m pc) := (HBe.out.next hbe).cell 3
          have hok' := hid (ok_next Hp.out HPK.out HI.out.ok)
          clear b0 b3 hbe HBel HAe HBe HRe HAd HBd HRd HC17
          by_cases hg : mT = pT
          · subst hg
            have HGd : Hid (Pl.pkGood last n ⟨(i : Int), at_, er, pA, pc, b, bad, tg⟩ = true) := hid (by rw [hpG.out]; simp)
            obtain ⟨i1, hi1', hz⟩ := Option.map_eq_some_iff.1 info_sl
            simp only [Prod.mk.injEq] at hz
            have HIf := hid hi1'
            have HZ := hid hz
            have hwl := pkW_le last st sp de n n l k
            have HSRC : Hid (∀ (jj : Nat) (u : Value), ([.slice pA m pc] : List Value)[jj]? = some u → (we.alloc (.cells #[.slice pA m pc] 41)).cell? ((⟨we.heap.size, 0, none⟩ : Addr).add jj) = some u) := hid (by
              intro jj u hj
              rw [add_none, Bk.cell (Bk.new we 41 _)]
              simpa using hj)
            have HWs : Hid (W.heap.size ≤ we.heap.size) := hid HAf.out.below.size
            clear hi1' hz
            go_wp2_with (at_builtin; refine wpList_append_own_at _ (by rfl) (.tmp 155) (.tmp 158) 50 (by rfl) W.heap.size 41 i1 (.slice none 0 0) 1 24 Tryd.underlying50 HIf.out HZ.out.1 HZ.out.2.1 HZ.out.2.2 (by rfl) (by decide) u9 (Pl.pkW last st sp de n n l k).length ((Pl.pkW last st sp de n n l k).map pslv) (by rfl) (HOwn.out.alloc _) ⟨we.heap.size, 0, none⟩ 1 1 [.slice pA m pc] (by rfl) (by rfl) HSRC.out (by simp [Value.oneCell']) (by simp only [maxLen]; omega) (by omega) (by have := HWs.out; simp; omega) ?_; intro v' w8 O8 hg8 hn8 hat8; have HG8 := hid (And.intro O8 (And.intro hg8 hat8)); clear O8 hg8 hn8 hat8)
            go_roundw
            case rel =>
              obtain ⟨O8, hg8, hat8⟩ := HG8.out
              refine ⟨k + 1, by omega, by simp, S', TbI.add Hp.out hst.out HGd.out hW2 HAf.out HRf.out hlo'.out hg'.out hx'.out hoff'.out (fun r e => (hsvl.out r e).1) hok'.out hg8 ?_ hat8⟩
              show w8.ownsRow W.heap.size 41 1 v' _ (_ ++ [.slice pA b.length pc])
              rw [HM.out]
              exact O8
            case measure => simp [intOf]; omega
          · have hgf : (pT == mT) = false := by rw [beq_eq_false_iff_ne]; exact fun e => hg e.symm
            have HGd : Hid (Pl.pkGood last n ⟨(i : Int), at_, er, pA, pc, b, bad, tg⟩ = false) := hid (by rw [hpG.out]; rw [beq_eq_false_iff_ne]; exact hg)
            clear hb3 hg
            go_wp2
            go_roundw
            case rel => exact ⟨k + 1, by omega, by simp, S', ⟨HAf.out, HRf.out, hlo'.out, hg'.out, hx'.out, by rw [pkW_bad Hp.out hst.out HGd.out]; exact HOwn.out, hoff'.out, hok'.out⟩⟩
            case measure => simp [intOf]; omega
        · have hst : Hid (Pl.pkSafe st sp de n ⟨(i : Int), at_, er, pA, pc, b, bad, tg⟩ = false) := hid (by rw [hpS.out]; exact decide_eq_false hs)
          have HV : Hid (Calls Tryd.prog 26 #[pt gr, .int .i64 (i : Int), .slice pA m pc, .int .u64 pT, .agg #[.int .i64 (at_ - er), .int .i64 (at_ + er)]] wc fun e w' => e = .returned (.int .i64 17) ∧ Below wc.heap.size wc w') := hid (by
            have h0 : Pl.hErr st sp de n ⟨0, k0, (Pl.pkL st sp de n l k).map (Pl.pkM last n)⟩ (i : Int) (at_ - er) (at_ + er) = 17 := by have := hE.out; rw [hst.out, if_neg (by decide)] at this; exact this
            exact hear_no h0 (by decide) HOK.out hokR.out hokb.out (HS.out.1.next HAc.out.below) HRc.out (n := m) HM.out (t := pT))
          go_wp2_with fail
          refine HV.out.mono ?_
          rintro e wd ⟨rfl, hbd⟩
          have HAd := hid (HAc.out.next hbd)
          have HBd := hid (HBc.out.next hbd)
          have HRd := hid (HRc.out.next hbd)
          have HWd := hid (HWc.out.trans (hbd.mono HWc.out.size))
          have HC17 : Hid (TbB wd W wr.heap.size st sp de n ⟨(i : Int), at_, er, pA, pc, b, bad, tg⟩ wd) := hid ⟨⟨HBd.out.cell 0, HBd.out.cell 1, HBd.out.cell 2⟩, HAd.out.conf, ⟨⟨HBd.out.cell 0, HBd.out.cell 1, HBd.out.cell 2⟩, HAd.out.conf, HBd.out.lt, HAd.out.cf.lt⟩, Below.refl _ _⟩
          clear hbd HV b0 b1 b2 b3 b4 b5
          go_wp2_with fail
          have hw1 := IntWalk.i64_in (at_ + er) (by omega)
          have hw2 := IntWalk.i64_in ((i : Int) + de) (by omega)
          refine region_class (fun w' => TbB wd W wr.heap.size st sp de n ⟨(i : Int), at_, er, pA, pc, b, bad, tg⟩ w') (by kernel_rfl) (by kernel_rfl) (HC17.out.next (Below.refl _ _).drew) ?_
          repeat
            first
            | (refine BigFrame.wpQuiet_skip (by rfl) ?_
               simp only [Act.put, List.setIfInBounds_toArray, List.set_cons_zero, List.set_cons_succ])
            | (refine class_want (by rfl) ?_
               apply Exists.intro
               refine ⟨fun w1 h1 => ?_, ?_⟩
               focus
                 obtain ⟨⟨p0, p1, p2⟩, ⟨v0, v1, v2, v3⟩, _⟩ := id h1
                 simp only at p0 p1 p2
                 unfold Oper.quietAt Oper.quietUpon
                 go_simp
                 first
                 | exact rfl
                 | (with_reducible refine (CI.out _).mono ?_
                    rintro e w2 ⟨rfl, hb⟩
                    exact ⟨rfl, TbB.next h1 hb⟩)
               simp only [Act.put, List.setIfInBounds_toArray, List.set_cons_zero, List.set_cons_succ])
          refine wpQuiet_nil ?_
          intro w3 h3
          have HAe := hid (HAd.out.next h3.2.2.2)
          have HRe := hid (HRd.out.next h3.2.2.2)
          have HOwn := hid (own_next (own_next HI.out.own HWd.out) h3.2.2.2)
          have hok' := hid (ok_next Hp.out HPK.out HI.out.ok)
          clear h3 hw1 hw2
          go_wp2
          go_roundw
          case rel => exact ⟨k + 1, by omega, by simp, S, ⟨HAe.out, by rw [Pl.pkL_skip Hp.out hst.out]; exact HRe.out, HI.out.lo, HI.out.hg, HI.out.hx, by rw [pkW_skip Hp.out hst.out]; exact HOwn.out, HI.out.off, hok'.out⟩⟩
          case measure => simp [intOf]; omega
    · obtain rfl : k = nl := by omega
      have hnn := hid (show (n : Int) = (n : Int) from rfl)
      have hokl : Hid (∀ j p, l[j]? = some p → j < k → Pl.pkOk n p) := hid HI.out.ok
      have HBW : Hid (∀ (j : Nat) (q : Pk), l[j]? = some q → ∀ x ∈ q.b, 0 ≤ x ∧ x ≤ 255) := hid (fun j q hj => by
        rcases HP.out.1 with h0 | ⟨pb', po', hA1, hpb', hpc'⟩
        · rw [h0] at hj; simp at hj
        · exact (hpc' j q hj).2.2.1)
      have HokB := hid (fun (j : Nat) (p : Pk) (h : l[j]? = some p) => HBW.out j p h)
      have hokR := hid (Pl.pk_ok (st := st) (sp := sp) (de := de) (co := n) (last := last) (key := k0) (n := n) (l := l) (k := k) (by omega) h64 (fun j q hj hjk => ⟨hokl.out j q hj hjk, HBW.out j q hj⟩))
      have hd : Below wr.heap.size wr wr.drew := (Below.refl _ _).drew
      have HSX : Hid (∀ w', TbA W g K st sp de n w' → (w'.cell? ⟨W.heap.size, 3, none⟩ = some (.int .i64 (n : Int))) ∧ (w'.cell? ⟨g, n * 2, none⟩ = some (.int .u64 last.1)) ∧ (w'.cell? ⟨g, n * 2 + 1, none⟩ = some (.int .u64 last.2))) := hid (fun w' h => ⟨h.conf.2.2.2, (h.key HK.out.2.1).1, (h.key HK.out.2.1).2⟩)
      have D := hid (disc_yes (HD.out ((Pl.pkL st sp de n l k).map (Pl.pkM last n))) (HI.out.rc.next hd) hokR.out (by omega) (HI.out.a.next hd).rnd (fun j hj => by have := HI.out.lo j hj; omega))
      rw [Pl.pk_st (st := st) (sp := sp) (de := de) hokl.out] at D
      simp only at D
      rw [Pl.pk_out (st := st) (sp := sp) (de := de) rfl hokl.out] at D
      clear hnn
      go_wp2_with fail
      have hnn1 : ((n : Int) < (n : Int) + 1) = True := eq_true (by omega)
      refine wp_region_held_drew (S := (fun w' => (w'.cell? ⟨W.heap.size, 3, none⟩ = some (.int .i64 (n : Int))) ∧ (w'.cell? ⟨g, n * 2, none⟩ = some (.int .u64 last.1)) ∧ (w'.cell? ⟨g, n * 2 + 1, none⟩ = some (.int .u64 last.2)))) (by kernel_rfl) (HSX.out _ (HI.out.a.next hd)) (fun hHeld => ?_)
      refine wpAnyH_take (i := 0) (oi := ⟨some 162, _, _, _, _, _⟩) (v := ?_) rfl (by kernel_rfl) (by kernel_rfl) (by kernel_rfl) (fun _ _ _ h => h) (Or.inl ⟨by rfl, ?_⟩) (by assumption) ?_
      rotate_left
      focus
        intro w hSw
        try dsimp only at hSw
        go_simp
        first
        | done
        | with_reducible rfl
      try simp only [Act.put, List.setIfInBounds_toArray, List.set_cons_zero, List.set_cons_succ]
      refine wpAnyH_take (i := 1) (oi := ⟨some 163, _, _, _, _, _⟩) (v := ?_) rfl (by kernel_rfl) (by kernel_rfl) (by kernel_rfl) (fun _ _ _ h => h) (Or.inl ⟨by rfl, ?_⟩) (by assumption) ?_
      rotate_left
      focus
        intro w hSw
        try dsimp only at hSw
        go_simp
        first
        | done
        | with_reducible rfl
      try simp only [Act.put, List.setIfInBounds_toArray, List.set_cons_zero, List.set_cons_succ]
      refine wpAnyH_take (i := 2) (oi := ⟨some 164, _, _, _, _, _⟩) (v := ?_) rfl (by kernel_rfl) (by kernel_rfl) (by kernel_rfl) (fun _ _ _ h => h) (Or.inl ⟨by rfl, ?_⟩) (by assumption) ?_
      rotate_left
      focus
        intro w hSw
        try dsimp only at hSw
        go_simp
        first
        | done
        | with_reducible rfl
      try simp only [Act.put, List.setIfInBounds_toArray, List.set_cons_zero, List.set_cons_succ]
      refine wpAnyH_take (i := 3) (oi := ⟨some 165, _, _, _, _, _⟩) (v := ?_) rfl (by kernel_rfl) (by kernel_rfl) (by kernel_rfl) (fun _ _ _ h => h) (Or.inl ⟨by rfl, ?_⟩) (by assumption) ?_
      rotate_left
      focus
        intro w hSw
        try dsimp only at hSw
        go_simp
        first
        | done
        | with_reducible rfl
      try simp only [Act.put, List.setIfInBounds_toArray, List.set_cons_zero, List.set_cons_succ]
      refine wpAnyH_take (i := 4) (oi := ⟨some 166, _, _, _, _, _⟩) (v := ?_) rfl (by kernel_rfl) (by kernel_rfl) (by kernel_rfl) (fun _ _ _ h => h) (Or.inl ⟨by rfl, ?_⟩) (by assumption) ?_
      rotate_left
      focus
        intro w hSw
        try dsimp only at hSw
        go_simp
        first
        | done
        | with_reducible rfl
      try simp only [Act.put, List.setIfInBounds_toArray, List.set_cons_zero, List.set_cons_succ]
      refine wpAnyH_take (i := 5) (oi := ⟨some 167, _, _, _, _, _⟩) (v := ?_) rfl (by kernel_rfl) (by kernel_rfl) (by kernel_rfl) (fun _ _ _ h => h) (Or.inl ⟨by rfl, ?_⟩) (by assumption) ?_
      rotate_left
      focus
        intro w hSw
        try dsimp only at hSw
        go_simp
        first
        | done
        | with_reducible rfl
      try simp only [Act.put, List.setIfInBounds_toArray, List.set_cons_zero, List.set_cons_succ]
      refine wpAnyH_take (i := 6) (oi := ⟨some 168, _, _, _, _, _⟩) (v := ?_) rfl (by kernel_rfl) (by kernel_rfl) (by kernel_rfl) (fun _ _ _ h => h) (Or.inl ⟨by rfl, ?_⟩) (by assumption) ?_
      rotate_left
      focus
        intro w hSw
        try dsimp only at hSw
        go_simp
        first
        | done
        | with_reducible rfl
      try simp only [Act.put, List.setIfInBounds_toArray, List.set_cons_zero, List.set_cons_succ]
      refine wpAnyH_take (i := 7) (oi := ⟨some 169, _, _, _, _, _⟩) (v := ?_) rfl (by kernel_rfl) (by kernel_rfl) (by kernel_rfl) (fun _ _ _ h => h) (Or.inl ⟨by rfl, ?_⟩) (by assumption) ?_
      rotate_left
      focus
        intro w hSw
        try dsimp only at hSw
        go_simp
        first
        | done
        | with_reducible rfl
      try simp only [Act.put, List.setIfInBounds_toArray, List.set_cons_zero, List.set_cons_succ]
      refine wpAnyH_ready (rs := [8]) (by kernel_rfl) (by simp) ?_
      refine AllReadyH.cons (o := ⟨some 170, _, _, _, _, _⟩) rfl (fun K hK => ?_) AllReadyH.nil
      go_simp
      refine D.out.mono ?_
      rintro e wd ⟨rv, S', rfl, Rd, BBd, Fd⟩
      refine hK.out _ _ (HSX.out _ ((HI.out.a.next hd).fr Fd HI.out.lo HI.out.hg HI.out.hx hW2)) (fun hHeld => ?_)
      clear hK K
      try simp only [Act.put, List.setIfInBounds_toArray, List.set_cons_zero, List.set_cons_succ]
      refine wpAnyH_take (i := 9) (oi := ⟨some 161, _, _, _, _, _⟩) (v := ?_) rfl (by kernel_rfl) (by kernel_rfl) (by kernel_rfl) (fun _ _ _ h => h) (Or.inl ⟨by rfl, ?_⟩) (by assumption) ?_
      rotate_left
      focus
        intro w hSw
        try dsimp only at hSw
        go_simp
        first
        | done
        | with_reducible rfl
      try simp only [Act.put, List.setIfInBounds_toArray, List.set_cons_zero, List.set_cons_succ]
      refine wpAnyH_take (i := 10) (oi := ⟨some 171, _, _, _, _, _⟩) (v := ?_) rfl (by kernel_rfl) (by kernel_rfl) (by kernel_rfl) (fun _ _ _ h => h) (Or.inl ⟨by rfl, ?_⟩) (by assumption) ?_
      rotate_left
      focus
        intro w hSw
        try dsimp only at hSw
        go_simp
        first
        | done
        | with_reducible rfl
      try simp only [Act.put, List.setIfInBounds_toArray, List.set_cons_zero, List.set_cons_succ]
      refine wpAnyH_take (i := 11) (oi := ⟨some 172, _, _, _, _, _⟩) (v := ?_) rfl (by kernel_rfl) (by kernel_rfl) (by kernel_rfl) (fun _ _ _ h => h) (Or.inl ⟨by rfl, ?_⟩) (by assumption) ?_
      rotate_left
      focus
        intro w hSw
        try dsimp only at hSw
        go_simp
        first
        | done
        | with_reducible rfl
      try simp only [Act.put, List.setIfInBounds_toArray, List.set_cons_zero, List.set_cons_succ]
      refine wpAnyH_take (i := 12) (oi := ⟨some 15, _, _, _, _, _⟩) (v := ?_) rfl (by kernel_rfl) (by kernel_rfl) (by kernel_rfl) (fun _ _ _ h => h) (Or.inl ⟨by rfl, ?_⟩) (by assumption) ?_
      rotate_left
      focus
        intro w hSw
        try dsimp only at hSw
        go_simp
        first
        | done
        | with_reducible rfl
      try simp only [Act.put, List.setIfInBounds_toArray, List.set_cons_zero, List.set_cons_succ]
      refine wpAnyH_take (i := 13) (oi := ⟨some 16, _, _, _, _, _⟩) (v := ?_) rfl (by kernel_rfl) (by kernel_rfl) (by kernel_rfl) (fun _ _ _ h => h) (Or.inl ⟨by rfl, ?_⟩) (by assumption) ?_
      rotate_left
      focus
        intro w hSw
        try dsimp only at hSw
        go_simp
        first
        | done
        | with_reducible rfl
      try simp only [Act.put, List.setIfInBounds_toArray, List.set_cons_zero, List.set_cons_succ]
      refine wpAnyH_done (by kernel_rfl) ?_ _
      have HAd := hid ((HI.out.a.next hd).fr Fd HI.out.lo HI.out.hg HI.out.hx hW2)
      have HRd := hid Rd
      have HBd := hid BBd
      have HOd := hid (own_fr2 (own_next HI.out.own hd) Fd (fun r e => (HI.out.off r e).1))
      have hq64 := pkW_le last st sp de n n l k
      have hqB := hid (show ∀ p ∈ Pl.pkW last st sp de n n l k, ∃ j, l[j]? = some p ∧ j < k from fun p hp => Pl.pkL_mem (List.mem_filter.1 hp).1)
      obtain ⟨Ar, cr, hrv, _⟩ := BBd.row
      rw [List.length_map] at hrv
      obtain ⟨Aw, cw, hw⟩ : ∃ A c, u9 = .slice A (Pl.pkW last st sp de n n l k).length c := by
        rcases HOd.out.2 with ⟨h1, h2⟩ | ⟨g', cap, cur, h1, _⟩
        · exact ⟨none, 0, by rw [h2]; exact h1⟩
        · exact ⟨_, _, h1⟩
      generalize hwl : Pl.pkW last st sp de n n l k = wl at *
      generalize hql : wl.length = q at *
      have HQL := hid hql
      subst hrv
      subst hw
      clear Rd BBd Fd D HSX hHeld hnn1 hwl hql
      obtain ⟨v5, L5, M5⟩ := HRd.out
      obtain ⟨A5, c5, hv5⟩ := M5.shape
      subst hv5
      have HE := hid (show TbE wd W gr n A5 c5 wd from ⟨HAd.out.conf.2.2.2, M5.bk.cell 4, M5.bk.cell 7, HAd.out.cf.lt, M5.bk.lt, Below.refl _ _⟩)
      clear M5
      go_wp2_with fail
      refine region_class (fun w' => TbE wd W gr n A5 c5 w') (by kernel_rfl) (by kernel_rfl) (HE.out.next (Below.refl _ _).drew) ?_
      repeat
        first
        | (refine BigFrame.wpQuiet_skip (by rfl) ?_
           simp only [Act.put, List.setIfInBounds_toArray, List.set_cons_zero, List.set_cons_succ])
        | (refine class_want (by rfl) ?_
           apply Exists.intro
           refine ⟨fun w1 h1 => ?_, ?_⟩
           focus
             obtain ⟨p0, p1, p2, _⟩ := id h1
             unfold Oper.quietAt Oper.quietUpon
             go_simp
             first
             | exact rfl
             | (with_reducible refine (known_at gr n _ p1).mono ?_
                rintro e w2 ⟨rfl, rfl⟩
                exact ⟨rfl, h1⟩)
             | (with_reducible refine (held_at gr A5 0 c5 _ p2).mono ?_
                rintro e w2 ⟨rfl, rfl⟩
                exact ⟨rfl, h1⟩)
           simp only [Act.put, List.setIfInBounds_toArray, List.set_cons_zero, List.set_cons_succ])
      refine wpQuiet_nil ?_
      intro w3 h3
      have HA3 := hid (HAd.out.next h3.2.2.2.2.2)
      have HB3 := hid (HBd.out.next h3.2.2.2.2.2)
      have HO3 := hid (own_next HOd.out h3.2.2.2.2.2)
      clear h3
      have hz0 : ((0 : Nat) : Int) = 0 := rfl
      simp only [hz0]
      clear hz0
      go_wp2_with fail
      go_loopw [196] (fun nv wx => ∃ c : Nat, c ≤ q ∧ nv = .int .i64 (c : Int) ∧ TbA W g K st sp de n wx ∧ IsBB wx S' (.slice Ar q cr) (wl.map Pk.b) ∧ wx.ownsRow W.heap.size 41 1 (.slice Aw q cw) q (wl.map pslv)) (fun nv _ => q - (intOf nv).toNat)
      case atStart => exact ⟨0, Nat.zero_le _, rfl, HA3.out, HB3.out, HO3.out⟩
      case round =>
        clear HA3 HB3 HO3
        obtain ⟨c, hc, rfl, ax, bx, ox⟩ := hrel
        have HAx := hid ax
        have HBx := hid bx
        have HOx := hid ox
        by_cases hlc : c < q
        · obtain ⟨p, hp⟩ : ∃ x, wl[c]? = some x := ⟨wl[c]'(by have := HQL.out; omega), List.getElem?_eq_getElem _⟩
          obtain ⟨j, hj, _⟩ := hqB.out p (List.mem_of_getElem? hp)
          rcases HP.out.1 with h0 | ⟨pb', po', hA1, hpb', hpc'⟩
          · rw [h0] at hj; simp at hj
          obtain ⟨_, hpS, hpW, _⟩ := hpc' j p hj
          have hpb := HokB.out j p hj
          obtain ⟨A3, c3, e3, r3⟩ := bx.row
          rcases r3 with r3 | ⟨b3, o3, rfl, _, hb3, r3⟩
          · rw [List.length_map] at r3; have := HQL.out; omega
          obtain rfl : Ar = some ⟨b3, o3, none⟩ := by cases e3; rfl
          obtain ⟨A4, c4, q4, s4, _⟩ := r3 c p.b (by rw [List.getElem?_map, hp]; rfl)
          rcases ox.2 with ⟨h1, h2⟩ | ⟨b5, cap5, cur5, h1, _, hh5, _, _, _, ht5⟩
          · omega
          obtain ⟨rfl, rfl⟩ : Aw = some ⟨b5, 0, none⟩ ∧ cw = cap5 := by cases h1; exact ⟨rfl, rfl⟩
          have q5 : wr.cell? ⟨b5, c, none⟩ = some (.slice p.A p.b.length p.c) := by
            have e : (wl.map pslv)[c]? = some (pslv p) := by rw [List.getElem?_map, hp]; rfl
            rw [Bk.cell (t := 41) hh5]
            rw [← ht5, List.getElem?_take_of_lt (by omega)] at e
            simpa [pslv] using e
          have hb5 := Bk.lt (t := 41) hh5
          generalize hm : p.b.length = m at *
          have K1 := hid (show AlS wr b3 (o3 + c) b5 c A4 p.A c4 p.c p.b m wr from ⟨⟨q4, hb3⟩, ⟨q5, hb5⟩, s4, hpS.next ax.below, Below.refl _ _⟩)
          have HM := hid hm
          have HW := hid hpW
          clear q4 q5 s4 hpS hpW r3 e3 ht5 hh5 h1 hm hp hj ax bx ox hA1
          obtain ⟨_, _, _, pA, pc, xs, _, _⟩ := p
          simp only at K1 HM HW
          go_wp2_with fail
          have hk1 : ((c : Int) < (q : Int)) = True := eq_true (by omega)
          refine region_class (fun w' => AlS wr b3 (o3 + c) b5 c A4 pA c4 pc xs m w') (by kernel_rfl) (by kernel_rfl) (K1.out.next (Below.refl _ _).drew) ?_
          repeat
            first
            | (refine BigFrame.wpQuiet_skip (by rfl) ?_
               simp only [Act.put, List.setIfInBounds_toArray, List.set_cons_zero, List.set_cons_succ])
            | (refine class_want (by rfl) ?_
               apply Exists.intro
               refine ⟨fun w1 h1 => ?_, ?_⟩
               focus
                 obtain ⟨⟨e0, e1⟩, ⟨e2, e3⟩, e4, e5, e6⟩ := id h1
                 have k1 := conv_str w1 A4 c4 xs m e4 HW.out HM.out
                 have k2 := conv_str w1 pA pc xs m e5 HW.out HM.out
                 clear e6 e4 e5
                 unfold Oper.quietAt Oper.quietUpon
                 go_simp
                 first
                 | exact rfl
               simp only [Act.put, List.setIfInBounds_toArray, List.set_cons_zero, List.set_cons_succ])
          refine wpQuiet_nil ?_
          intro w3 h3
          have H3 := hid h3.2.2.2.2
          clear h3 hk1
          go_wp2
          go_roundw
          case rel => exact ⟨c + 1, by omega, by simp, HAx.out.next H3.out, HBx.out.next H3.out, own_next HOx.out H3.out⟩
          case measure => simp [intOf]; omega
        · clear ax bx ox
          go_wp2
          go_ret
          exact ⟨rfl, HAx.out.below⟩
set_option maxHeartbeats 1000000 in
set_option maxRecDepth 100000 in
theorem topBroadcast_no (seed st sp de co : Int) (A : Option Addr) (d nl : Nat) (W : World) (h : ¬ Pl.cfOk st sp de co ∨ 64 < nl) (hn : nl ≤ 9223372036854775807) :
    Calls Tryd.prog 11 #[.int .u64 seed, .agg #[.int .i64 st, .int .i64 sp, .int .i64 de, .int .i64 co], .slice A nl d] W fun e w' => e = .returned (.bool true) ∧ Below W.heap.size W w' := by
  have CK : Hid (∀ w, Calls Tryd.prog 12 #[.agg #[.int .i64 st, .int .i64 sp, .int .i64 de, .int .i64 co]] w fun e w' => e = .returned (.int .i64 (Pl.cfErr st sp de co)) ∧ Below w.heap.size w w') := hid (fun w => chk_any st sp de co w)
  have C1 : Hid (∀ w, Calls Tryd.prog 12 #[.agg #[.int .i64 0, .int .i64 1, .int .i64 1, .int .i64 1]] w fun e w' => e = .returned (.int .i64 0) ∧ Below w.heap.size w w') := hid (fun w => by
    have := chk_any 0 1 1 1 w
    rw [Pl.cfErr_yes (by decide)] at this
    exact this)
  have BB := (Below.refl W.heap.size W).alloc (Nat.le_refl _) (.cells (cfCells st sp de co) 23)
  have KB := Bk.new W 23 (cfCells st sp de co)
  unfold cfCells at BB KB
  by_cases hc : Pl.cfOk st sp de co
  · have hlt : 64 < nl := h.resolve_left (fun h2 => h2 hc)
    rw [Pl.cfErr_yes hc] at CK
    have HB := hid BB
    have c0 := KB.cell 0
    have c1 := KB.cell 1
    have c2 := KB.cell 2
    have c3 := KB.cell 3
    simp only [List.getElem?_toArray, List.getElem?_cons_zero, List.getElem?_cons_succ] at c0 c1 c2 c3
    clear h hc BB KB
    go_enter Tryd.func11, Tryd.ntmps11
    go_wp2_with fail
    generalize W.alloc (.cells #[.int .i64 st, .int .i64 sp, .int .i64 de, .int .i64 co] 23) = w0 at *
    refine (CK.out _).mono ?_
    rintro e w1 ⟨rfl, hb1⟩
    have HB1 := hid (bstep HB.out hb1)
    clear c0 c1 c2 c3 hb1 CK HB
    go_wp2_with fail
    refine (C1.out _).mono ?_
    rintro e w2 ⟨rfl, hb2⟩
    have HB2 := hid (bstep HB1.out hb2)
    clear hb2
    go_wp2
    go_ret
    exact ⟨rfl, HB2.out⟩
  · rw [Pl.cfErr_no hc] at CK
    have HB := hid BB
    have c0 := KB.cell 0
    have c1 := KB.cell 1
    have c2 := KB.cell 2
    have c3 := KB.cell 3
    simp only [List.getElem?_toArray, List.getElem?_cons_zero, List.getElem?_cons_succ] at c0 c1 c2 c3
    clear h hc BB KB
    go_enter Tryd.func11, Tryd.ntmps11
    go_wp2_with fail
    generalize W.alloc (.cells #[.int .i64 st, .int .i64 sp, .int .i64 de, .int .i64 co] 23) = w0 at *
    refine (CK.out _).mono ?_
    rintro e w1 ⟨rfl, hb1⟩
    have HB1 := hid (bstep HB.out hb1)
    clear c0 c1 c2 c3 hb1 CK HB
    go_wp2_with fail
    refine (C1.out _).mono ?_
    rintro e w2 ⟨rfl, hb2⟩
    have HB2 := hid (bstep HB1.out hb2)
    clear hb2
    go_wp2
    go_ret
    exact ⟨rfl, HB2.out⟩
theorem topBroadcast_walk (seed st sp de co : Int) (A : Option Addr) (d : Nat) (l : List Pk) (W : World) (hR : Rnd W) (hP : IsPk W A l) (hn : l.length ≤ 9223372036854775807) :
    Calls Tryd.prog 11 #[.int .u64 seed, .agg #[.int .i64 st, .int .i64 sp, .int .i64 de, .int .i64 co], .slice A l.length d] W fun e w' => e = .returned (.bool true) ∧ Below W.heap.size W w' := by
  by_cases h : Pl.cfOk st sp de co ∧ l.length ≤ 64
  · obtain ⟨n, rfl⟩ : ∃ n : Nat, co = (n : Int) := ⟨co.toNat, by have := h.1.2.2.2.1; omega⟩
    exact topBroadcast_yes seed st sp de n A d l.length l W hR rfl h.2 hP h.1
  · refine topBroadcast_no seed st sp de co A d l.length W ?_ hn
    by_cases hc : Pl.cfOk st sp de co
    · exact .inr (Nat.lt_of_not_le fun h2 => h ⟨hc, h2⟩)
    · exact .inl hc
end Go.Proofs.YtmegiodajkeahaaDoor
