/- The contract of release. -/
import Derived.Test.YtmegiodajkeahaaDoorChL2
import Derived.Maps.AppendAt
import Derived.Test.YtmegiodajkeahaaDoorOpen
namespace Go.Proofs.YtmegiodajkeahaaDoor
open Go Go.RowKit
def RelP (W : World) (S : Nat → Prop) (g : Nat) (st sp de co : Int) (s : Pl.Rst) (i : Int) (key : Int × Int) (e : Ending) (w' : World) : Prop :=
  ∃ rv S', e = .returned rv ∧ RcvS w' S' g st sp de co ⟨s.kn, s.key, s.ms.filter (Pl.stayF i)⟩ ∧ IsBB w' (fun k => S' k ∧ k ≠ g) rv (Pl.dOut i key s.ms) ∧ Fr S S' W w'
theorem wpList_clear_none {w : World} {ops : Array Oper} {rest : List Oper} {o : Oper} {a : Act} {Q : Exit → Act → World → Prop} (hgd : o.guard = none) (x : Operand)
    (ho : o.op = .call { callee := .builtin .clear, args := #[x], argTypes := #[74] }) (n c : Nat) (hx : a.eval x = .slice none n c) (hk : wpList Tryd.prog ops Q rest (a.put o.dst (.tuple #[])) w) : wpList Tryd.prog ops Q (o :: rest) a w := by
  refine wpList_plain hgd fun K hK => ?_
  have hrun : (Builtin.clear_ #[74] o.type #[.slice none n c]).run Tryd.prog w = .ok (.tuple #[]) w := by
    simp [Builtin.clear_, run_underlying Tryd.underlying74]
  unfold Oper.wp execOp
  simp only [ho, resolve, invoke, builtin, Sem.run_bind, Sem.run_pure, Result.andThen_ok, List.map_toArray, List.map_cons, List.map_nil, hx, hrun]
  exact hK _ _ hk
/-- What holds at the head of a round. -/
def RelI (W : World) (h cap : Nat) (i : Int) (key : Int × Int) (L : List Lm) (k : Nat) (rv : Value) (wr : World) : Prop :=
  (∃ X Y, HB wr h cap X Y ∧ Hand i L X k) ∧ wr.ownsRow W.heap.size 41 1 rv (relL i key (L.take k)).length ((relL i key (L.take k)).map slv) ∧ Fr (· = h) (· = h) W wr
theorem own_fr {w w' : World} {B q : Nat} {e : TypeId} {z n : Nat} {v : Value} {xs : List Value} (h : w.ownsRow B e z v n xs) (F : Fr (· = q) (· = q) w w') (hq : q < B) : w'.ownsRow B e z v n xs := by
  obtain ⟨h1, h2⟩ := h
  refine ⟨h1, ?_⟩
  rcases h2 with h2 | ⟨g, cap, cur, hv, hB, hh, r⟩
  · exact .inl h2
  · exact .inr ⟨g, cap, cur, hv, hB, F.bk (t := e) hh (fun e => by omega), r⟩
theorem own_next {w w' : World} {B : Nat} {e : TypeId} {z n : Nat} {v : Value} {xs : List Value} (h : w.ownsRow B e z v n xs) (hb : Below w.heap.size w w') : w'.ownsRow B e z v n xs := by
  obtain ⟨h1, h2⟩ := h
  refine ⟨h1, ?_⟩
  rcases h2 with h2 | ⟨g, cap, cur, hv, hB, hh, r⟩
  · exact .inl h2
  · exact .inr ⟨g, cap, cur, hv, hB, Bk.next (t := e) hh hb, r⟩
theorem HB.next {w w' : World} {h cap : Nat} {X : List Lm} {Y : List Value} (H : HB w h cap X Y) (hb : Below w.heap.size w w') : HB w' h cap X Y := ⟨H.1.next hb, H.2⟩
theorem RelI.keep {W wr w' : World} {q cap : Nat} {i : Int} {key : Int × Int} {L X : List Lm} {Y : List Value} {k : Nat} {x : Lm} {rv : Value} (hx : L[k]? = some x) (hgt : i < x.1.i) (HX : HB w' q cap (X.set (stayL i (L.take k)).length x) Y) (Hd : Hand i L X k)
    (O : wr.ownsRow W.heap.size 41 1 rv (relL i key (L.take k)).length ((relL i key (L.take k)).map slv)) (F : Fr (· = q) (· = q) W wr) (F' : Fr (· = q) (· = q) wr w') (hq : q < W.heap.size) : RelI W q cap i key L (k + 1) rv w' := by
  obtain ⟨h1, h2⟩ := Hd.keep hx (by simpa [Pl.stayF] using hgt)
  refine ⟨⟨_, _, HX, h1⟩, ?_, F.trans F'⟩
  rw [relL_skip hx (by unfold Pl.relF; rw [decide_eq_false (by omega)]; rfl)]
  exact own_fr O F' hq
theorem stay_keep {i : Int} {L : List Lm} {k : Nat} {x : Lm} (hx : L[k]? = some x) (hgt : i < x.1.i) : (stayL i (L.take (k + 1))).length = (stayL i (L.take k)).length + 1 := by
  have h1 := filter_snoc (fun y : Lm => Pl.stayF i y.1) L k x hx
  have hp : Pl.stayF i x.1 = true := by simpa [Pl.stayF] using hgt
  simp only [hp, if_true] at h1
  unfold stayL
  rw [h1]
  simp
theorem stay_skip {i : Int} {L : List Lm} {k : Nat} {x : Lm} (hx : L[k]? = some x) (hgt : ¬ i < x.1.i) : (stayL i (L.take (k + 1))).length = (stayL i (L.take k)).length := by
  have h1 := filter_snoc (fun y : Lm => Pl.stayF i y.1) L k x hx
  have hp : Pl.stayF i x.1 = false := by simpa [Pl.stayF] using hgt
  simp only [hp] at h1
  unfold stayL
  rw [h1]
  simp
theorem RelI.skip {W w' : World} {q cap : Nat} {i : Int} {key : Int × Int} {L X : List Lm} {Y : List Value} {k : Nat} {x : Lm} {rv : Value} (hx : L[k]? = some x) (hgt : ¬ i < x.1.i) (HX : HB w' q cap X Y) (Hd : Hand i L X k) (hr : Pl.rightB i key x.1 = false)
    (O : w'.ownsRow W.heap.size 41 1 rv (relL i key (L.take k)).length ((relL i key (L.take k)).map slv)) (F : Fr (· = q) (· = q) W w') : RelI W q cap i key L (k + 1) rv w' := by
  obtain ⟨h1, h2⟩ := Hd.skip hx (by simpa [Pl.stayF] using hgt)
  refine ⟨⟨_, _, HX, h1⟩, ?_, F⟩
  rw [relL_skip hx (by unfold Pl.relF; rw [hr]; simp)]
  exact O
theorem RelI.take_ {W w' : World} {q cap : Nat} {i : Int} {key : Int × Int} {L X : List Lm} {Y : List Value} {k : Nat} {x : Lm} {rv : Value} (hx : L[k]? = some x) (hgt : ¬ i < x.1.i) (HX : HB w' q cap X Y) (Hd : Hand i L X k) (hr : Pl.rightB i key x.1 = true)
    (O : w'.ownsRow W.heap.size 41 1 rv ((relL i key (L.take k)).length + 1) ((relL i key (L.take k)).map slv ++ [slv x])) (F : Fr (· = q) (· = q) W w') : RelI W q cap i key L (k + 1) rv w' := by
  obtain ⟨h1, h2⟩ := Hd.skip hx (by simpa [Pl.stayF] using hgt)
  refine ⟨⟨_, _, HX, h1⟩, ?_, F⟩
  rw [relL_keep hx (by unfold Pl.relF; rw [hr, decide_eq_true (by omega)]; rfl)]
  rw [List.length_append, List.map_append]
  exact O
theorem relL_le (i : Int) (key : Int × Int) (L : List Lm) (k : Nat) : (relL i key (L.take k)).length ≤ k := by
  have h1 := List.length_filter_le (fun x : Lm => Pl.relF i key x.1) (L.take k)
  have h2 : (L.take k).length ≤ k := List.length_take_le _ _
  unfold relL
  omega
theorem info_sl : (Tryd.prog.info? 41).map (fun i => (i.zero, i.size, i.bytes)) = some (some (.slice none 0 0), 1, 24) := by kernel_rfl
theorem grown_fr {q : Nat} {W w w' : World} {r : Option Nat} (F : Fr (· = q) (· = q) W w) (hg : w.grownBy w' r) (hr : ∀ k, r = some k → W.heap.size ≤ k) : Fr (· = q) (· = q) W w' :=
  ⟨hg.os.trans F.os, hg.tape.trans F.tape, hg.output.trans F.output, Nat.le_trans F.size hg.size, fun k hk hq => (hg.block k (Nat.lt_of_lt_of_le hk F.size) (fun e => by have := hr k e.symm; omega)).trans (F.block k hk hq), fun _ _ h => h⟩
theorem HB.grown {w w' : World} {h cap : Nat} {X : List Lm} {Y : List Value} {r : Option Nat} (H : HB w h cap X Y) (hg : w.grownBy w' r) (hr : r ≠ some h) : HB w' h cap X Y := ⟨grown_bk hg H.1 hr, H.2⟩
/-- What the drawn region of release reads. -/
def RlS (w0 : World) (gb : Nat) (cb : Array Value) (g : Nat) (cr : Array Value) (gk j : Nat) (kk : Int × Int) (Am : Option Addr) (mb : List Int) (w : World) : Prop :=
  Bk w gb 82 cb ∧ Bk w g 76 cr ∧ (w.cell? ⟨gk, j * 2, none⟩ = some (.int .u64 kk.1) ∧ w.cell? ⟨gk, j * 2 + 1, none⟩ = some (.int .u64 kk.2) ∧ gk < w.heap.size) ∧ IsSl w Am .u8 mb ∧ Rnd w ∧ Below w0.heap.size w0 w
theorem RlS.next {w0 w w' : World} {gb : Nat} {cb : Array Value} {g : Nat} {cr : Array Value} {gk j : Nat} {kk : Int × Int} {Am : Option Addr} {mb : List Int} (h : RlS w0 gb cb g cr gk j kk Am mb w) (hb : Below w.heap.size w w') : RlS w0 gb cb g cr gk j kk Am mb w' :=
  ⟨h.1.next hb, h.2.1.next hb, ⟨(hb.cell (p := ⟨gk, j * 2, none⟩) h.2.2.1.2.2).trans h.2.2.1.1, (hb.cell (p := ⟨gk, j * 2 + 1, none⟩) h.2.2.1.2.2).trans h.2.2.1.2.1, Nat.lt_of_lt_of_le h.2.2.1.2.2 hb.size⟩, h.2.2.2.1.next hb, h.2.2.2.2.1.next hb, bstep h.2.2.2.2.2 hb⟩
theorem RlS.drew {w0 w : World} {gb : Nat} {cb : Array Value} {g : Nat} {cr : Array Value} {gk j : Nat} {kk : Int × Int} {Am : Option Addr} {mb : List Int} (h : RlS w0 gb cb g cr gk j kk Am mb w) : RlS w0 gb cb g cr gk j kk Am mb w.drew :=
  h.next (Below.refl _ _).drew
set_option maxHeartbeats 2000000 in
set_option maxRecDepth 100000 in
theorem release_some (S : Nat → Prop) (g q cap n : Nat) (st sp de co : Int) (s : Pl.Rst) (L : List Lm) (i : Int) (key : Int × Int) (gk ck N : Nat) (W : World) (M : RcvM W S g st sp de co s (.slice (some ⟨q, 0, none⟩) n cap) L) (hn : L.length = n)
    (hs : Pl.okR co s) (hco : co ≤ 64) (hi0 : s.kn < i) (hi1 : i ≤ co) (hN : s.kn + N = i) (hK : IsKs W (some ⟨gk, 0, none⟩) (Pl.keysL key N)) (hgk : ¬ S gk) (hR : Rnd W) (hS : ∀ k, S k → 2 ≤ k) :
    Calls Tryd.prog 45 #[pt g, .int .i64 i, .slice (some ⟨gk, 0, none⟩) (N + 1) ck] W (RelP W S g st sp de co s i key) := by
  obtain ⟨hnc, hcm, Y0, H0⟩ := HB.of_own (by have := M.own; rwa [hn] at this) hn
  have c7 : W.cell? ⟨g, 7, none⟩ = some (.slice (some ⟨q, 0, none⟩) n cap) := M.bk.cell 7
  have hn64 : n ≤ 64 := by have := hs.len; rw [← M.ms] at this; simpa [hn] using this
  have hcm' := hid hcm
  unfold maxLen at hcm
  have HM := hid M
  have HS := hid (And.intro hs (And.intro hgk (And.intro hS hn)))
  have HK := hid hK
  have HR := hid hR
  have hkn0 := hs.kn0
  have HN := hid hN
  have H0' := hid H0
  clear M hs hgk hS hK hn hN H0 hR
  go_enter Tryd.func45, Tryd.ntmps45
  go_wp2_with fail
  go_loopw [7, 8, 21] (fun rv sv iv wr => ∃ k : Nat, k ≤ n ∧ iv = .int .i64 (k : Int) ∧ sv = .slice (some ⟨q, 0, none⟩) (stayL i (L.take k)).length cap ∧ RelI W q cap i key L k rv wr) (fun _ _ iv _ => n - (intOf iv).toNat)
  case atStart => exact ⟨0, Nat.zero_le _, rfl, rfl, ⟨_, _, H0'.out, Hand.zero _ _⟩, World.ownsRow_nil _ _ _ _, Fr.refl _ _⟩
  case round =>
    obtain ⟨k, hk, rfl, rfl, hI⟩ := hrel
    clear c7 H0'
    have HI := hid hI
    by_cases hlt : k < n
    · obtain ⟨⟨X, Y, HX, HHd⟩, O, F⟩ := hI
      obtain ⟨x, hx⟩ : ∃ x, L[k]? = some x := ⟨L[k]'(by have := HS.out.2.2.2; omega), List.getElem?_eq_getElem _⟩
      obtain ⟨c0, c1, c2⟩ := HX.cells ((HHd.tail k (Nat.le_refl _)).trans hx)
      have Hx := hid hx
      have HX' := hid HX
      have HO := hid O
      have HF := hid F
      have HHd' := hid HHd
      clear HX HHd O F hx HI
      obtain ⟨⟨mi, mb, mt⟩, Am, cm⟩ := x
      simp only at c0 c1 c2
      have hqW : q < W.heap.size := HM.out.lt q (HM.out.inh q rfl).1
      have hHd := stayL_le i L k
      have hsk : (stayL i (L.take k)).length < X.length := by rw [HHd'.out.len, HS.out.2.2.2]; omega
      have hskc : (stayL i (L.take k)).length < cap := by omega
      have Hsk := hid (And.intro hsk hskc)
      have HqW := hid hqW
      clear hsk hskc hHd hqW
      by_cases hgt : i < mi
      · have hkeep := hid (stay_keep Hx.out hgt)
        have Hgt := hid hgt
        have BA := hid (((Below.refl wr.heap.size wr).alloc (Nat.le_refl _) (.cells #[.int .i64 mi, .slice Am mb.length cm, .int .u64 mt] 82)).alloc (by simp) (.cells #[.int .i64 mi, .slice Am mb.length cm, .int .u64 mt] 82))
        have hgx : Bk ((wr.alloc (.cells #[.int .i64 mi, .slice Am mb.length cm, .int .u64 mt] 82)).alloc (.cells #[.int .i64 mi, .slice Am mb.length cm, .int .u64 mt] 82)) (wr.heap.size + 1) 82 (mcell (⟨mi, mb, mt⟩, Am, cm)).toArray := by
          have := Bk.new (wr.alloc (.cells #[.int .i64 mi, .slice Am mb.length cm, .int .u64 mt] 82)) 82 #[.int .i64 mi, .slice Am mb.length cm, .int .u64 mt]
          simpa [mcell] using this
        have Hgx := hid hgx
        clear hgx
        go_wp2_with (refine wpList_app_room (o := ⟨some 32, _, _, _, _, _⟩) (by rfl) (.tmp 29) (.tmp 31) (by rfl) q cap (stayL i (L.take k)).length X Y (⟨mi, mb, mt⟩, Am, cm) (HX'.out.next BA.out) Hsk.out.1 Hsk.out.2 (by rfl) (wr.heap.size + 1) 1 (by rfl) Hgx.out ?_; intro w5 H5 F5; have HH5 := hid H5; have HF5 := hid F5; clear H5 F5)
        go_roundw
        case rel => exact ⟨k + 1, by omega, by simp, by rw [hkeep.out], RelI.keep Hx.out Hgt.out HH5.out HHd'.out HO.out HF.out ((Fr.of_below BA.out).trans HF5.out) HqW.out⟩
        case measure => simp [intOf]; omega
      · have hxm : ((⟨mi, mb, mt⟩ : Pl.Msg), Am, cm) ∈ L := List.mem_of_getElem? Hx.out
        have hmm : (⟨mi, mb, mt⟩ : Pl.Msg) ∈ s.ms := by rw [← HM.out.ms]; exact List.mem_map.2 ⟨_, hxm, rfl⟩
        obtain ⟨hm0, hm1, hmB⟩ := HS.out.1.each _ hmm
        obtain ⟨hby1, hby2⟩ := HM.out.byt _ hxm
        have Hskip := hid (stay_skip Hx.out hgt)
        have Hgt := hid hgt
        simp only at hm0 hm1 hmB hby1 hby2
        obtain ⟨j, hj⟩ : ∃ j : Nat, mi = s.kn + (j : Int) := ⟨(mi - s.kn).toNat, by omega⟩
        have hjN : j ≤ N := by have := HN.out; omega
        have HNj : Hid ((i - mi).toNat = N - j) := hid (by have := HN.out; omega)
        have Hright : Hid (Pl.rightB i key ⟨mi, mb, mt⟩ = (Pl.tagOf (Pl.d1 (Pl.dnN key (N - j)).1 (Pl.dnN key (N - j)).2 kMac) (Pl.d2 (Pl.dnN key (N - j)).1 (Pl.dnN key (N - j)).2 kMac) mb == mt)) := hid (by
          unfold Pl.rightB
          simp only
          rw [HNj.out]
          rfl)
        have HmB := hid hmB
        have Hby1 := hid (HF.out.heq hby1 (fun a ha => (hby2 a ha).2.2))
        have hkeys : gk < wr.heap.size ∧ wr.cell? ⟨gk, j * 2, none⟩ = some (.int .u64 (Pl.dnN key (N - j)).1) ∧ wr.cell? ⟨gk, j * 2 + 1, none⟩ = some (.int .u64 (Pl.dnN key (N - j)).2) := by
          have hK2 := HF.out.isk HK.out (fun a ha e => by cases ha; exact HS.out.2.1 (by have e2 : gk = q := e; rw [e2]; exact (HM.out.inh q rfl).1))
          rcases hK2.row with h0 | ⟨b, off, hA, hb, hc⟩
          · rw [Pl.keysL_len] at h0; omega
          · obtain ⟨rfl, rfl⟩ : b = gk ∧ off = 0 := by simpa using hA.symm
            have := hc j _ (Pl.keysL_get key N j hjN)
            simp only [Nat.zero_add] at this
            exact ⟨hb, this⟩
        have hRr : Rnd wr := HR.out.below (HF.out.below (B := q) (Nat.le_of_lt (Nat.lt_of_lt_of_le HqW.out (Nat.le_refl _))) (fun k e => by omega)) (HS.out.2.2.1 q (HM.out.inh q rfl).1)
        have hgr : Bk wr g 76 (rcv st sp de co s.kn s.key.1 s.key.2 (.slice (some ⟨q, 0, none⟩) n cap)) := HF.out.bk HM.out.bk (fun e => (HM.out.inh q rfl).2 e.symm)
        have BA := (Below.refl wr.heap.size wr).alloc (Nat.le_refl _) (.cells #[.int .i64 mi, .slice Am mb.length cm, .int .u64 mt] 82)
        have hkk := hid (show Pl.dnN key (N - j) = Pl.dnN key (N - j) from rfl)
        generalize Pl.dnN key (N - j) = kk at *
        have K1 : RlS wr wr.heap.size #[.int .i64 mi, .slice Am mb.length cm, .int .u64 mt] g (rcv st sp de co s.kn s.key.1 s.key.2 (.slice (some ⟨q, 0, none⟩) n cap)) gk j kk Am mb (wr.alloc (.cells #[.int .i64 mi, .slice Am mb.length cm, .int .u64 mt] 82)) :=
          ⟨Bk.new wr 82 _, hgr.next BA, ⟨(BA.cell (p := ⟨gk, j * 2, none⟩) hkeys.1).trans hkeys.2.1, (BA.cell (p := ⟨gk, j * 2 + 1, none⟩) hkeys.1).trans hkeys.2.2, Nat.lt_of_lt_of_le hkeys.1 BA.size⟩, Hby1.out.next BA, hRr.next BA, BA⟩
        have K1' := hid K1
        clear K1 BA hgr hRr hkeys hby1 hby2 hmB hmm hxm hkk
        have hw1 : IntKind.i64.wrap (mi - s.kn) = (j : Int) := by rw [IntWalk.i64_in _ (by omega)]; omega
        have CT := hid (fun w h => tagKey_any kk.1 kk.2 w h)
        have CC := hid (fun w hR hS => check_any (Pl.d1 kk.1 kk.2 kMac) (Pl.d2 kk.1 kk.2 kMac) Am cm mb mt w hR hS HmB.out.1 (by have := HmB.out.2; omega))
        have Hj := hid hj
        clear hj hm0 hm1
        go_wp2_with fail
        have hjN1 : ((j : Int) < (N : Int) + 1) = True := eq_true (by omega)
        refine region_class (fun w' => RlS wr wr.heap.size #[.int .i64 mi, .slice Am mb.length cm, .int .u64 mt] g (rcv st sp de co s.kn s.key.1 s.key.2 (.slice (some ⟨q, 0, none⟩) n cap)) gk j kk Am mb w') (by kernel_rfl) (by kernel_rfl) (RlS.drew K1'.out) ?_
        repeat
          first
          | (refine BigFrame.wpQuiet_skip (by rfl) ?_
             simp only [Act.put, List.setIfInBounds_toArray, List.set_cons_zero, List.set_cons_succ])
          | (refine class_want (by rfl) ?_
             apply Exists.intro
             refine ⟨fun w1 h1 => ?_, ?_⟩
             focus
               obtain ⟨hb1, hb2, ⟨e0, e1, e2⟩, hb4, hb5, hb6⟩ := id h1
               have d0 := hb1.cell 0
               have d1 := hb1.cell 1
               have d2 := hb1.cell 2
               have d4 := hb2.cell 4
               simp only [rcv, List.getElem?_toArray, List.getElem?_cons_zero, List.getElem?_cons_succ] at d0 d1 d2 d4
               clear hb1 hb2 hb6
               unfold Oper.quietAt Oper.quietUpon
               go_simp
               first
               | exact rfl
               | (with_reducible refine (CT.out _ hb5).mono ?_
                  rintro e w2 ⟨rfl, hb⟩
                  exact ⟨rfl, RlS.next h1 hb⟩)
               | (with_reducible refine (CC.out _ hb5 hb4).mono ?_
                  rintro e w2 ⟨rfl, hb⟩
                  exact ⟨rfl, RlS.next h1 hb⟩)
             simp only [Act.put, List.setIfInBounds_toArray, List.set_cons_zero, List.set_cons_succ])
        refine wpQuiet_nil ?_
        intro w3 h3
        obtain ⟨hb1, hb2, _, hb4, _, hb6⟩ := h3
        have d1 := hb1.cell 1
        simp only [List.getElem?_toArray, List.getElem?_cons_zero, List.getElem?_cons_succ] at d1
        have O3 := hid (own_next HO.out hb6)
        have H3 := hid (HB.next HX'.out hb6)
        have F3 := hid (HF.out.trans (Fr.of_below hb6))
        have B3 := hid hb6
        clear hb1 hb2 hb4 hb6 hw1 hjN1 CT CC K1'
        generalize hbt : (Pl.tagOf (Pl.d1 kk.1 kk.2 kMac) (Pl.d2 kk.1 kk.2 kMac) mb == mt) = bt at *
        clear hbt
        cases bt
        · go_wp2
          go_roundw
          case rel => exact ⟨k + 1, by omega, by simp, by rw [Hskip.out], RelI.skip Hx.out (by simpa using Hgt.out) H3.out HHd'.out Hright.out O3.out F3.out⟩
          case measure => simp [intOf]; omega
        · obtain ⟨i1, hi1', hz⟩ := Option.map_eq_some_iff.1 info_sl
          simp only [Prod.mk.injEq] at hz
          have HI := hid hi1'
          have HZ := hid hz
          clear hi1' hz
          have hrl := relL_le i key L k
          have HSRC : Hid (∀ (jj : Nat) (u : Value), ([.slice Am mb.length cm] : List Value)[jj]? = some u → (w3.alloc (.cells #[.slice Am mb.length cm] 41)).cell? ((⟨w3.heap.size, 0, none⟩ : Addr).add jj) = some u) := hid (by
            intro jj u hj
            rw [add_none, Bk.cell (Bk.new w3 41 _)]
            simpa using hj)
          have HWs : Hid (W.heap.size ≤ w3.heap.size) := hid F3.out.size
          have hOl := hid (fun r (e : u7.ownBlock = some r) => World.ownsRow.lt O3.out r e)
          go_wp2_with (at_builtin; refine wpList_append_own_at _ (by rfl) (.tmp 49) (.tmp 52) 50 (by rfl) W.heap.size 41 i1 (.slice none 0 0) 1 24 Tryd.underlying50 HI.out HZ.out.1 HZ.out.2.1 HZ.out.2.2 (by rfl) (by decide) u7 (relL i key (L.take k)).length ((relL i key (L.take k)).map slv) (by rfl) (O3.out.alloc _) ⟨w3.heap.size, 0, none⟩ 1 1 [.slice Am mb.length cm] (by rfl) (by rfl) HSRC.out (by simp [Value.oneCell']) (by simp only [maxLen]; omega) (by omega) (by have := HWs.out; simp; omega) ?_; intro v' w5 O5 hg5 hn5 hat5; have HG5 := hid (And.intro O5 hg5); clear O5 hg5 hn5 hat5)
          go_roundw
          case rel =>
            obtain ⟨O5, hg5⟩ := HG5.out
            have hne : u7.ownBlock ≠ some q := fun e => by have := hOl.out q e; have := HqW.out; omega
            have FA := F3.out.trans (Fr.of_below ((Below.refl w3.heap.size w3).alloc (Nat.le_refl _) (.cells #[.slice Am mb.length cm] 41)))
            exact ⟨k + 1, by omega, by simp, by rw [Hskip.out], RelI.take_ Hx.out (by simpa using Hgt.out) ((HB.next H3.out ((Below.refl w3.heap.size w3).alloc (Nat.le_refl _) _)).grown hg5 hne) HHd'.out Hright.out O5 (grown_fr FA hg5 (fun r e => (hOl.out r e).1))⟩
          case measure => simp [intOf]; omega
    · obtain rfl : k = n := by omega
      obtain ⟨⟨X, Y, HX, HHd⟩, O, F⟩ := hI
      have htk : L.take k = L := List.take_of_length_le (by have := HS.out.2.2.2; omega)
      rw [htk] at O
      have hhead := HHd.head
      have hsk0 := stayL_le i L k
      rw [htk] at hhead hsk0
      rw [htk]
      have hXl := HHd.len
      have HXl := hid (show (stayL i L).length ≤ X.length by rw [hXl, HS.out.2.2.2]; exact hsk0)
      generalize hskv : (stayL i L).length = sk at *
      have hgr : Bk wr g 76 (rcv st sp de co s.kn s.key.1 s.key.2 (.slice (some ⟨q, 0, none⟩) k cap)) := F.bk HM.out.bk (fun e => (HM.out.inh q rfl).2 e.symm)
      have d7 : wr.cell? ⟨g, 7, none⟩ = some (.slice (some ⟨q, 0, none⟩) k cap) := hgr.cell 7
      have HH := hid (And.intro HX (And.intro hhead (And.intro O F)))
      have Hgr := hid hgr
      clear HX HHd O F htk hhead hXl hskv hgr HI
      by_cases hkc : sk = cap
      · subst hkc
        obtain rfl : k = sk := by omega
        go_wp2_with (refine wpList_clear (o := ⟨none, _, _, _, _, _⟩) (by rfl) (.tmp 61) (by rfl) q k k 0 0 (some ⟨q, 0, none⟩) X Y HH.out.1 HXl.out (by omega) (by rfl) (fun h0 => absurd h0 (Nat.lt_irrefl 0)) ?_; intro w5 Y5 H5 F5; have G5 := hid (F5.bk Hgr.out (fun e => (HM.out.inh q rfl).2 e.symm)); have e7 := G5.out.cell 7; have f7 := G5.out.free 7; have HH5 := hid (And.intro H5 F5); clear H5 F5 d7; simp only [rcv, List.getElem?_toArray, List.getElem?_cons_zero, List.getElem?_cons_succ] at e7)
        go_ret
        obtain ⟨HX, hhead, O, F⟩ := HH.out
        obtain ⟨H5, F5⟩ := HH5.out
        have hXs : (X.take k).length = k := by rw [List.length_take, Nat.min_eq_left HXl.out]
        obtain ⟨S', r1, r2, r3⟩ := rel_end (sk := k) HM.out (F.trans F5) H5 (by rw [List.take_of_length_le (by omega)]; exact hhead) (by omega) (by omega) hcm'.out (own_fr O F5 (HM.out.lt q (HM.out.inh q rfl).1))
        exact ⟨_, S', rfl, r1, r2, r3⟩
      · go_wp2_with (refine wpList_clear (o := ⟨none, _, _, _, _, _⟩) (by rfl) (.tmp 61) (by rfl) q cap sk (k - sk) (cap - sk) (some ⟨q, sk * 3, none⟩) X Y HH.out.1 HXl.out (by omega) (by rfl) (fun _ => rfl) ?_; intro w5 Y5 H5 F5; have G5 := hid (F5.bk Hgr.out (fun e => (HM.out.inh q rfl).2 e.symm)); have e7 := G5.out.cell 7; have f7 := G5.out.free 7; have HH5 := hid (And.intro H5 F5); clear H5 F5 d7; simp only [rcv, List.getElem?_toArray, List.getElem?_cons_zero, List.getElem?_cons_succ] at e7)
        go_ret
        obtain ⟨HX, hhead, O, F⟩ := HH.out
        obtain ⟨H5, F5⟩ := HH5.out
        have hXs : (X.take sk).length = sk := by rw [List.length_take, Nat.min_eq_left HXl.out]
        obtain ⟨S', r1, r2, r3⟩ := rel_end (sk := sk) HM.out (F.trans F5) H5 (by rw [List.take_of_length_le (by omega)]; exact hhead) (by omega) (by omega) hcm'.out (own_fr O F5 (HM.out.lt q (HM.out.inh q rfl).1))
        exact ⟨_, S', rfl, r1, r2, r3⟩
end Go.Proofs.YtmegiodajkeahaaDoor
