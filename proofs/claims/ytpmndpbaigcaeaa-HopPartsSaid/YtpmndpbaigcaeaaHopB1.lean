/- The contract of Busy of package hop. -/
import Derived.Test.YtpmndpbaigcaeaaHopV
import Derived.Deep.RegionLaw
namespace Go.Proofs.Ytpmndpbaigcaeaa
open Go Go.RowKit
/-- 'append(periods, Interval{lo, hi})' as one step of a region that draws. -/
theorem step_app_iv {ops : Array Oper} {o : Oper} {a : Act} {w : World} {K : Act → World → Prop} {Q : Exit → Act → World → Prop} {E : Prop} (hgd : o.guard = none) (s x : Operand)
    (ho : o.op = .call { callee := .builtin .append, args := #[s, x], argTypes := #[28, 28] })
    (B : Nat) (v : Value) (l : List (Int × Int)) (hs : a.eval s = v) (hown : OwnIv w B v l)
    (g c : Nat) (p : Int × Int) (hx : a.eval x = .slice (some ⟨g, 0, none⟩) 1 c) (K1 : Bk w g 33 #[.int .i64 p.1, .int .i64 p.2]) (hl : l.length ≤ 1000) (hB : B ≤ w.heap.size)
    (hK : ∀ v' w', OwnIv w' B v' (l ++ [p]) → Below B w w' → K (a.put o.dst v') w') : if Region.wanted o (yielded ops a.tmps) = true then Oper.wp Try.prog o a w K Q else E := by
  have hw : Region.wanted o (yielded ops a.tmps) = true := by simp [Region.wanted, hgd]
  rw [if_pos hw]
  obtain ⟨i, hi', hz⟩ := Option.map_eq_some_iff.1 info_iv
  simp only [Prod.mk.injEq] at hz
  obtain ⟨hz0, hz1, hz2⟩ := hz
  obtain ⟨v', w', hr, h2, h3, h4, h5⟩ := run_append_own_at (P := Try.prog) w B 28 o.type 33 i (.agg #[.int .i64 0, .int .i64 0]) 2 16 Try.underlying28 hi' hz0 hz1 hz2 rfl (by omega) v l.length _ hown ⟨g, 0, none⟩ 1 c (iv2 [p]) rfl (fun j u hj => by
    have e : (⟨g, 0, none⟩ : Addr).add j = ⟨g, j, none⟩ := by unfold Addr.add; split <;> simp_all
    rw [e, K1.cell]
    match j, hj with
    | 0, hj => exact hj
    | 1, hj => exact hj
    | j + 2, hj => simp [iv2] at hj) (fun u hu => by
    simp [iv2] at hu
    rcases hu with rfl | rfl <;> rfl) (by simp only [maxLen]; omega) (by omega) hB
  have hown2 : OwnIv w' B v' (l ++ [p]) := by unfold OwnIv; rw [iv2_app]; simpa using h2
  unfold Oper.wp execOp
  simp only [ho, resolve, invoke, builtin, Sem.run_bind, Sem.run_pure, Result.andThen_ok, List.map_toArray, List.map_cons, List.map_nil, hs, hx, hr]
  exact hK _ _ hown2 (hown.below h3 hB)
set_option maxHeartbeats 1000000 in
theorem busyCb_any (A : Option Addr) (a : List Int) (c : Nat) (gp ga k : Nat) (x d : Int) (v : Value) (l : List (Int × Int)) (w : World) (hk : k < a.length) (hx : a[k]? = some x) (hll : l.length ≤ 600)
    (hA : IsSl w A .i64 a) (SA : Bk w ga 22 #[.slice A a.length c]) (SP : Bk w gp 28 #[v]) (O : OwnIv w (gp + 1) v l) :
    Calls Try.prog 30 #[.int .i64 k, .int .i64 d, pt gp, pt ga] w fun e w' => ∃ v', e = .returned (.tuple #[]) ∧ Bk w' gp 28 #[v'] ∧ OwnIv w' (gp + 1) v' (Pl.bstep l x d) ∧ Below gp w w' := by
  have hgl := SP.lt
  have sa := SA.cell 0
  have sp := SP.cell 0
  have fp := SP.free 0
  simp only [List.getElem?_toArray, List.getElem?_cons_zero] at sa sp
  rcases hA.row with h0 | ⟨b, off, rfl, hb, hca⟩
  · omega
  have fa := hca k x hx
  generalize a.length = n at *
  clear hca hA hx SA
  unfold Pl.bstep
  cases hl : l.getLast? with
  | none =>
    obtain rfl : l = [] := List.getLast?_eq_none_iff.1 hl
    obtain ⟨A', c', rfl, hI, _⟩ := O.slice_
    simp only [List.length_nil] at sp O SP ⊢
    by_cases hd : x < d
    · rw [if_pos hd]
      go_enter Try.func30, Try.ntmps30
      go_wp2_with fail
      go_quiet (fail)
      have SP2 := SP.drewN nq
      have O2 := O.drewN nq
      have B2 := bdrewN (Below.refl gp w) nq
      have hgl2 := SP2.lt
      have fa2 : (w.drewN nq).cell? ⟨b, off + k, none⟩ = some (.int .i64 x) := fa
      have sp2 := SP2.cell 0
      have fp2 := SP2.free 0
      simp only [List.getElem?_toArray, List.getElem?_cons_zero] at sp2
      have sa2 : (w.drewN nq).cell? ⟨ga, 0, none⟩ = some (.slice (some ⟨b, off, none⟩) n c) := sa
      generalize w.drewN nq = w2 at *
      clear fa sp fp sa SP O
      go_wp2_with fail
      have K2 : Bk (w2.drew.alloc (.cells #[.int .i64 x, .int .i64 d] 33)) w2.heap.size 33 #[.int .i64 x, .int .i64 d] := Bk.new w2.drew 33 #[.int .i64 x, .int .i64 d]
      have O2a : OwnIv (w2.drew.alloc (.cells #[.int .i64 x, .int .i64 d] 33)) (gp + 1) (.slice A' 0 c') [] := O2.drew.alloc _
      have SPa : Bk (w2.drew.alloc (.cells #[.int .i64 x, .int .i64 d] 33)) gp 28 #[(.slice A' 0 c')] := SP2.drew.alloc _
      have Ba : Below gp w (w2.drew.alloc (.cells #[.int .i64 x, .int .i64 d] 33)) := B2.drew.alloc (by show gp ≤ w2.heap.size; omega) _
      have hL1000 : ([] : List (Int × Int)).length ≤ 1000 := by simp
      have hBs : gp + 1 ≤ (w2.drew.alloc (.cells #[.int .i64 x, .int .i64 d] 33)).heap.size := by
        have : (w2.drew.alloc (.cells #[.int .i64 x, .int .i64 d] 33)).heap.size = w2.heap.size + 1 := by show (w2.heap.push _).size = _; simp
        omega
      go_region_law (refine step_app_iv rfl (.tmp 37) (.tmp 44) rfl (gp + 1) (.slice A' 0 c') [] rfl O2a w2.heap.size 1 (x, d) rfl K2 hL1000 hBs ?_; intro v3 w3 O3 hb3; obtain ⟨A3, c3, rfl, _, _⟩ := O3.slice_; simp only [List.length_append, List.length_cons, List.length_nil] at O3; have SP3 : Bk w3 gp 28 #[(.slice A' 0 c')] := SPa.below hb3 (by omega); have sp3 : w3.cell? ⟨gp, 0, none⟩ = some ((.slice A' 0 c')) := SP3.cell 0; have fp3 : w3.frozen? ⟨gp, 0, none⟩ = false := SP3.free 0)
      all_goals
        go_wp2
        go_end0
        exact ⟨_, rfl, SP3.put 0 _, O3.far (p := ⟨gp, 0, none⟩) (by dsimp only; omega) _, (Ba.trans (hb3.mono (by omega))).setCell (by dsimp only; omega) _⟩
    · rw [if_neg hd]
      go_enter Try.func30, Try.ntmps30
      go_wp2_with fail
      go_quiet (fail)
      go_wp2
      go_end0
      exact ⟨_, rfl, SP.drewN nq, O.drewN nq, bdrewN (Below.refl _ _) nq⟩
  | some p =>
    have hsn := Pl.snoc_of hl
    generalize l.dropLast = l' at *
    subst hsn
    obtain ⟨g, cap, rfl, hg, hgs⟩ := O.at_ (by simp)
    have hI := O.slice_
    obtain ⟨A', c', hv, hI, _⟩ := hI
    cases hv
    rcases hI.row with h0 | ⟨b2, off2, hA2, hb2, hcc⟩
    · simp at h0
    cases hA2
    have hc2 := (hcc l'.length p (by simp)).2
    simp only [Nat.zero_add] at hc2
    simp only [List.length_append, List.length_cons, List.length_nil, Nat.zero_add] at *
    generalize hm : l'.length = m at *
    replace hm := hid hm
    clear hcc hI hl
    by_cases hin : x ≤ p.2
    · rw [if_pos hin]
      have hst := O.store d
      rw [hm.out] at hst
      obtain ⟨fz, O2⟩ := hst
      go_enter Try.func30, Try.ntmps30
      go_wp2_with fail
      go_quiet (fail)
      go_wp2
      go_end0
      exact ⟨_, rfl, (SP.drewN nq).far (by dsimp only; omega) _, O2, (bdrewN (Below.refl gp w) nq).setCell (by dsimp only; omega) _⟩
    · rw [if_neg hin]
      by_cases hd : x < d
      · rw [if_pos hd]
        go_enter Try.func30, Try.ntmps30
        go_wp2_with fail
        go_quiet (fail)
        have SP2 := SP.drewN nq
        have O2 := O.drewN nq
        have B2 := bdrewN (Below.refl gp w) nq
        have hgl2 := SP2.lt
        have fa2 : (w.drewN nq).cell? ⟨b, off + k, none⟩ = some (.int .i64 x) := fa
        have sp2 := SP2.cell 0
        have fp2 := SP2.free 0
        simp only [List.getElem?_toArray, List.getElem?_cons_zero] at sp2
        have sa2 : (w.drewN nq).cell? ⟨ga, 0, none⟩ = some (.slice (some ⟨b, off, none⟩) n c) := sa
        have hc2' : (w.drewN nq).cell? ⟨g, m * 2 + 1, none⟩ = some (.int .i64 p.2) := hc2
        generalize w.drewN nq = w2 at *
        have hc22 : w2.cell? ⟨g, m * 2 + 1, none⟩ = some (.int .i64 p.2) := hc2'
        clear fa sp fp sa SP O
        go_wp2_with fail
        have K2 : Bk (w2.drew.alloc (.cells #[.int .i64 x, .int .i64 d] 33)) w2.heap.size 33 #[.int .i64 x, .int .i64 d] := Bk.new w2.drew 33 #[.int .i64 x, .int .i64 d]
        have O2a : OwnIv (w2.drew.alloc (.cells #[.int .i64 x, .int .i64 d] 33)) (gp + 1) (.slice (some ⟨g, 0, none⟩) (m + 1) cap) (l' ++ [p]) := O2.drew.alloc _
        have SPa : Bk (w2.drew.alloc (.cells #[.int .i64 x, .int .i64 d] 33)) gp 28 #[(.slice (some ⟨g, 0, none⟩) (m + 1) cap)] := SP2.drew.alloc _
        have Ba : Below gp w (w2.drew.alloc (.cells #[.int .i64 x, .int .i64 d] 33)) := B2.drew.alloc (by show gp ≤ w2.heap.size; omega) _
        have hL1000 : (l' ++ [p]).length ≤ 1000 := by rw [List.length_append, hm.out]; simp only [List.length_cons, List.length_nil]; omega
        have hBs : gp + 1 ≤ (w2.drew.alloc (.cells #[.int .i64 x, .int .i64 d] 33)).heap.size := by
          have : (w2.drew.alloc (.cells #[.int .i64 x, .int .i64 d] 33)).heap.size = w2.heap.size + 1 := by show (w2.heap.push _).size = _; simp
          omega
        go_region_law (refine step_app_iv rfl (.tmp 37) (.tmp 44) rfl (gp + 1) (.slice (some ⟨g, 0, none⟩) (m + 1) cap) (l' ++ [p]) rfl O2a w2.heap.size 1 (x, d) rfl K2 hL1000 hBs ?_; intro v3 w3 O3 hb3; obtain ⟨A3, c3, rfl, _, _⟩ := O3.slice_; simp only [List.length_append, List.length_cons, List.length_nil] at O3; have SP3 : Bk w3 gp 28 #[(.slice (some ⟨g, 0, none⟩) (m + 1) cap)] := SPa.below hb3 (by omega); have sp3 : w3.cell? ⟨gp, 0, none⟩ = some ((.slice (some ⟨g, 0, none⟩) (m + 1) cap)) := SP3.cell 0; have fp3 : w3.frozen? ⟨gp, 0, none⟩ = false := SP3.free 0)
        all_goals
          go_wp2
          go_end0
          exact ⟨_, rfl, SP3.put 0 _, O3.far (p := ⟨gp, 0, none⟩) (by dsimp only; omega) _, (Ba.trans (hb3.mono (by omega))).setCell (by dsimp only; omega) _⟩
      · rw [if_neg hd]
        go_enter Try.func30, Try.ntmps30
        go_wp2_with fail
        go_quiet (fail)
        go_wp2
        go_end0
        exact ⟨_, rfl, SP.drewN nq, O.drewN nq, bdrewN (Below.refl _ _) nq⟩
theorem call30 (args : Array Value) (w : World) : (callFunc 30 args).run Try.prog w = .ok (.enter 30 args) w := by kernel_rfl
/-- What Busy returns. -/
def resB (a s : List Int) : List (Int × Int) := if Pl.errOf Pl.M a s = 0 then Pl.bs a s a.length else []
theorem bs_succ (a s : List Int) (k : Nat) : Pl.bs a s (k + 1) = Pl.bstep (Pl.bs a s k) (Pl.gd a k) (Pl.fr a s (k + 1)) := rfl
set_option maxHeartbeats 1000000 in
theorem busy_any (A B : Option Addr) (a s : List Int) (c d : Nat) (w : World) (hA : IsSl w A .i64 a) (hB : IsSl w B .i64 s) (hna : a.length ≤ 600) :
    Calls Try.prog 17 #[.slice A a.length c, .slice B s.length d] w fun e w' => ∃ v, e = .returned (.tuple #[v, .int .i64 (Pl.errOf Pl.M a s)]) ∧ Below w.heap.size w w' ∧ OwnIv w' w.heap.size v (resB a s) := by
  have X2 := Bk.new w 22 #[.slice A a.length c]
  have B0 := (Below.refl w.heap.size w).alloc (Nat.le_refl _) (.cells #[.slice A a.length c] 22)
  have hs0 : (w.alloc (.cells #[.slice A a.length c] 22)).heap.size = w.heap.size + 1 := by simp
  have CK := fun w hA hB => check_any A B a s c d Pl.M w hA hB hna
  have hmf : ∀ (fn : Fn) (first cap : Array Value) (w : World), (Instr.makeFunc fn first cap).run Try.prog w = .ok (.func fn first cap) w := fun _ _ _ _ => rfl
  generalize hE : Pl.errOf Pl.M a s = ev at *
  replace CK := hid CK
  replace hE := hid hE
  have x2 := X2.cell 0
  simp only [List.getElem?_toArray, List.getElem?_cons_zero] at x2
  go_enter Try.func17, Try.ntmps17
  go_wp2_with fail
  generalize w.alloc (.cells #[.slice A a.length c] 22) = w0 at *
  refine (CK.out _ (hA.next B0) (hB.next B0)).mono ?_
  rintro e w1 ⟨rfl, hb⟩
  clear CK x2
  by_cases he : ev = 0
  case neg =>
    go_wp2
    go_ret2
    refine ⟨.slice none 0 0, rfl, bup B0 hb (by omega), ?_⟩
    unfold resB
    rw [if_neg (by rw [hE.out]; exact he)]
    exact OwnIv.nil_ _ _
  subst he
  have Y2 := X2.next hb
  have hb2 := bup B0 hb (by omega)
  have hsz := hb.size
  rw [hs0] at hsz
  clear X2
  have Z2 := Y2.alloc (.cells #[.slice none 0 0] 28)
  have P1 := Bk.new w1 28 #[.slice none 0 0]
  have B1 := hb2.alloc hb2.size (.cells #[.slice none 0 0] 28)
  have y2 := Y2.cell 0
  have z2 := Z2.cell 0
  simp only [List.getElem?_toArray, List.getElem?_cons_zero] at y2 z2
  go_wp2_with fail
  clear y2 z2 Y2
  generalize w1.alloc (.cells #[.slice none 0 0] 28) = w2 at *
  generalize w1.heap.size = gp at *
  obtain ⟨hlen, h512, h3, h4⟩ := Pl.ok_of hE.out
  replace hlen := hid hlen
  refine (serve_any A B a s c d 30 #[pt gp, pt w.heap.size] Pl.M w2 (fun k wr => ∃ v, Bk wr gp 28 #[v] ∧ OwnIv wr (gp + 1) v (Pl.bs a s k) ∧ Bk wr w.heap.size 22 #[.slice A a.length c] ∧ Below w.heap.size w wr) call30 hE.out (by decide) ⟨_, P1, OwnIv.nil_ _ _, Z2, B1⟩ (fun k wr h => by obtain ⟨v, _, _, _, hB4⟩ := h; exact ⟨hA.next hB4, hB.next hB4⟩) ?_).mono ?_
  · intro k wr hk ⟨v, SP, O, SA, Bw⟩
    refine (busyCb_any A a c gp w.heap.size k (Pl.gd a k) (Pl.fr a s (k + 1)) v (Pl.bs a s k) wr hk (Pl.gd_get hk) (by have := Pl.bs_len a s k; omega) (hA.next Bw) SA SP O).mono ?_
    rintro e w3 ⟨v', rfl, SP3, O3, Bg⟩
    exact ⟨rfl, v', SP3, by rw [bs_succ]; exact O3, SA.below Bg (by omega), Bw.trans (Bg.mono (by omega))⟩
  · rintro e w3 ⟨rfl, v, SP, O, _, Bw⟩
    have s0 := SP.cell 0
    simp only [List.getElem?_toArray, List.getElem?_cons_zero] at s0
    have hr : resB a s = Pl.bs a s a.length := by unfold resB; rw [if_pos hE.out]
    rw [← hr] at O
    have O2 := O.mono (show w.heap.size ≤ gp + 1 by omega)
    obtain ⟨A3, c3, rfl, _, _⟩ := O2.slice_
    clear hr O
    go_wp2
    go_ret2
    exact ⟨_, rfl, Bw, O2⟩
end Go.Proofs.Ytpmndpbaigcaeaa
