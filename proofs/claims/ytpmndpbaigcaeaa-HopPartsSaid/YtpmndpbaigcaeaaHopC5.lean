/- The contracts of Pass of the reference and of Waits of package hop. -/
import Derived.Test.YtpmndpbaigcaeaaHopC4
namespace Go.Proofs.Ytpmndpbaigcaeaa
open Go Go.RowKit
theorem Own.mono {w : World} {B B' : Nat} {e : TypeId} {k : IntKind} {v : Value} {xs : List Int} (h : Own w B e k v xs) (hB : B' ≤ B) : Own w B' e k v xs := by
  obtain ⟨hl, h⟩ := h
  refine ⟨hl, ?_⟩
  rcases h with h | ⟨g, cap, cur, hv, hg, r⟩
  · exact .inl h
  · exact .inr ⟨g, cap, cur, hv, Nat.le_trans hB hg, r⟩
set_option maxHeartbeats 1000000 in
theorem refPassT_any (A B : Option Addr) (a s : List Int) (c d : Nat) (w : World) (hA : IsSl w A .i64 a) (hB : IsSl w B .i64 s) (hna : a.length ≤ 600) :
    Calls Try.prog 13 #[.slice A a.length c, .slice B s.length d] w fun e w' => ∃ v, e = .returned (.tuple #[v, .int .i64 (Pl.errOf Pl.M a s)]) ∧ Below w.heap.size w w' ∧ Own w' w.heap.size 3 .i64 v (resL Pl.M a s) := by
  have CK := hid (refCheck_any A B a s c d Pl.M w hA hB hna)
  generalize hE : Pl.errOf Pl.M a s = ev at *
  replace hE := hid hE
  go_enter Try.func13, Try.ntmps13
  go_wp2_with fail
  refine CK.out.mono ?_
  rintro e w1 ⟨rfl, hb⟩
  clear CK
  by_cases he : ev = 0
  case neg =>
    go_wp2
    go_ret2
    refine ⟨.slice none 0 0, rfl, hb, ?_⟩
    unfold resL
    rw [if_neg (by rw [hE.out]; exact he)]
    exact Own.nil_ _ _ _ _
  subst he
  go_wp2_with fail
  refine (refPass_any A B a s c d Pl.M w1 (hA.next hb) (hB.next hb) hE.out (by decide)).mono ?_
  rintro e w2 ⟨v, rfl, hb2, hO⟩
  have hO2 := hO.mono hb.size
  obtain ⟨A', c', rfl, _, _⟩ := hO2.slice_
  go_wp2
  go_ret2
  refine ⟨_, rfl, bstep hb hb2, ?_⟩
  unfold resL
  rw [if_pos hE.out]
  exact hO2
theorem call29 (args : Array Value) (w : World) : (callFunc 29 args).run Try.prog w = .ok (.enter 29 args) w := by kernel_rfl
set_option maxHeartbeats 1000000 in
theorem waitsCb_any (A B : Option Addr) (a s : List Int) (c d : Nat) (g gb g2 g3 n : Nat) (L : List Int) (k : Nat) (x : Int) (w : World) (hk : k < n) (hL : L.length = n) (hal : a.length = n) (hsl : s.length = n) (hr : 0 ≤ x ∧ x ≤ 9100000000000000000) (hra : ∀ i, i < n → 0 ≤ Pl.gd a i ∧ Pl.gd a i ≤ 9100000000000000000 ∧ 0 ≤ Pl.gd s i ∧ Pl.gd s i ≤ 10000000000)
    (hA : IsSl w A .i64 a) (hB : IsSl w B .i64 s) (K : Bk w g 3 (ints .i64 L)) (S : Bk w gb 22 #[.slice (some ⟨g, 0, none⟩) n n]) (S2 : Bk w g2 22 #[.slice A n c]) (S3 : Bk w g3 22 #[.slice B n d]) :
    Calls Try.prog 29 #[.int .i64 k, .int .i64 x, pt g3, pt g2, pt gb] w fun e w' => e = .returned (.tuple #[]) ∧ w' = (w.setCell ⟨g, k, none⟩ (.int .i64 (x - Pl.gd s k - Pl.gd a k))).drew := by
  obtain ⟨y, hy⟩ : ∃ y, L[k]? = some y := ⟨_, List.getElem?_eq_getElem (by omega)⟩
  have ha := Pl.gd_get (l := a) (k := k) (by omega)
  have hs := Pl.gd_get (l := s) (k := k) (by omega)
  obtain ⟨r0, r1, r2, r3⟩ := hra k hk
  obtain ⟨x0, x1⟩ := hr
  have c0 := K.int hy
  have f0 := K.free k
  have s0 : w.cell? ⟨gb, 0, none⟩ = some (.slice (some ⟨g, 0, none⟩) n n) := S.cell 0
  have s2 : w.cell? ⟨g2, 0, none⟩ = some (.slice A n c) := S2.cell 0
  have s3 : w.cell? ⟨g3, 0, none⟩ = some (.slice B n d) := S3.cell 0
  rcases hA.row with h0 | ⟨b, off, rfl, hb, hca⟩
  · omega
  rcases hB.row with h0 | ⟨b', off', rfl, hb', hcb⟩
  · omega
  have fa := hca k _ ha
  have fb := hcb k _ hs
  generalize Pl.gd a k = p at *
  generalize Pl.gd s k = q at *
  clear hy K S S2 S3 hL hca hcb ha hs hA hB hal hsl hra
  go_enter Try.func29, Try.ntmps29
  go_wp2_with fail
  go_region
  go_wp2
  go_end0
  exact ⟨rfl, rfl⟩
/-- What Waits returns. -/
def resW (a s : List Int) : List Int := if Pl.errOf Pl.M a s = 0 then Pl.waits a s a.length else []
theorem fr_le {a s : List Int} (he : Pl.errOf Pl.M a s = 0) (k : Nat) (hk : k ≤ a.length) : 0 ≤ Pl.fr a s k ∧ Pl.fr a s k ≤ 9100000000000000000 := by
  obtain ⟨_, h2, h3, _⟩ := Pl.ok_of he
  have := Pl.fr_bounds (by decide) h3 k hk
  simp only [Pl.M] at this
  omega
set_option maxHeartbeats 1000000 in
theorem waits_any (A B : Option Addr) (a s : List Int) (c d : Nat) (w : World) (hA : IsSl w A .i64 a) (hB : IsSl w B .i64 s) (hna : a.length ≤ 600) :
    Calls Try.prog 14 #[.slice A a.length c, .slice B s.length d] w fun e w' => ∃ v, e = .returned (.tuple #[v, .int .i64 (Pl.errOf Pl.M a s)]) ∧ Below w.heap.size w w' ∧ Own w' w.heap.size 3 .i64 v (resW a s) := by
  have X2 := (Bk.new w 22 #[.slice A a.length c]).alloc (.cells #[.slice B s.length d] 22)
  have X3 := Bk.new (w.alloc (.cells #[.slice A a.length c] 22)) 22 #[.slice B s.length d]
  have hg0 : (w.alloc (.cells #[.slice A a.length c] 22)).heap.size = w.heap.size + 1 := by simp
  rw [hg0] at X3
  have B0 := ((Below.refl w.heap.size w).alloc (Nat.le_refl _) (.cells #[.slice A a.length c] 22)).alloc (by rw [hg0]; omega) (.cells #[.slice B s.length d] 22)
  have hs0 : ((w.alloc (.cells #[.slice A a.length c] 22)).alloc (.cells #[.slice B s.length d] 22)).heap.size = w.heap.size + 1 + 1 := by simp
  clear hg0
  have CK := fun w hA hB => check_any A B a s c d Pl.M w hA hB hna
  have hmf : ∀ (fn : Fn) (first cap : Array Value) (w : World), (Instr.makeFunc fn first cap).run Try.prog w = .ok (.func fn first cap) w := fun _ _ _ _ => rfl
  have hmk := run_make_ints (P := Try.prog) 22 3 .i64 8 Try.underlying22 info_int .i64 .i64 a.length (by omega) (by omega)
  replace CK := hid CK
  generalize hE : Pl.errOf Pl.M a s = ev at *
  replace hE := hid hE
  have x2 := X2.cell 0
  have x3 := X3.cell 0
  simp only [List.getElem?_toArray, List.getElem?_cons_zero] at x2 x3
  go_enter Try.func14, Try.ntmps14
  go_wp2_with fail
  generalize (w.alloc (.cells #[.slice A a.length c] 22)).alloc (.cells #[.slice B s.length d] 22) = w0 at *
  refine (CK.out _ (hA.next B0) (hB.next B0)).mono ?_
  rintro e w1 ⟨rfl, hb⟩
  clear CK x2 x3
  by_cases he : ev = 0
  case neg =>
    go_wp2
    go_ret2
    refine ⟨.slice none 0 0, rfl, bup B0 hb (by omega), ?_⟩
    unfold resW
    rw [if_neg (by rw [hE.out]; exact he)]
    exact Own.nil_ _ _ _ _
  subst he
  have Y2 := X2.next hb
  have Y3 := X3.next hb
  have hb2 := bup B0 hb (by omega)
  have hsz := hb.size
  rw [hs0] at hsz
  clear X2 X3
  have Z2 := (Y2.alloc (.cells (ints .i64 (List.replicate a.length 0)) 3)).alloc (.cells #[.slice (some ⟨w1.heap.size, 0, none⟩) a.length a.length] 22)
  have Z3 := (Y3.alloc (.cells (ints .i64 (List.replicate a.length 0)) 3)).alloc (.cells #[.slice (some ⟨w1.heap.size, 0, none⟩) a.length a.length] 22)
  have K1 := (Bk.new w1 3 (ints .i64 (List.replicate a.length 0))).alloc (.cells #[.slice (some ⟨w1.heap.size, 0, none⟩) a.length a.length] 22)
  have S1 := Bk.new (w1.alloc (.cells (ints .i64 (List.replicate a.length 0)) 3)) 22 #[.slice (some ⟨w1.heap.size, 0, none⟩) a.length a.length]
  have hg : (w1.alloc (.cells (ints .i64 (List.replicate a.length 0)) 3)).heap.size = w1.heap.size + 1 := by simp
  rw [hg] at S1
  have B1 := (hb2.alloc hb2.size (.cells (ints .i64 (List.replicate a.length 0)) 3)).alloc (by rw [hg]; have := hb2.size; omega) (.cells #[.slice (some ⟨w1.heap.size, 0, none⟩) a.length a.length] 22)
  clear hg
  have y2 := Y2.cell 0
  have y3 := Y3.cell 0
  have z2 := Z2.cell 0
  have z3 := Z3.cell 0
  simp only [List.getElem?_toArray, List.getElem?_cons_zero] at y2 y3 z2 z3
  go_wp2_with fail
  clear y2 y3 z2 z3 Y2 Y3
  generalize (w1.alloc (.cells (ints .i64 (List.replicate a.length 0)) 3)).alloc (.cells #[.slice (some ⟨w1.heap.size, 0, none⟩) a.length a.length] 22) = w2 at *
  generalize w1.heap.size = g at *
  obtain ⟨hlen, h512, h3, h4⟩ := Pl.ok_of hE.out
  replace hlen := hid hlen
  refine (serve_any A B a s c d 29 #[pt (w.heap.size + 1), pt w.heap.size, pt (g + 1)] Pl.M w2 (fun k wr => (Bk wr g 3 (ints .i64 (fillTo a.length (Pl.wt a s) k)) ∧ Bk wr (g + 1) 22 #[.slice (some ⟨g, 0, none⟩) a.length a.length]) ∧ (Bk wr w.heap.size 22 #[.slice A a.length c] ∧ Bk wr (w.heap.size + 1) 22 #[.slice B s.length d]) ∧ Below w.heap.size w wr) call29 hE.out (by decide) ⟨⟨K1, S1⟩, ⟨Z2, Z3⟩, B1⟩ (fun k wr h => ⟨hA.next h.2.2, hB.next h.2.2⟩) ?_).mono ?_
  · intro k wr hk ⟨⟨K, S⟩, ⟨S2, S3⟩, Bw⟩
    refine (waitsCb_any A B a s c d g (g + 1) w.heap.size (w.heap.size + 1) a.length _ k (Pl.fr a s (k + 1)) wr hk (fillTo_len _ _ _) rfl hlen.out.symm (fr_le hE.out _ hk) (fun i hi => ?_) (hA.next Bw) (hB.next Bw) K S S2 ?_).mono ?_
    · have := Pl.okM_true.1 (h3 i hi)
      simp only [Pl.M] at this
      omega
    · rw [← hlen.out] at S3; exact S3
    · rintro e w3 ⟨rfl, rfl⟩
      exact ⟨rfl, ⟨(K.set_int k _).drew, (S.far (by dsimp only; omega) _).drew⟩, ⟨(S2.far (by dsimp only; omega) _).drew, (S3.far (by dsimp only; omega) _).drew⟩, (Bw.setCell (by dsimp only; omega) _).drew⟩
  · rintro e w3 ⟨rfl, ⟨K, S⟩, _, Bw⟩
    have s0 := S.cell 0
    simp only [List.getElem?_toArray, List.getElem?_cons_zero] at s0
    have hl : (fillTo a.length (Pl.wt a s) a.length).length = a.length := fillTo_len _ _ _
    have hO := Own.of_bk (B := w.heap.size) K (by omega) (by rw [hl]; simp [maxLen]; omega)
    rw [hl] at hO
    rw [fillTo_all] at hO
    have hr : resW a s = (List.range a.length).map (Pl.wt a s) := by unfold resW; rw [if_pos hE.out]; rfl
    rw [← hr] at hO
    clear K hl hr
    go_wp2
    go_ret2
    exact ⟨_, rfl, Bw, hO⟩
end Go.Proofs.Ytpmndpbaigcaeaa
