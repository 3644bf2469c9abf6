/- The contracts of pass and Pass of package hop. -/
import Derived.Test.YtpmndpbaigcaeaaHopC2
namespace Go.Proofs.Ytpmndpbaigcaeaa
open Go Go.RowKit
/-- A list of n numbers, filled from the front. -/
def fillTo (n : Nat) (f : Nat → Int) : Nat → List Int
  | 0 => List.replicate n 0
  | k + 1 => (fillTo n f k).set k (f k)
theorem fillTo_len (n : Nat) (f : Nat → Int) : ∀ k, (fillTo n f k).length = n
  | 0 => by unfold fillTo; simp
  | k + 1 => by unfold fillTo; rw [List.length_set]; exact fillTo_len n f k
theorem fillTo_get (n : Nat) (f : Nat → Int) : ∀ k i, i < n → (fillTo n f k)[i]? = some (if i < k then f i else 0)
  | 0, i, hi => by unfold fillTo; simp [hi]
  | k + 1, i, hi => by
    have hl := fillTo_len n f k
    unfold fillTo
    by_cases hik : k = i
    · subst hik
      rw [List.getElem?_set_self (by omega), if_pos (by omega)]
    · rw [List.getElem?_set_ne hik, fillTo_get n f k i hi]
      congr 1
      split <;> split <;> first | rfl | omega
theorem fillTo_all (n : Nat) (f : Nat → Int) : fillTo n f n = (List.range n).map f := by
  apply List.ext_getElem?
  intro i
  by_cases hi : i < n
  · rw [fillTo_get n f n i hi, if_pos hi]; simp [hi]
  · rw [List.getElem?_eq_none (by rw [fillTo_len]; omega), List.getElem?_eq_none (by simp; omega)]
theorem Own.of_bk {w : World} {B : Nat} {e : TypeId} {k : IntKind} {g : Nat} {xs : List Int} (h : Bk w g e (ints k xs)) (hB : B ≤ g) (hm : xs.length ≤ maxLen) : Own w B e k (.slice (some ⟨g, 0, none⟩) xs.length xs.length) xs := by
  refine ⟨by simp, .inr ⟨g, xs.length, ints k xs, rfl, hB, h, Nat.le_refl _, hm, ?_, ?_⟩⟩
  · rw [ints_size]; simp
  · unfold ints; simp [List.take_of_length_le]
/-- What a pass returns: the departures, or none. -/
def resL (lim : Int) (a s : List Int) : List Int := if Pl.errOf lim a s = 0 then Pl.deps a s a.length else []
theorem info_int : (Try.prog.info? 3).map (fun i => (i.zero, i.size, i.bytes)) = some (some (.int .i64 0), 1, 8) := by kernel_rfl
set_option maxHeartbeats 1000000 in
theorem passCb_any (g gb n : Nat) (L : List Int) (k : Nat) (x : Int) (w : World) (hk : k < n) (hL : L.length = n) (K : Bk w g 3 (ints .i64 L)) (S : Bk w gb 22 #[.slice (some ⟨g, 0, none⟩) n n]) :
    Calls Try.prog 31 #[.int .i64 k, .int .i64 x, pt gb] w fun e w' => e = .returned (.tuple #[]) ∧ w' = w.setCell ⟨g, k, none⟩ (.int .i64 x) := by
  obtain ⟨y, hy⟩ : ∃ y, L[k]? = some y := ⟨_, List.getElem?_eq_getElem (by omega)⟩
  have c0 := K.int hy
  have f0 := K.free k
  have s0 : w.cell? ⟨gb, 0, none⟩ = some (.slice (some ⟨g, 0, none⟩) n n) := S.cell 0
  clear hy K S hL
  go_enter Try.func31, Try.ntmps31
  go_wp2
  go_end0
  exact ⟨rfl, rfl⟩
theorem call31 (args : Array Value) (w : World) : (callFunc 31 args).run Try.prog w = .ok (.enter 31 args) w := by kernel_rfl
set_option maxHeartbeats 1000000 in
theorem pass_any (A B : Option Addr) (a s : List Int) (c d : Nat) (lim lim2 : Int) (w : World) (hA : IsSl w A .i64 a) (hB : IsSl w B .i64 s) (hna : a.length ≤ 600) (h2 : Pl.errOf lim a s = 0 → Pl.errOf lim2 a s = 0) (hlim : 0 ≤ lim2 ∧ lim2 ≤ 9000000000000000000) :
    Calls Try.prog 24 #[.slice A a.length c, .slice B s.length d, .int .i64 lim] w fun e w' => ∃ v, e = .returned (.tuple #[v, .int .i64 (Pl.errOf lim a s)]) ∧ Below w.heap.size w w' ∧ Own w' w.heap.size 3 .i64 v (resL lim a s) := by
  have CK := hid (check_any A B a s c d lim w hA hB hna)
  replace h2 := hid h2
  have hmf : ∀ (fn : Fn) (first cap : Array Value) (w : World), (Instr.makeFunc fn first cap).run Try.prog w = .ok (.func fn first cap) w := fun _ _ _ _ => rfl
  have hmk := run_make_ints (P := Try.prog) 22 3 .i64 8 Try.underlying22 info_int .i64 .i64 a.length (by omega) (by omega)
  generalize hE : Pl.errOf lim a s = ev at CK ⊢
  replace hE := hid hE
  go_enter Try.func24, Try.ntmps24
  go_wp2_with fail
  refine CK.out.mono ?_
  rintro e w1 ⟨rfl, hb⟩
  clear CK
  by_cases he : ev = 0
  case neg =>
    go_wp2
    go_ret2
    refine ⟨.slice none 0 0, rfl, hb, ?_⟩
    unfold resL
    rw [if_neg (by rw [hE.out]; exact he)]
    exact Own.nil_ _ _ _ _
  subst he
  have K1 := (Bk.new w1 3 (ints .i64 (List.replicate a.length 0))).alloc (.cells #[.slice (some ⟨w1.heap.size, 0, none⟩) a.length a.length] 22)
  have S1 := Bk.new (w1.alloc (.cells (ints .i64 (List.replicate a.length 0)) 3)) 22 #[.slice (some ⟨w1.heap.size, 0, none⟩) a.length a.length]
  have hg : (w1.alloc (.cells (ints .i64 (List.replicate a.length 0)) 3)).heap.size = w1.heap.size + 1 := by simp
  rw [hg] at S1
  have B1 := (hb.alloc hb.size (.cells (ints .i64 (List.replicate a.length 0)) 3)).alloc (by rw [hg]; have := hb.size; omega) (.cells #[.slice (some ⟨w1.heap.size, 0, none⟩) a.length a.length] 22)
  clear hg
  have hsz := hb.size
  go_wp2_with fail
  generalize (w1.alloc (.cells (ints .i64 (List.replicate a.length 0)) 3)).alloc (.cells #[.slice (some ⟨w1.heap.size, 0, none⟩) a.length a.length] 22) = w2 at *
  generalize w1.heap.size = g at *
  refine (serve_any A B a s c d 31 #[pt (g + 1)] lim2 w2 (fun k wr => Bk wr g 3 (ints .i64 (fillTo a.length (fun i => Pl.fr a s (i + 1)) k)) ∧ Bk wr (g + 1) 22 #[.slice (some ⟨g, 0, none⟩) a.length a.length] ∧ Below w.heap.size w wr) call31 (h2.out hE.out) hlim ⟨K1, S1, B1⟩ (fun k wr h => ⟨hA.next h.2.2, hB.next h.2.2⟩) ?_).mono ?_
  · intro k wr hk ⟨K, S, Bw⟩
    refine (passCb_any g (g + 1) a.length _ k _ wr hk (fillTo_len _ _ _) K S).mono ?_
    rintro e w3 ⟨rfl, rfl⟩
    exact ⟨rfl, K.set_int k _, S.far (by dsimp only; omega) _, Bw.setCell (by dsimp only; omega) _⟩
  · rintro e w3 ⟨rfl, K, S, Bw⟩
    have s0 := S.cell 0
    simp only [List.getElem?_toArray, List.getElem?_cons_zero] at s0
    have hl : (fillTo a.length (fun i => Pl.fr a s (i + 1)) a.length).length = a.length := fillTo_len _ _ _
    have hO := Own.of_bk (B := w.heap.size) K hsz (by rw [hl]; simp [maxLen]; omega)
    rw [hl] at hO
    rw [fillTo_all] at hO
    have hr : resL lim a s = (List.range a.length).map fun i => Pl.fr a s (i + 1) := by unfold resL; rw [if_pos hE.out]; rfl
    rw [← hr] at hO
    clear K hl hr
    go_wp2
    go_ret2
    exact ⟨_, rfl, Bw, hO⟩
theorem Pass_any (A B : Option Addr) (a s : List Int) (c d : Nat) (w : World) (hA : IsSl w A .i64 a) (hB : IsSl w B .i64 s) (hna : a.length ≤ 600) :
    Calls Try.prog 12 #[.slice A a.length c, .slice B s.length d] w fun e w' => ∃ v, e = .returned (.tuple #[v, .int .i64 (Pl.errOf Pl.M a s)]) ∧ Below w.heap.size w w' ∧ Own w' w.heap.size 3 .i64 v (resL Pl.M a s) := by
  have CP := hid (pass_any A B a s c d Pl.M Pl.M w hA hB hna id (by decide))
  go_enter Try.func12, Try.ntmps12
  go_wp2_with fail
  refine CP.out.mono ?_
  rintro e w1 ⟨v, rfl, hb, hO⟩
  clear CP
  obtain ⟨A', c', rfl, hS, hw⟩ := hO.slice_
  go_wp2
  go_ret2
  exact ⟨_, rfl, hb, hO⟩
end Go.Proofs.Ytpmndpbaigcaeaa
