/- The contract of release where nothing was ever held; both as one. -/
import Derived.Test.YtmegiodajkeahaaDoorChL3
namespace Go.Proofs.YtmegiodajkeahaaDoor
open Go Go.RowKit
set_option maxHeartbeats 1000000 in
theorem release_nil (S : Nat → Prop) (g : Nat) (st sp de co : Int) (s : Pl.Rst) (L : List Lm) (i : Int) (key : Int × Int) (kv : Value) (W : World) (M : RcvM W S g st sp de co s (.slice none 0 0) L) (hn : L.length = 0) :
    Calls Tryd.prog 45 #[pt g, .int .i64 i, kv] W (RelP W S g st sp de co s i key) := by
  have c7 : W.cell? ⟨g, 7, none⟩ = some (.slice none 0 0) := M.bk.cell 7
  have f7 := M.bk.free 7
  obtain rfl : L = [] := List.eq_nil_of_length_eq_zero hn
  have HM := hid M
  clear M hn
  go_enter Tryd.func45, Tryd.ntmps45
  go_wp2_with fail
  go_loopw [7, 8, 21] (fun rv sv iv wr => rv = .slice none 0 0 ∧ sv = .slice none 0 0 ∧ iv = .int .i64 0 ∧ wr = W) (fun _ _ _ _ => 0)
  case atStart => exact ⟨rfl, rfl, rfl, rfl⟩
  case round =>
    obtain ⟨rfl, rfl, rfl, rfl⟩ := hrel
    go_wp2_with (refine wpList_clear_none (o := ⟨none, _, _, _, _, _⟩) (by rfl) (.tmp 61) (by rfl) 0 0 (by rfl) ?_)
    go_ret
    have M := HM.out
    have hms : s.ms = [] := by rw [← M.ms]; rfl
    refine ⟨_, S, rfl, ⟨.slice none 0 0, [], ⟨by rw [hms]; rfl, ?_, World.ownsRow_nil _ _ _ _, M.ing, (fun h hh => by cases hh), (fun x hx => by cases hx), fun k hk => by have := M.lt k hk; simpa [World.setCell] using this⟩⟩, ?_, ?_⟩
    · exact M.bk.put 7 _
    · rw [hms]; exact ⟨none, 0, rfl, .inl rfl⟩
    · exact (Fr.refl S wr).setCell M.ing _
theorem release_any (S : Nat → Prop) (g : Nat) (st sp de co : Int) (s : Pl.Rst) (i : Int) (key : Int × Int) (gk ck N : Nat) (W : World) (M : RcvS W S g st sp de co s)
    (hs : Pl.okR co s) (hco : co ≤ 64) (hi0 : s.kn < i) (hi1 : i ≤ co) (hN : s.kn + N = i) (hK : IsKs W (some ⟨gk, 0, none⟩) (Pl.keysL key N)) (hgk : ¬ S gk) (hR : Rnd W) (hS : ∀ k, S k → 2 ≤ k) :
    Calls Tryd.prog 45 #[pt g, .int .i64 i, .slice (some ⟨gk, 0, none⟩) (N + 1) ck] W (RelP W S g st sp de co s i key) := by
  obtain ⟨v, L, M⟩ := M
  rcases M.own.2 with ⟨rfl, h0⟩ | ⟨q, cap, cur, rfl, _⟩
  · exact release_nil S g st sp de co s L i key _ W M h0
  · exact release_some S g q cap L.length st sp de co s L i key gk ck N W M rfl hs hco hi0 hi1 hN hK hgk hR hS
end Go.Proofs.YtmegiodajkeahaaDoor
