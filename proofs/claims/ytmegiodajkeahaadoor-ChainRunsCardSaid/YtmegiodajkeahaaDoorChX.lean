/- Hear and Disclose, the ways apart. -/
import Derived.Test.YtmegiodajkeahaaDoorChAP
namespace Go.Proofs.YtmegiodajkeahaaDoor
open Go Go.RowKit
theorem hear_no {S : Nat → Prop} {g : Nat} {st sp de co : Int} {s : Pl.Rst} {i : Int} {A : Option Addr} {c : Nat} {b : List Int} {t lo hi : Int} {W : World} {x : Int}
    (hx : Pl.hErr st sp de co s i lo hi = x) (hx0 : x ≠ 0) (hC : Pl.cfOk st sp de co) (hs : Pl.okR co s) (hb : Pl.okB b) (hS : IsSl W A .u8 b) (hM : RcvS W S g st sp de co s) {n : Nat} (hn : b.length = n) :
    Calls Tryd.prog 26 #[pt g, .int .i64 i, .slice A n c, .int .u64 t, .agg #[.int .i64 lo, .int .i64 hi]] W fun e w' => e = .returned (.int .i64 x) ∧ Below W.heap.size W w' :=
  hn ▸ (hear_any S g st sp de co s i A c b t lo hi W hC hs hb hS hM).mono fun e w' ⟨h1, h2⟩ => by
    rcases h2 with ⟨_, h2⟩ | ⟨h2, _⟩
    · exact ⟨by rw [h1, hx], h2⟩
    · exact absurd (hx.symm.trans h2) hx0
theorem hear_yes {S : Nat → Prop} {g : Nat} {st sp de co : Int} {s : Pl.Rst} {i : Int} {A : Option Addr} {c : Nat} {b : List Int} {t lo hi : Int} {W : World}
    (hx : Pl.hErr st sp de co s i lo hi = 0) (hC : Pl.cfOk st sp de co) (hs : Pl.okR co s) (hb : Pl.okB b) (hS : IsSl W A .u8 b) (hM : RcvS W S g st sp de co s) {n : Nat} (hn : b.length = n) :
    Calls Tryd.prog 26 #[pt g, .int .i64 i, .slice A n c, .int .u64 t, .agg #[.int .i64 lo, .int .i64 hi]] W fun e w' => e = .returned (.int .i64 0) ∧ ∃ S', RcvS w' S' g st sp de co (Pl.hSt s ⟨i, b, t⟩) ∧ Fr S S' W w' :=
  hn ▸ (hear_any S g st sp de co s i A c b t lo hi W hC hs hb hS hM).mono fun e w' ⟨h1, h2⟩ => by
    rcases h2 with ⟨h2, _⟩ | ⟨_, h2⟩
    · exact absurd hx h2
    · exact ⟨by rw [h1, hx], h2⟩
theorem disc_no {S : Nat → Prop} {g : Nat} {st sp de co : Int} {s : Pl.Rst} {i : Int} {key : Int × Int} {W : World} {x : Int}
    (hx : Pl.dErr co s i key = x) (hx0 : x ≠ 0) (M : RcvS W S g st sp de co s) (hs : Pl.okR co s) (hco : co ≤ 64) (hR : Rnd W) (hS : ∀ k, S k → 2 ≤ k) :
    Calls Tryd.prog 28 #[pt g, .int .i64 i, .agg #[.int .u64 key.1, .int .u64 key.2]] W fun e w' => e = .returned (.tuple #[.slice none 0 0, .int .i64 x]) ∧ Below W.heap.size W w' :=
  (disclose_any S g st sp de co s i key W M hs hco hR hS).mono fun e w' h => by
    rcases h with ⟨_, h1, h2⟩ | ⟨h1, _⟩
    · exact ⟨by rw [h1, hx], h2⟩
    · exact absurd (hx.symm.trans h1) hx0
theorem disc_yes {S : Nat → Prop} {g : Nat} {st sp de co : Int} {s : Pl.Rst} {i : Int} {key : Int × Int} {W : World}
    (hx : Pl.dErr co s i key = 0) (M : RcvS W S g st sp de co s) (hs : Pl.okR co s) (hco : co ≤ 64) (hR : Rnd W) (hS : ∀ k, S k → 2 ≤ k) :
    Calls Tryd.prog 28 #[pt g, .int .i64 i, .agg #[.int .u64 key.1, .int .u64 key.2]] W fun e w' => ∃ rv S', e = .returned (.tuple #[rv, .int .i64 0]) ∧ RcvS w' S' g st sp de co (Pl.dSt s i key) ∧ IsBB w' S' rv (Pl.dOut i key s.ms) ∧ Fr S S' W w' :=
  (disclose_any S g st sp de co s i key W M hs hco hR hS).mono fun e w' h => by
    rcases h with ⟨h1, _⟩ | ⟨_, h1⟩
    · exact absurd hx h1
    · exact h1
theorem known_of {S : Nat → Prop} {g : Nat} {st sp de co : Int} {s : Pl.Rst} {W : World} (M : RcvS W S g st sp de co s) : Calls Tryd.prog 31 #[pt g] W fun e w' => e = .returned (.int .i64 s.kn) ∧ W = w' := by
  obtain ⟨v, L, M⟩ := M
  exact known_at g s.kn W (M.bk.cell 4)
theorem held_of {S : Nat → Prop} {g : Nat} {st sp de co : Int} {s : Pl.Rst} {W : World} (M : RcvS W S g st sp de co s) : Calls Tryd.prog 33 #[pt g] W fun e w' => e = .returned (.int .i64 s.ms.length) ∧ W = w' := by
  obtain ⟨v, L, M⟩ := M
  obtain ⟨A, c, rfl⟩ := M.shape
  exact held_at g A _ c W (M.bk.cell 7)
end Go.Proofs.YtmegiodajkeahaaDoor
