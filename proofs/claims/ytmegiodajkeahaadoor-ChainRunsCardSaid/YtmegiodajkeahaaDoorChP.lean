/- Plain law of the keys of a chain. -/
import Derived.Test.YtmegiodajkeahaaDoorChC9
namespace Go.Proofs.YtmegiodajkeahaaDoor.Pl
/-- The key below a key. -/
def dn (p : Int × Int) : Int × Int := (d1 p.1 p.2 kDown, d2 p.1 p.2 kDown)
/-- m steps down. -/
def dnN (p : Int × Int) : Nat → Int × Int
  | 0 => p
  | m + 1 => dn (dnN p m)
/-- The keys of a chain of n below a last one: n + 1 of them. -/
def keysL (last : Int × Int) (n : Nat) : List (Int × Int) := (List.range (n + 1)).map fun i => dnN last (n - i)
theorem keysL_len (last : Int × Int) (n : Nat) : (keysL last n).length = n + 1 := by unfold keysL; simp
theorem keysL_get (last : Int × Int) (n i : Nat) (h : i ≤ n) : (keysL last n)[i]? = some (dnN last (n - i)) := by
  unfold keysL
  rw [List.getElem?_map, List.getElem?_range (by omega)]
  rfl
theorem keysL_next (last : Int × Int) (n i : Nat) (h : i < n) : (keysL last n)[i]? = some (dn (dnN last (n - (i + 1)))) := by
  rw [keysL_get _ _ _ (by omega)]
  have : n - i = n - (i + 1) + 1 := by omega
  rw [this]; rfl
/-- One more step down in front. -/
theorem keysL_cons (last : Int × Int) (n : Nat) : keysL last (n + 1) = dnN last (n + 1) :: keysL last n := by
  unfold keysL
  rw [List.range_succ_eq_map (n := n + 1), List.map_cons, List.map_map]
  congr 1
  apply List.map_congr_left
  intro i hi
  show dnN last (n + 1 - (i + 1)) = _
  congr 1; omega
end Go.Proofs.YtmegiodajkeahaaDoor.Pl
