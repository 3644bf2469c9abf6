/- A drawn region walked once, in the order of the text, over a class of worlds of one's own: calls may lay blocks. -/
import Derived.Test.YtjeojnlkjecojaaDoorMem
import Derived.BigQuiet
namespace Go.Proofs.YtjeojnlkjecojaaDoor
open Go
section
variable {P : Program} {ops : Array Oper} {C : World → Prop} {a : Act} {o : Oper} {rest : List Oper}
theorem region_class {id : Nat} {Q : Exit → Act → World → Prop} {w : World} {l : List Oper} (C : World → Prop) (hm : P.follows .mixedOrders = true) (hB : Region.lexB .any l.toArray = true) (hC : C w.drew)
    (h : wpQuiet P l.toArray C (fun a' => ∀ w', C w' → Q .normal a' w') l a) : (Code.region id l.toArray true).wp P Q a w :=
  wp_region_quiet (C := C) hm hB hC (by simpa using h)
theorem class_want {Q : Act → Prop} (hw : Region.wanted o (yielded ops a.tmps) = true) (h : ∃ v, (∀ w, C w → o.quietAt P a C w v) ∧ wpQuiet P ops C Q rest (a.put o.dst v)) : wpQuiet P ops C Q (o :: rest) a :=
  BigFrame.wpQuiet_want hw fun K hK => by
    obtain ⟨v, h1, h2⟩ := h
    exact ⟨v, h1, hK _ h2⟩
end
end Go.Proofs.YtjeojnlkjecojaaDoor
