/-
  A slice literal: a law at one operation. No statement is proved here.
-/
import Derived.Test.YtcoicmbjoaonoaaHas
namespace Go.Proofs.Ytcoicmbjoaonoaa
open Go.RowKit
section
variable {P : Program} {o : Oper} {a : Act} {K : Act → World → Prop} {Q : Exit → Act → World → Prop} {w0 u : World} {bs : List (Nat × TypeId × Array Value)}
theorem wp_made (H : Has w0 u bs) {elem : TypeId} {n : Nat} {cs : Array Value} (hx : (execOp a.eval o).run P u = .ok (.value (.slice (some ⟨u.heap.size, 0, none⟩) n n)) (u.alloc (.cells cs elem)))
    (h : ∀ u' g, Has w0 u' ((g, elem, cs) :: bs) → K (a.put o.dst (.slice (some ⟨g, 0, none⟩) n n)) u') : o.wp P a u K Q := by
  have := h _ _ (H.new elem cs)
  unfold Oper.wp
  simp only [hx]
  exact this
end
end Go.Proofs.Ytcoicmbjoaonoaa
