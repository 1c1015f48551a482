/-
  pulses: All's and Few's inner functions walked. No statement is proved here.
-/
import Derived.Test.YtcoicmbjoaonoaaSearch
namespace Go.Proofs.Ytcoicmbjoaonoaa
open Go.RowKit
theorem wp_load_all_old {P : Program} {o : Oper} {a : Act} {K : Act → World → Prop} {Q : Exit → Act → World → Prop} {w0 u : World} {bs : List (Nat × TypeId × Array Value)} {g : Nat} {t : TypeId} {cs : Array Value} (H : Has w0 u bs) (hA : At w0 g t cs) (ty : TypeId) (x : Operand) (ho : o.op = .load ty x) (hx : a.eval x = .pointer (some ⟨g, 0, none⟩)) (ha : aggOf P ty cs.size = true)
    (h : K (a.put o.dst (.agg cs)) u) : o.wp P a u K Q := by
  obtain ⟨d, h1, h2, h3⟩ := aggOf_parts ha
  exact wp_load_row ty x ho g hx t cs (0, 0) d (hA.below H.below hA.lt) h1 (by cases d <;> simp_all) h3 h
end Go.Proofs.Ytcoicmbjoaonoaa
