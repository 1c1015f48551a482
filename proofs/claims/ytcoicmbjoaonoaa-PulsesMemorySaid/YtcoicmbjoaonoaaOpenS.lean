/-
  An argument that is a slice of integers, opened. No statement is proved here.
-/
import Derived.Test.YtcoicmbjoaonoaaOpen
import Derived.Test.YtcoicmbjoaonoaaSlice
import Derived.ChangeSlices
namespace Go.Proofs.Ytcoicmbjoaonoaa
open Go.ChangeShapes Go.WideShapes Go.ChangeAt Go.RowKit
theorem open_nums {H : Type} {enc : TypeId × Value → H} {P : Program} {w : World} {base : Nat} {spare : Nat → Bool} {held : Bool} {t e : TypeId} {A : Option Addr} {len cap : Nat} {d : DataW H} {p : List MemPlace}
    (ht : P.underlying t = some (.slice e)) (he : P.underlying e = some (.int .i64)) (hc : P.cellsOf e = 1) (h : DataW.Trod enc P w base spare held t (.slice A len cap) d p) :
    ∃ (ad : Addr) (f : Nat → Int), len ≤ 9223372036854775807 ∧ ReadsA w A len ad f := by
  obtain ⟨fuel, hf⟩ := h
  have hv : (Value.slice A len cap).cells.toList = [.slice A len cap] := rfl
  rw [hv] at hf
  rcases open_ints ht he hc hf with ⟨h1, _⟩ | ⟨a, len', cap', zs, h1, _, hl, hm, hlen, _, hcell, _⟩
  · injection h1 with h1
    injection h1 with e1 e2 e3
    subst e1 e2 e3
    exact ⟨⟨0, 0, none⟩, fun _ => 0, by omega, ⟨fun h => by omega, fun i hi => by omega⟩⟩
  · injection h1 with h1
    injection h1 with e1 e2 e3
    subst e1 e2 e3
    unfold maxLen at hm
    refine ⟨a, fun i => zs.getD i 0, by omega, ⟨fun _ => rfl, fun i hi => hcell i ?_⟩⟩
    rw [hlen]; split <;> omega
end Go.Proofs.Ytcoicmbjoaonoaa
