/-
  An argument that is an array of integers, opened. No statement is proved here.
-/
import Derived.Test.YtcoicmbjoaonoaaGen
import Derived.ProofKit
import Derived.OpenShut
import Derived.ShutString
import Derived.ChangeOld
namespace Go.Proofs.Ytcoicmbjoaonoaa
open Go.ChangeShapes Go.WideShapes Go.ChangeAt Go.RowKit
theorem open_row {H : Type} {enc : TypeId × Value → H} {P : Program} {w : World} {base b0 : Nat} {spare : Nat → Bool} {held : Bool} {r : Reach} {t e : TypeId} {n : Nat} {v : Value} {d : DataW H} {p : List MemPlace}
    (ht : P.underlying t = some (.array n e)) (he : P.underlying e = some (.int .i64)) (hc : P.cellsOf t = n) (hce : P.cellsOf e = 1) (hv : Value.okWide P w r b0 t v) (h : DataW.Trod enc P w base spare held t v d p) :
    ∃ f : Nat → Int, v = .agg (row n f) ∧ ∀ i, i < n → (Lit.int .i64 (f i)).wf = true := by
  simp only [Value.okWide, ht] at hv
  obtain ⟨cs, rfl, hsz, _⟩ := hv
  obtain ⟨fuel, hf⟩ := h
  obtain ⟨xs, m, _, _, hl, hxl, hi⟩ := DataW.trod_array ht hf
  rw [hc] at hsz
  have hat : ∀ i, i < n → ∃ a, cs[i]? = some (.int .i64 a) ∧ (Lit.int .i64 a).wf = true := fun i hin => by
    have h1 := hi i hin
    rw [hce] at h1
    have hx : xs[i]? = some (xs[i]'(by omega)) := List.getElem?_eq_getElem (by omega)
    have hcs : ((Value.agg cs).cells.toList.drop (i * 1)).take 1 = [cs[i]'(by omega)] := by
      have : i < cs.toList.length := by simp; omega
      simp only [Value.cells, Nat.mul_one]
      rw [List.drop_eq_getElem_cons this]
      simp
    rw [hcs, hx] at h1
    obtain ⟨a, e0, _, wa⟩ := DataW.trod_int he h1
    refine ⟨a, ?_, wa⟩
    rw [Array.getElem?_eq_getElem (by omega)]
    simpa using e0
  have hch : ∃ f : Nat → Int, ∀ i, i < n → cs[i]? = some (.int .i64 (f i)) ∧ (Lit.int .i64 (f i)).wf = true := by
    classical
    refine ⟨fun i => if h : i < n then Classical.choose (hat i h) else 0, fun i hin => ?_⟩
    simp only [hin, dif_pos]
    exact Classical.choose_spec (hat i hin)
  obtain ⟨f, hf⟩ := hch
  refine ⟨f, ?_, fun i hin => (hf i hin).2⟩
  congr 1
  apply Array.ext_getElem?
  intro i
  by_cases hin : i < n
  · rw [row_get _ hin, (hf i hin).1]
  · rw [Array.getElem?_eq_none (by omega), Array.getElem?_eq_none (by rw [row_size]; omega)]
end Go.Proofs.Ytcoicmbjoaonoaa
