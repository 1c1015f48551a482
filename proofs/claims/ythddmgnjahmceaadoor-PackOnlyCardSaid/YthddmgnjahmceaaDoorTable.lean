/-
  Package-level tables of integers: how they lie in memory, read whole or one by one; and from the row's condition to that. No statement is proved here.
-/
import Derived.Test.YthddmgnjahmceaaDoorParts
import Derived.ProofKit
import Derived.LaidMore
import Derived.OpenShut
import Derived.Stop.Joined
namespace Go.Proofs.YthddmgnjahmceaaDoor
open Go.RowKit Go.ChangeShapes Go.WideShapes

theorem still_below_ {w w' : World} (h : w = w') : Below w.heap.size w w' := by subst h; exact Below.refl _ _
/-- Block G begins with these n numbers. -/
def Table (G n : Nat) (f : Nat → Int) (w : World) : Prop := ∀ i, i < n → w.cell? ⟨G, i, none⟩ = some (.int .i64 (f i))
section
variable {P : Program} {o : Oper} {a : Act} {K : Act → World → Prop} {Q : Exit → Act → World → Prop} {w0 u : World} {bs : List (Nat × TypeId × Array Value)} {G n : Nat} {f : Nat → Int}
theorem Table.below {w w' : World} (h : Table G n f w) (hb : Below w.heap.size w w') : Table G n f w' := fun i hi => by
  rw [← h i hi]; exact hb.cell (block_lt_of_cell (h i hi))
theorem Table.has {w : World} (h : Table G n f w0) (H : Has w0 w bs) : Table G n f w := fun i hi => H.old_cell (h i hi)
theorem Table.drew {w : World} (h : Table G n f w) : Table G n f w.drew := h
theorem Table.range {w : World} (h : Table G n f w) : w.rangeAt G 0 (row n f).toList := fun j v hv => by
  have hj : j < n := by
    have := (List.getElem?_eq_some_iff.1 hv).1
    simpa [row] using this
  rw [Array.getElem?_toList, row_get f hj] at hv
  rw [Nat.zero_add, h j hj]; exact hv
/-- The whole table, read. -/
theorem wp_load_table (T : Table G n f u) (ty : TypeId) (x : Operand) (ho : o.op = .load ty x) (hx : a.eval x = .pointer (some ⟨G, 0, none⟩)) (ha : aggOf P ty n = true)
    (h : K (a.put o.dst (.agg (row n f))) u) : o.wp P a u K Q := by
  obtain ⟨d, h1, h2, h3⟩ := aggOf_row ha
  exact wp_load_mid ty x ho G 0 hx (row n f).toList d T.range h1 h2 (by simpa [row] using h3) (by simpa using h)
theorem wp_load_entry (T : Table G n f u) (ty : TypeId) (x : Operand) (ho : o.op = .load ty x) {i : Nat} (hx : a.eval x = .pointer (some ⟨G, i, none⟩)) (hs : scalarOf P ty = true) (hi : i < n)
    (h : K (a.put o.dst (.int .i64 (f i))) u) : o.wp P a u K Q := by
  have hc := T i hi
  unfold Oper.wp execOp
  simp only [ho, hx, Instr.loadAt, Instr.sureAddr, Sem.run_bind, Sem.run_pure, Result.andThen_ok, run_loadVar_one hs hc]
  exact h
theorem ones_load_entry {ops : Array Oper} {quiet : List Nat} {rest : List Oper} (T : Table G n f u) (ty : TypeId) (x : Operand) (hk : kindOf quiet o = 2) (hg : Region.wanted o (yielded ops a.tmps) = true) (ho : o.op = .load ty x) {i : Nat} (hx : a.eval x = .pointer (some ⟨G, i, none⟩)) (hs : scalarOf P ty = true) (hi : i < n)
    (h : Ones P ops quiet Q rest (a.put o.dst (.int .i64 (f i))) u) : Ones P ops quiet Q (o :: rest) a u := by
  have hc := T i hi
  refine ones_here hk hg ?_ h
  unfold execOp
  simp only [ho, hx, Instr.loadAt, Instr.sureAddr, Sem.run_bind, Sem.run_pure, Result.andThen_ok, run_loadVar_one hs hc]
theorem laid_cells {H : Type} {enc : TypeId × Value → H} {W : World} {sp : Nat → Bool} {held : Bool} {base fuel : Nat} {t e : TypeId} {cs : Array Value} {l : List Int} {pl : List MemPlace}
    (ht : P.underlying t = some (.array l.length e)) (he : P.underlying e = some (.int .i64)) (hc : P.cellsOf t = l.length) (hce : P.cellsOf e = 1)
    (h : DataW.trod enc P W base sp held fuel t cs.toList = some (.agg (l.map fun i => .lit (.int .i64 i)), pl)) : ∀ i, i < l.length → cs[i]? = some (.int .i64 (l.getD i 0)) := by
  intro i hin
  obtain ⟨xs, m, _, hx, hl, hxl, hi⟩ := DataW.trod_array ht h
  rw [hc] at hl
  have h1 := hi i hin
  rw [hce] at h1
  have hx1 : xs[i]? = some (xs[i]'(by omega)) := List.getElem?_eq_getElem (by omega)
  have hcs : (cs.toList.drop (i * 1)).take 1 = [cs[i]'(by simp at hl; omega)] := by
    have : i < cs.toList.length := by omega
    simp only [Nat.mul_one]
    rw [List.drop_eq_getElem_cons this]
    simp
  rw [hcs, hx1] at h1
  obtain ⟨a, e0, e1, _⟩ := DataW.trod_int he h1
  simp only [Prod.mk.injEq, DataW.agg.injEq] at hx
  have hm := congrArg (fun k => k[i]?) hx.1
  simp only [List.getElem?_map, hx1, Option.map_some, List.getElem?_eq_getElem hin, e1] at hm
  rw [Array.getElem?_eq_getElem (by simp at hl; omega)]
  simp at e0 hm
  rw [e0, ← hm]
  simp [List.getD, hin]
theorem laid_table {W : World} {name : String} {G : Nat} {t e : TypeId} {l : List Int} {rest : List (String × DataW Unit)}
    (hg : P.globalNamed name = some G) (htt : (P.globals[G]?).map (·.type) = some t)
    (ht : P.underlying t = some (.array l.length e)) (he : P.underlying e = some (.int .i64)) (hc : P.cellsOf t = l.length) (hce : P.cellsOf e = 1)
    (hp : (((name, DataW.agg (l.map fun i => .lit (.int .i64 i))) :: rest).all fun x => x.2.handleName?.isNone) = true)
    (h : laidMetH P ((name, .agg (l.map fun i => .lit (.int .i64 i))) :: rest) W) : Table G l.length (fun i => l.getD i 0) W := by
  rw [MakeChecks.laidMetH_plain _ _ _ hp] at h
  obtain ⟨ps, ⟨g0, t0, cs0, f0, p0, q0, hg0, ht0, hv0, hd0, _⟩, _⟩ := h
  obtain rfl := Option.some.inj (hg.symm.trans hg0)
  obtain rfl := Option.some.inj (htt.symm.trans ht0)
  intro i hi
  rw [World.var?_cell hg hv0 i]
  exact laid_cells ht he hc hce hd0 i hi
end
end Go.Proofs.YthddmgnjahmceaaDoor
