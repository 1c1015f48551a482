/-
  Several texts of this claim, one behind the other: Gen, Open. No statement is proved here.
-/
import Derived.Test.YtcoicmbjoaonoaaDoorChecked
import Derived.WalkKit
import Derived.WalkSpells
import Derived.BigQuiet
import Derived.Lib.Hide
import Derived.Deep.Draws
import Derived.Deep.QuietTactic
import Derived.Deep.RegionWith
import Derived.ChangeKeysEq
import Derived.ProofKit
import Derived.OpenShut
import Derived.ShutString
import Derived.ChangeOld
/-
  Rows of integers in blocks: plain words on memory, used by every walk of this seat. No statement is proved here.
-/
namespace Go.Proofs.YtcoicmbjoaonoaaDoor
set_option linter.unusedVariables false
set_option linter.unusedSimpArgs false
open Go.RowKit
set_option maxRecDepth 100000

/-- n numbers as cells: the i-th is f i. -/
def row (n : Nat) (f : Nat → Int) : Array Value := ((List.range n).map fun i => Value.int .i64 (f i)).toArray
theorem row_size (n : Nat) (f : Nat → Int) : (row n f).size = n := by simp [row]
theorem row_get {n i : Nat} (f : Nat → Int) (h : i < n) : (row n f)[i]? = some (.int .i64 (f i)) := by simp [row, h]
theorem row_congr {n : Nat} {f g : Nat → Int} (h : ∀ i, i < n → f i = g i) : row n f = row n g := by
  unfold row
  congr 1
  apply List.map_congr_left
  intro i hi
  rw [h i (List.mem_range.1 hi)]
theorem row_one (n : Nat) (f : Nat → Int) : (row n f).all (·.oneCell') = true := by simp [row, Value.oneCell']
theorem row_set {n k : Nat} (f : Nat → Int) (v : Int) : (row n f).setIfInBounds k (.int .i64 v) = row n (fun i => if i = k then v else f i) := by
  apply Array.ext_getElem?
  intro i
  by_cases hi : i < n
  · rw [row_get _ hi, Array.getElem?_setIfInBounds]
    by_cases hk : k = i
    · subst hk; simp [row_size, hi]
    · have : ¬ i = k := fun e => hk e.symm
      simp [hk, this, row_get, hi]
  · have h1 : (row n (fun i => if i = k then v else f i))[i]? = none := by simp [row_size]; omega
    have h2 : ((row n f).setIfInBounds k (.int .i64 v))[i]? = none := by simp [row_size]; omega
    rw [h1, h2]
theorem row_set_to {n k : Nat} {f g : Nat → Int} {v : Int} (h : ∀ i, i < n → g i = if i = k then v else f i) : (row n f).setIfInBounds k (.int .i64 v) = row n g := by
  rw [row_set]; exact (row_congr h).symm

theorem mul_bd (x y X Y : Int) (h1 : -X ≤ x) (h2 : x ≤ X) (h3 : -Y ≤ y) (h4 : y ≤ Y) : -(X * Y) ≤ x * y ∧ x * y ≤ X * Y := by
  have hx : x.natAbs ≤ X.natAbs := by omega
  have hy : y.natAbs ≤ Y.natAbs := by omega
  have h := Nat.mul_le_mul hx hy
  rw [← Int.natAbs_mul, ← Int.natAbs_mul] at h
  have hp : 0 ≤ X * Y := Int.mul_nonneg (by omega) (by omega)
  omega

theorem mul_le_of (x y X Y : Int) (h0 : 0 ≤ x) (h1 : x ≤ X) (h2 : 0 ≤ y) (h3 : y ≤ Y) : 0 ≤ x * y ∧ x * y ≤ X * Y :=
  ⟨Int.mul_nonneg h0 h2, Int.mul_le_mul h1 h3 h2 (by omega)⟩
theorem lt_no {x y : Int} (h : y ≤ x) : decide (x < y) = false := by simp; omega
theorem lt_yes {x y : Int} (h : x < y) : decide (x < y) = true := by simp; omega
theorem le_no {x y : Int} (h : y < x) : decide (x ≤ y) = false := by simp; omega
theorem le_yes {x y : Int} (h : x ≤ y) : decide (x ≤ y) = true := by simp; omega

/-- Block g is just these cells. -/
def At (w : World) (g : Nat) (t : TypeId) (cs : Array Value) : Prop := w.heap[g]? = some (.cells cs t (0, 0))
section
variable {w w' : World} {g : Nat} {t : TypeId} {cs : Array Value}
theorem At.lt (h : At w g t cs) : g < w.heap.size := by
  unfold At at h
  by_cases hg : g < w.heap.size
  · exact hg
  · rw [Array.getElem?_eq_none (by omega)] at h; cases h
theorem At.cell (h : At w g t cs) (i : Nat) : w.cell? ⟨g, i, none⟩ = cs[i]? := cell_of_row w g i cs t (0, 0) h
theorem At.frozen (h : At w g t cs) (i : Nat) : w.frozen? ⟨g, i, none⟩ = false := frozen_of_row w g i cs t h
theorem At.cellRow {n : Nat} {f : Nat → Int} (h : At w g t (row n f)) {i : Nat} (hi : i < n) : w.cell? ⟨g, i, none⟩ = some (.int .i64 (f i)) := by
  rw [h.cell, row_get f hi]
theorem At.drew (h : At w g t cs) : At w.drew g t cs := h
theorem At.drewN (h : At w g t cs) (n : Nat) : At (w.drewN n) g t cs := h
theorem At.alloc (h : At w g t cs) (o : Obj) : At (w.alloc o) g t cs := (Below.heap_alloc w o g h.lt).trans h
theorem At.new (w : World) (t : TypeId) (cs : Array Value) : At (w.alloc (.cells cs t)) w.heap.size t cs := heap_alloc_new w _
theorem At.new_ {w : World} {t : TypeId} {cs : Array Value} {g : Nat} (hg : g = w.heap.size) : At (w.alloc (.cells cs t)) g t cs := by subst hg; exact heap_alloc_new w _
theorem At.set_ (h : At w g t cs) (i : Nat) (u : Value) : At (w.setCell ⟨g, i, none⟩ u) g t (cs.setIfInBounds i u) := heap_setCell_same w g i cs t u h
theorem At.far (h : At w g t cs) {p : Addr} (hp : g ≠ p.block) (u : Value) : At (w.setCell p u) g t cs := (heap_setCell_other w p g u hp).trans h
theorem At.below {B : Nat} (h : At w g t cs) (hb : Below B w w') (hg : g < B) : At w' g t cs := (hb.block g hg).trans h
theorem At.setRow (h : At w g t cs) (cs' : Array Value) : At (w.setRow g cs') g t cs' := setRow_heap w g cs cs' t (0, 0) h
theorem At.setRow_far (h : At w g t cs) {g' : Nat} (hp : g ≠ g') (cs' : Array Value) : At (w.setRow g' cs') g t cs := (setRow_other w g' g cs' hp).trans h
end
theorem info_some {P : Program} {t : TypeId} (h : (P.info? t).isSome = true) : P.info? t = some ((P.info? t).get h) := by simp
theorem wpList_on {P : Program} {ops : Array Oper} {rest : List Oper} {o : Oper} {a : Act} {w : World} {Q : Exit → Act → World → Prop} (hg : Region.wanted o (yielded ops a.tmps) = true)
    (h : ∀ K : Act → World → Prop, (∀ a w, wpList P ops Q rest a w → K a w) → o.wp P a w K Q) : wpList P ops Q (o :: rest) a w :=
  wpList_step fun K hK => by rw [if_pos hg]; exact h K hK
/-- Do the two rows hold the same numbers? -/
def rowEq (n : Nat) (f g : Nat → Int) : Bool := (List.range n).all fun i => f i == g i
theorem rowEq_of {n : Nat} {f g : Nat → Int} (h : ∀ i, i < n → f i = g i) : rowEq n f g = true := by
  simp only [rowEq, List.all_eq_true, List.mem_range, beq_iff_eq]; exact h
theorem rowEq_iff {n : Nat} {f g : Nat → Int} : rowEq n f g = true ↔ ∀ i, i < n → f i = g i := by
  simp only [rowEq, List.all_eq_true, List.mem_range, beq_iff_eq]
theorem run_part_row {P : Program} (w : World) {e : TypeId} {k : IntKind} (he : P.underlying e = some (.int k)) {n i : Nat} (f : Nat → Int) (hi : i < n) : (part e (row n f) i).run P w = .ok (.int .i64 (f i)) w := by
  simp [part, isAgg, Sem.run_bind, run_underlying he, row_get f hi]
theorem run_eqItems_row {P : Program} (w : World) (d : Nat) {e : TypeId} {k : IntKind} (he : P.underlying e = some (.int k)) (n : Nat) (f g : Nat → Int) :
    ∀ is : List Nat, (∀ i ∈ is, i < n) → (Op.eqItems (d + 1) e 1 (row n f) (row n g) is).run P w = .ok (is.all fun i => f i == g i) w
  | [], _ => by simp [Op.eqItems]
  | i :: is, h => by
    have hi := h i (by simp)
    have ih := run_eqItems_row w d he n f g is (fun j hj => h j (by simp [hj]))
    simp only [Op.eqItems, Nat.mul_one, Sem.run_bind, run_part_row w he f hi, run_part_row w he g hi, Result.andThen_ok, run_equalIn_int w d e .i64 k (f i) (g i) he, List.all_cons]
    cases hfg : (f i == g i)
    · simp
    · simp [ih]
theorem run_eql_row {P : Program} {t e : TypeId} {k : IntKind} {i : TypeInfo} {n : Nat} (ht : P.underlying t = some (.array n e)) (he : P.underlying e = some (.int k)) (hi : P.info? e = some i) (hc : P.cellsOf e = 1) (w : World) (f g : Nat → Int) :
    (binOp .eql t (.agg (row n f)) (.agg (row n g))).run P w = .ok (.bool (rowEq n f g)) w := by
  rw [run_eql_struct]
  rw [run_equalIn_array w 9999 (row n f) (row n g) ht hi, hc, run_eqItems_row w 9998 he n f g _ (by simp)]
  rfl
theorem run_index_row {P : Program} {t e : TypeId} {k : IntKind} {n i : Nat} (ht : P.underlying t = some (.array n e)) (he : P.underlying e = some (.int k)) (hi : (P.info? e).isSome = true) (hc : P.cellsOf e = 1) (f : Nat → Int) (hin : i < n) (w : World) :
    (Instr.index t (.agg (row n f)) (.int .i64 (i : Int))).run P w = .ok (.int .i64 (f i)) w := by
  have h1 : (0 : Int) ≤ (i : Int) ∧ (i : Int) < (n : Int) := by omega
  simp [Instr.index, asIntOf, Sem.run_bind, run_underlying ht, h1, run_sizeOf w (info_some hi), hc, run_part_row w he f hin]
  intro h; omega
theorem setRow_new (w : World) (t : TypeId) (old cs : Array Value) : (w.alloc (.cells old t)).setRow w.heap.size cs = w.alloc (.cells cs t) := by
  unfold World.setRow World.alloc
  congr 1
  apply Array.ext_getElem?
  intro k
  simp only [Array.getElem?_modify, Array.getElem?_push, Array.size_modify]
  by_cases hk : k = w.heap.size
  · subst hk; simp
  · have : ¬ w.heap.size = k := fun e => hk e.symm
    simp [hk, this]
theorem wp_store_new {P : Program} {o : Oper} {a : Act} {w : World} {K : Act → World → Prop} {Q : Exit → Act → World → Prop} (ty : TypeId) (x y : Operand) (ho : o.op = .store ty x y) {g : Nat} {t : TypeId} {old cells : Array Value}
    (hx : a.eval x = .pointer (some ⟨g, 0, none⟩)) (hg : g = w.heap.size) (hy : a.eval y = .agg cells) (hi : (P.info? ty).map (·.size) = some cells.size) (hold : old.size = cells.size) (h1 : cells.all (·.oneCell') = true)
    (h : K (a.put o.dst undef) (w.alloc (.cells cells t))) : o.wp P a (w.alloc (.cells old t)) K Q := by
  subst hg
  refine wp_store_row ty x y ho _ cells hx hy t old (heap_alloc_new w _) hi hold h1 ?_
  rw [setRow_new]; exact h
theorem wpList_store_new {P : Program} {ops : Array Oper} {rest : List Oper} {o : Oper} {a : Act} {w : World} {Q : Exit → Act → World → Prop} (hgd : o.guard = none) (ty : TypeId) (x y : Operand) (ho : o.op = .store ty x y) {g : Nat} {t : TypeId} {old cells : Array Value}
    (hx : a.eval x = .pointer (some ⟨g, 0, none⟩)) (hg : g = w.heap.size) (hy : a.eval y = .agg cells) (hi : (P.info? ty).map (·.size) = some cells.size) (hold : old.size = cells.size) (h1 : cells.all (·.oneCell') = true)
    (h : wpList P ops Q rest (a.put o.dst undef) (w.alloc (.cells cells t))) : wpList P ops Q (o :: rest) a (w.alloc (.cells old t)) :=
  wpList_plain hgd fun _ hK => wp_store_new ty x y ho hx hg hy hi hold h1 (hK _ _ h)
theorem wpList_load_at {P : Program} {ops : Array Oper} {rest : List Oper} {o : Oper} {a : Act} {w : World} {Q : Exit → Act → World → Prop} (hgd : o.guard = none) (ty : TypeId) (x : Operand) (ho : o.op = .load ty x)
    {g : Nat} {t : TypeId} {cs : Array Value} {d : TypeDesc} (hx : a.eval x = .pointer (some ⟨g, 0, none⟩)) (hu : P.underlying ty = some d) (hd : (match d with | .struct _ | .array _ _ => true | _ => false) = true)
    (hA : At w g t cs) (hi : (P.info? ty).map (·.size) = some cs.size) (h : wpList P ops Q rest (a.put o.dst (.agg cs)) w) : wpList P ops Q (o :: rest) a w :=
  wpList_load_row hgd ty x ho g hx t cs (0, 0) d hA hu hd hi h
theorem results_at {P : Program} {fn : Func} {p u : Tmp} {ty : TypeId} (h : fn.results = #[.cell p ty, .tmp u]) (tmps : Array Value) {w : World} {g : Nat} {t : TypeId} {cs : Array Value} {d : TypeDesc}
    (hp : tmps.getD p undef = .pointer (some ⟨g, 0, none⟩)) (hg : At w g t cs) (hu : P.underlying ty = some d) (hd : (match d with | .struct _ | .array _ _ => true | _ => false) = true) (hi : (P.info? ty).map (·.size) = some cs.size) :
    (results fn tmps).run P w = .ok (.tuple #[.agg cs, tmps.getD u undef]) w := by
  rw [results_cell_tmp h, hp]
  simp [asAddr, run_loadVar_row w g t ty cs (0, 0) d hg hu hd hi, Result.andThen]
/-- What several ways come to is proved once. -/
structure Cut (T : Prop) : Prop where
  out : T
theorem cut_ {G : Prop} (T : Prop) (h : Cut T → G) (t : T) : G := h ⟨t⟩
theorem below_drewN {B : Nat} {a w : World} (h : Below B a w) (n : Nat) : Below B a (w.drewN n) := ⟨h.os, h.tape, h.output, h.size, h.block⟩
theorem below_setRow {B : Nat} {a w : World} (h : Below B a w) {g : Nat} (hg : B ≤ g) (cs : Array Value) : Below B a (w.setRow g cs) :=
  h.trans ⟨rfl, rfl, rfl, by simp, fun k hk => setRow_other w g k cs (by omega)⟩
end Go.Proofs.YtcoicmbjoaonoaaDoor
/-
  An argument that is an array of integers, opened. No statement is proved here.
-/
namespace Go.Proofs.YtcoicmbjoaonoaaDoor
set_option linter.unusedVariables false
set_option linter.unusedSimpArgs false
open Go.ChangeShapes Go.WideShapes Go.ChangeAt Go.RowKit
theorem open_row {H : Type} {enc : TypeId × Value → H} {P : Program} {w : World} {base b0 : Nat} {spare : Nat → Bool} {held : Bool} {r : Reach} {t e : TypeId} {n : Nat} {v : Value} {d : DataW H} {p : List MemPlace}
    (ht : P.underlying t = some (.array n e)) (he : P.underlying e = some (.int .i64)) (hc : P.cellsOf t = n) (hce : P.cellsOf e = 1) (hv : Value.okWide P w r b0 t v) (h : DataW.Trod enc P w base spare held t v d p) :
    ∃ f : Nat → Int, v = .agg (row n f) ∧ ∀ i, i < n → (Lit.int .i64 (f i)).wf = true := by
  simp only [Value.okWide, ht] at hv
  obtain ⟨cs, rfl, hsz, _⟩ := hv
  obtain ⟨fuel, hf⟩ := h
  obtain ⟨xs, m, _, _, hl, hxl, hi⟩ := DataW.trod_array ht hf
  rw [hc] at hsz
  have hat : ∀ i, i < n → ∃ a, cs[i]? = some (.int .i64 a) ∧ (Lit.int .i64 a).wf = true := fun i hin => by
    have h1 := hi i hin
    rw [hce] at h1
    have hx : xs[i]? = some (xs[i]'(by omega)) := List.getElem?_eq_getElem (by omega)
    have hcs : ((Value.agg cs).cells.toList.drop (i * 1)).take 1 = [cs[i]'(by omega)] := by
      have : i < cs.toList.length := by simp; omega
      simp only [Value.cells, Nat.mul_one]
      rw [List.drop_eq_getElem_cons this]
      simp
    rw [hcs, hx] at h1
    obtain ⟨a, e0, _, wa⟩ := DataW.trod_int he h1
    refine ⟨a, ?_, wa⟩
    rw [Array.getElem?_eq_getElem (by omega)]
    simpa using e0
  have hch : ∃ f : Nat → Int, ∀ i, i < n → cs[i]? = some (.int .i64 (f i)) ∧ (Lit.int .i64 (f i)).wf = true := by
    classical
    refine ⟨fun i => if h : i < n then Classical.choose (hat i h) else 0, fun i hin => ?_⟩
    simp only [hin, dif_pos]
    exact Classical.choose_spec (hat i hin)
  obtain ⟨f, hf⟩ := hch
  refine ⟨f, ?_, fun i hin => (hf i hin).2⟩
  congr 1
  apply Array.ext_getElem?
  intro i
  by_cases hin : i < n
  · rw [row_get _ hin, (hf i hin).1]
  · rw [Array.getElem?_eq_none (by omega), Array.getElem?_eq_none (by rw [row_size]; omega)]
end Go.Proofs.YtcoicmbjoaonoaaDoor
