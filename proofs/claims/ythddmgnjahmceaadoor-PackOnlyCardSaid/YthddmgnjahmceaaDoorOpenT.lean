/-
  An argument that is a struct of integers, opened; a memory. No statement is proved here.
-/
import Derived.Test.YthddmgnjahmceaaDoorOpen
import Derived.Test.YthddmgnjahmceaaDoorParts
namespace Go.Proofs.YthddmgnjahmceaaDoor
open Go.ChangeShapes Go.WideShapes Go.ChangeAt Go.RowKit
section
variable {P : Program} {w : World} {r : Reach} {b : Nat}
theorem open_cells {t : TypeId} {v : Value} {ts : List TypeId} (ha : (match P.underlying t with | some (.struct _) | some (.array _ _) => true | _ => false) = true) (hts : P.cellTypes P.depth t = some ts) (hc : P.cellsOf t = ts.length) (hv : Value.okWide P w r b t v) :
    ∃ cs, v = .agg cs ∧ cs.size = ts.length ∧ ∀ (i : Nat) (u : TypeId), ts[i]? = some u → ∃ x, cs[i]? = some x ∧ Cell.okWide P w r b u x := by
  have hv' : ∃ cs, v = .agg cs ∧ cs.size = P.cellsOf t ∧ Row.okWide P w r b t cs := by
    unfold Value.okWide at hv
    split at hv
    · exact hv
    · exact hv
    · rename_i h1 h2
      exfalso
      split at ha
      · rename_i fs he; exact h1 fs he
      · rename_i n e he; exact h2 n e he
      · cases ha
  obtain ⟨cs, rfl, hs, ts', hts', _, hall⟩ := hv'
  obtain rfl : ts = ts' := Option.some.inj (hts.symm.trans hts')
  refine ⟨cs, rfl, hs.trans hc, fun i u hu => ?_⟩
  have hi : i < ts.length := (List.getElem?_eq_some_iff.1 hu).1
  have hx : cs[i]? = some (cs[i]'(by omega)) := Array.getElem?_eq_getElem (by omega)
  obtain ⟨u', hu', ho⟩ := hall i _ hx
  rw [Nat.mod_eq_of_lt hi, hu] at hu'
  obtain rfl := Option.some.inj hu'
  exact ⟨_, hx, ho⟩
theorem cell_int {u : TypeId} {x : Value} (hu : P.underlying u = some (.int .i64)) (h : Cell.okWide P w r b u x) : ∃ n, x = .int .i64 n :=
  okWide_int hu (by unfold Value.okWide; rw [hu]; exact h)
/-- A struct of integers alone. -/
theorem open_struct {t : TypeId} {v : Value} {n : Nat} {e : TypeId} (ha : (match P.underlying t with | some (.struct _) | some (.array _ _) => true | _ => false) = true) (hts : P.cellTypes P.depth t = some (List.replicate n e)) (hc : P.cellsOf t = n) (he : P.underlying e = some (.int .i64)) (hv : Value.okWide P w r b t v) :
    ∃ f : Nat → Int, v = .agg (row n f) := by
  obtain ⟨cs, rfl, hs, hall⟩ := open_cells ha hts (by rw [hc]; simp) hv
  have hat : ∀ i, i < n → ∃ a, cs[i]? = some (.int .i64 a) := fun i hi => by
    obtain ⟨x, hx, ho⟩ := hall i e (by rw [List.getElem?_replicate, if_pos hi])
    obtain ⟨a, rfl⟩ := cell_int he ho
    exact ⟨a, hx⟩
  classical
  refine ⟨fun i => if h : i < n then Classical.choose (hat i h) else 0, ?_⟩
  congr 1
  refine rowV_ext (by simpa using hs) fun i hi => ?_
  simp only [hi, dif_pos]
  exact Classical.choose_spec (hat i hi)
end
/-! ### A memory: 101 numbers and a truth -/
def memC (f : Nat → Int) (s : Bool) (i : Nat) : Value := if i = 101 then .bool s else .int .i64 (f i)
def memA (f : Nat → Int) (s : Bool) : Array Value := rowV 102 (memC f s)
theorem memA_size (f : Nat → Int) (s : Bool) : (memA f s).size = 102 := rowV_size _ _
theorem memA_get (f : Nat → Int) (s : Bool) {i : Nat} (h : i < 101) : (memA f s)[i]? = some (.int .i64 (f i)) := by
  unfold memA
  rw [rowV_get _ (by omega)]
  unfold memC
  rw [if_neg (by omega)]
theorem memA_bool (f : Nat → Int) (s : Bool) : (memA f s)[101]? = some (.bool s) := by
  unfold memA
  rw [rowV_get _ (by omega)]; rfl
theorem memA_part (f : Nat → Int) (s : Bool) {k n : Nat} (h : k + n ≤ 101) : (memA f s).extract k (k + n) = row n (fun i => f (k + i)) := by
  unfold memA
  rw [rowV_extract _ (by omega), row_rowV]
  refine rowV_congr fun i hi => ?_
  unfold memC
  rw [if_neg (by omega)]
theorem memA_set (f : Nat → Int) (s : Bool) {k : Nat} (v : Int) (h : k < 101) : (memA f s).setIfInBounds k (.int .i64 v) = memA (fun i => if i = k then v else f i) s := by
  unfold memA
  rw [rowV_set]
  refine rowV_congr fun i hi => ?_
  unfold memC
  by_cases e : i = k
  · simp only [if_pos e]
    rw [if_neg (by omega)]
  · simp only [if_neg e]
theorem memA_setB (f : Nat → Int) (s t : Bool) : (memA f s).setIfInBounds 101 (.bool t) = memA f t := by
  unfold memA
  rw [rowV_set]
  refine rowV_congr fun i hi => ?_
  unfold memC
  by_cases e : i = 101
  · rw [if_pos e, if_pos e]
  · rw [if_neg e, if_neg e, if_neg e]
theorem memA_patch (f g : Nat → Int) (s : Bool) {k n : Nat} (h : k + n ≤ 101) : patch (memA f s) k (row n g).toList = memA (fun i => if k ≤ i ∧ i < k + n then g (i - k) else f i) s := by
  unfold memA
  rw [row_rowV, rowV_patch _ _ (by omega)]
  refine rowV_congr fun i hi => ?_
  unfold memC
  by_cases e : k ≤ i ∧ i < k + n
  · simp only [if_pos e]
    rw [if_neg (by omega)]
  · simp only [if_neg e]
theorem memA_congr {f g : Nat → Int} (s : Bool) (h : ∀ i, i < 101 → f i = g i) : memA f s = memA g s := rowV_congr fun i hi => by
  unfold memC
  by_cases e : i = 101
  · rw [if_pos e, if_pos e]
  · rw [if_neg e, if_neg e, h i (by omega)]
theorem memA_one (f : Nat → Int) (s : Bool) : (memA f s).all (·.oneCell') = true := by
  unfold memA rowV
  simp only [List.all_toArray, List.all_eq_true, List.mem_map, List.mem_range]
  rintro v ⟨i, _, rfl⟩
  unfold memC
  split <;> rfl
/-- A memory that came in. -/
theorem open_memory {P : Program} {w : World} {r : Reach} {b : Nat} {t e eb : TypeId} {v : Value} (ha : (match P.underlying t with | some (.struct _) | some (.array _ _) => true | _ => false) = true) (hts : P.cellTypes P.depth t = some (List.replicate 101 e ++ [eb])) (hc : P.cellsOf t = 102) (he : P.underlying e = some (.int .i64)) (heb : P.underlying eb = some .bool) (hv : Value.okWide P w r b t v) :
    ∃ (f : Nat → Int) (s : Bool), v = .agg (memA f s) := by
  obtain ⟨cs, rfl, hs, hall⟩ := open_cells ha hts (by rw [hc, List.length_append, List.length_replicate]; rfl) hv
  have hat : ∀ i, i < 101 → ∃ a, cs[i]? = some (.int .i64 a) := fun i hi => by
    obtain ⟨x, hx, ho⟩ := hall i e (by rw [List.getElem?_append_left (by rw [List.length_replicate]; exact hi), List.getElem?_replicate, if_pos hi])
    obtain ⟨a, rfl⟩ := cell_int he ho
    exact ⟨a, hx⟩
  obtain ⟨x, hx, ho⟩ := hall 101 eb (by rw [List.getElem?_append_right (by rw [List.length_replicate]; exact Nat.le_refl _), List.length_replicate]; rfl)
  obtain ⟨s, rfl⟩ : ∃ s, x = .bool s := okWide_bool heb (by unfold Value.okWide; rw [heb]; exact ho)
  classical
  refine ⟨fun i => if h : i < 101 then Classical.choose (hat i h) else 0, s, ?_⟩
  congr 1
  refine rowV_ext (by rw [hs, List.length_append, List.length_replicate]; rfl) fun i hi => ?_
  unfold memC
  by_cases e1 : i = 101
  · rw [if_pos e1, e1]; exact hx
  · rw [if_neg e1]
    have hi1 : i < 101 := by omega
    simp only [hi1, dif_pos]
    exact Classical.choose_spec (hat i hi1)
theorem memA_refl (f : Nat → Int) (s : Bool) : (memA f s).extract 0 (0 + 8) = row 8 f := by
  rw [memA_part f s (by omega)]
  exact row_congr fun i _ => by rw [Nat.zero_add]
def pstM (f : Nat → Int) (i : Nat) : Int := f (8 + i)
def excM (f : Nat → Int) (i : Nat) : Int := f (16 + i)
theorem memA_past (f : Nat → Int) (s : Bool) : (memA f s).extract 8 (8 + 8) = row 8 (pstM f) := memA_part f s (by omega)
theorem memA_exc (f : Nat → Int) (s : Bool) : (memA f s).extract 16 (16 + 80) = row 80 (excM f) := memA_part f s (by omega)
def putR (f g : Nat → Int) (i : Nat) : Int := if i < 8 then g i else f i
def putP (f g : Nat → Int) (i : Nat) : Int := if 8 ≤ i ∧ i < 16 then g (i - 8) else f i
def putX (f g : Nat → Int) (i : Nat) : Int := if 16 ≤ i ∧ i < 96 then g (i - 16) else f i
def putI (f : Nat → Int) (k : Nat) (v : Int) (i : Nat) : Int := if i = k then v else f i
theorem memA_putR (f g : Nat → Int) (s : Bool) : patch (memA f s) 0 (row 8 g).toList = memA (putR f g) s := by
  rw [memA_patch f g s (by omega)]
  refine memA_congr s fun i _ => ?_
  unfold putR
  by_cases h : i < 8
  · simp [h]
  · simp [h]
theorem memA_putP (f g : Nat → Int) (s : Bool) : patch (memA f s) 8 (row 8 g).toList = memA (putP f g) s := memA_patch f g s (by omega)
theorem memA_putX (f g : Nat → Int) (s : Bool) : patch (memA f s) 16 (row 80 g).toList = memA (putX f g) s := memA_patch f g s (by omega)
section
variable {P : Program} {o : Oper} {a : Act} {K : Act → World → Prop} {Q : Exit → Act → World → Prop} {w0 u : World} {bs l1 l2 : List (Nat × TypeId × Array Value)} {g : Nat} {t : TypeId} {cs : Array Value}
theorem wp_store_mem {f : Nat → Int} {s : Bool} (H : Has w0 u (l1 ++ (g, t, memA f s) :: l2)) (ty : TypeId) (x y : Operand) (ho : o.op = .store ty x y) {i : Nat} {v : Int} (hx : a.eval x = .pointer (some ⟨g, i, none⟩)) (hy : a.eval y = .int .i64 v) (hs : scalarOf P ty = true) (hi : i < 101)
    (h : ∀ u', Has w0 u' (l1 ++ (g, t, memA (putI f i v) s) :: l2) → K (a.put o.dst undef) u') : o.wp P a u K Q := by
  refine wp_store_one H ty x y ho hx hy hs (by rw [memA_size]; omega) rfl fun u' H' => h u' ?_
  rw [memA_set f s v hi] at H'; exact H'
theorem wp_store_memB {f : Nat → Int} {s : Bool} (H : Has w0 u (l1 ++ (g, t, memA f s) :: l2)) (ty : TypeId) (x y : Operand) (ho : o.op = .store ty x y) {v : Bool} (hx : a.eval x = .pointer (some ⟨g, 101, none⟩)) (hy : a.eval y = .bool v) (hs : scalarOf P ty = true)
    (h : ∀ u', Has w0 u' (l1 ++ (g, t, memA f v) :: l2) → K (a.put o.dst undef) u') : o.wp P a u K Q := by
  refine wp_store_one H ty x y ho hx hy hs (by rw [memA_size]; omega) rfl fun u' H' => h u' ?_
  rw [memA_setB f s v] at H'; exact H'
theorem row_oneCell (n : Nat) (f : Nat → Int) : (row n f).all (·.oneCell') = true := by
  simp only [row, List.all_toArray, List.all_eq_true, List.mem_map, List.mem_range]
  rintro v ⟨i, _, rfl⟩
  rfl
theorem ones_load_part {ops : Array Oper} {quiet : List Nat} {rest : List Oper} (H : Has w0 u bs) (ty : TypeId) (x : Operand) (hk : kindOf quiet o = 2) (hg : Region.wanted o (yielded ops a.tmps) = true) (ho : o.op = .load ty x) {k n : Nat} {v : Array Value} (hx : a.eval x = .pointer (some ⟨g, k, none⟩)) (hm : (g, t, cs) ∈ bs) (ha : aggOf P ty n = true) (hkn : k + n ≤ cs.size) (hv : cs.extract k (k + n) = v)
    (h : Ones P ops quiet Q rest (a.put o.dst (.agg v)) u) : Ones P ops quiet Q (o :: rest) a u := by
  refine ones_here hk hg ?_ h
  unfold execOp
  simp only [ho, hx, Instr.loadAt, Instr.sureAddr, Sem.run_bind, Sem.run_pure, Result.andThen_ok, run_loadVar_part (H.at_ hm) ha hkn, hv]
theorem sq_load_part {ops : Array Oper} {kind : Nat → Nat} {i : Nat} {rst : List Nat} {bs0 : List (Nat × TypeId × Array Value)} (ty : TypeId) (x : Operand) (hoi : ops[i]? = some o) (hk : kind i = 1) (hg : Region.wanted o (yielded ops a.tmps) = true) (ho : o.op = .load ty x) {k n : Nat} {v : Array Value} (hx : a.eval x = .pointer (some ⟨g, k, none⟩)) (H : Has w0 u bs0) (hm : (g, t, cs) ∈ bs0) (ha : aggOf P ty n = true) (hkn : k + n ≤ cs.size) (hv : cs.extract k (k + n) = v)
    (h : Seq_ P ops (fun w' => Has w0 w' bs0) kind Q rst (a.put o.dst (.agg v)) u) : Seq_ P ops (fun w' => Has w0 w' bs0) kind Q (i :: rst) a u :=
  sq_held hoi hk hg H (fun w' H' => by
    unfold execOp
    simp only [ho, hx, Instr.loadAt, Instr.sureAddr, Sem.run_bind, Sem.run_pure, Result.andThen_ok, run_loadVar_part (H'.at_ hm) ha hkn, hv]) h
end
end Go.Proofs.YthddmgnjahmceaaDoor
