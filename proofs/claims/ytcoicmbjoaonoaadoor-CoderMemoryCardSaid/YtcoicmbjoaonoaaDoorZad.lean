/-
  Several texts of this claim, one behind the other: OpenT, Made, Slice, Spot, Lists, Lies. No statement is proved here.
-/
import Derived.Test.YtcoicmbjoaonoaaDoorZaa
import Derived.Test.YtcoicmbjoaonoaaDoorZac
import Derived.Laws.IdiomCopy
import Derived.Laws.MakeOwn
/-
  An argument that is a struct of integers, opened; a memory. No statement is proved here.
-/
namespace Go.Proofs.YtcoicmbjoaonoaaDoor
set_option linter.unusedVariables false
set_option linter.unusedSimpArgs false
open Go.ChangeShapes Go.WideShapes Go.ChangeAt Go.RowKit
section
variable {P : Program} {w : World} {r : Reach} {b : Nat}
theorem open_cells {t : TypeId} {v : Value} {ts : List TypeId} (ha : (match P.underlying t with | some (.struct _) | some (.array _ _) => true | _ => false) = true) (hts : P.cellTypes P.depth t = some ts) (hc : P.cellsOf t = ts.length) (hv : Value.okWide P w r b t v) :
    ∃ cs, v = .agg cs ∧ cs.size = ts.length ∧ ∀ (i : Nat) (u : TypeId), ts[i]? = some u → ∃ x, cs[i]? = some x ∧ Cell.okWide P w r b u x := by
  have hv' : ∃ cs, v = .agg cs ∧ cs.size = P.cellsOf t ∧ Row.okWide P w r b t cs := by
    unfold Value.okWide at hv
    split at hv
    · exact hv
    · exact hv
    · rename_i h1 h2
      exfalso
      split at ha
      · rename_i fs he; exact h1 fs he
      · rename_i n e he; exact h2 n e he
      · cases ha
  obtain ⟨cs, rfl, hs, ts', hts', _, hall⟩ := hv'
  obtain rfl : ts = ts' := Option.some.inj (hts.symm.trans hts')
  refine ⟨cs, rfl, hs.trans hc, fun i u hu => ?_⟩
  have hi : i < ts.length := (List.getElem?_eq_some_iff.1 hu).1
  have hx : cs[i]? = some (cs[i]'(by omega)) := Array.getElem?_eq_getElem (by omega)
  obtain ⟨u', hu', ho⟩ := hall i _ hx
  rw [Nat.mod_eq_of_lt hi, hu] at hu'
  obtain rfl := Option.some.inj hu'
  exact ⟨_, hx, ho⟩
theorem cell_int {u : TypeId} {x : Value} (hu : P.underlying u = some (.int .i64)) (h : Cell.okWide P w r b u x) : ∃ n, x = .int .i64 n :=
  okWide_int hu (by unfold Value.okWide; rw [hu]; exact h)
/-- A struct of integers alone. -/
theorem open_struct {t : TypeId} {v : Value} {n : Nat} {e : TypeId} (ha : (match P.underlying t with | some (.struct _) | some (.array _ _) => true | _ => false) = true) (hts : P.cellTypes P.depth t = some (List.replicate n e)) (hc : P.cellsOf t = n) (he : P.underlying e = some (.int .i64)) (hv : Value.okWide P w r b t v) :
    ∃ f : Nat → Int, v = .agg (row n f) := by
  obtain ⟨cs, rfl, hs, hall⟩ := open_cells ha hts (by rw [hc]; simp) hv
  have hat : ∀ i, i < n → ∃ a, cs[i]? = some (.int .i64 a) := fun i hi => by
    obtain ⟨x, hx, ho⟩ := hall i e (by rw [List.getElem?_replicate, if_pos hi])
    obtain ⟨a, rfl⟩ := cell_int he ho
    exact ⟨a, hx⟩
  classical
  refine ⟨fun i => if h : i < n then Classical.choose (hat i h) else 0, ?_⟩
  congr 1
  refine rowV_ext (by simpa using hs) fun i hi => ?_
  simp only [hi, dif_pos]
  exact Classical.choose_spec (hat i hi)
end
/-! ### A memory: 101 numbers and a truth -/
def memC (f : Nat → Int) (s : Bool) (i : Nat) : Value := if i = 101 then .bool s else .int .i64 (f i)
def memA (f : Nat → Int) (s : Bool) : Array Value := rowV 102 (memC f s)
theorem memA_size (f : Nat → Int) (s : Bool) : (memA f s).size = 102 := rowV_size _ _
theorem memA_get (f : Nat → Int) (s : Bool) {i : Nat} (h : i < 101) : (memA f s)[i]? = some (.int .i64 (f i)) := by
  unfold memA
  rw [rowV_get _ (by omega)]
  unfold memC
  rw [if_neg (by omega)]
theorem memA_bool (f : Nat → Int) (s : Bool) : (memA f s)[101]? = some (.bool s) := by
  unfold memA
  rw [rowV_get _ (by omega)]; rfl
theorem memA_part (f : Nat → Int) (s : Bool) {k n : Nat} (h : k + n ≤ 101) : (memA f s).extract k (k + n) = row n (fun i => f (k + i)) := by
  unfold memA
  rw [rowV_extract _ (by omega), row_rowV]
  refine rowV_congr fun i hi => ?_
  unfold memC
  rw [if_neg (by omega)]
theorem memA_set (f : Nat → Int) (s : Bool) {k : Nat} (v : Int) (h : k < 101) : (memA f s).setIfInBounds k (.int .i64 v) = memA (fun i => if i = k then v else f i) s := by
  unfold memA
  rw [rowV_set]
  refine rowV_congr fun i hi => ?_
  unfold memC
  by_cases e : i = k
  · simp only [if_pos e]
    rw [if_neg (by omega)]
  · simp only [if_neg e]
theorem memA_setB (f : Nat → Int) (s t : Bool) : (memA f s).setIfInBounds 101 (.bool t) = memA f t := by
  unfold memA
  rw [rowV_set]
  refine rowV_congr fun i hi => ?_
  unfold memC
  by_cases e : i = 101
  · rw [if_pos e, if_pos e]
  · rw [if_neg e, if_neg e, if_neg e]
theorem memA_patch (f g : Nat → Int) (s : Bool) {k n : Nat} (h : k + n ≤ 101) : patch (memA f s) k (row n g).toList = memA (fun i => if k ≤ i ∧ i < k + n then g (i - k) else f i) s := by
  unfold memA
  rw [row_rowV, rowV_patch _ _ (by omega)]
  refine rowV_congr fun i hi => ?_
  unfold memC
  by_cases e : k ≤ i ∧ i < k + n
  · simp only [if_pos e]
    rw [if_neg (by omega)]
  · simp only [if_neg e]
theorem memA_congr {f g : Nat → Int} (s : Bool) (h : ∀ i, i < 101 → f i = g i) : memA f s = memA g s := rowV_congr fun i hi => by
  unfold memC
  by_cases e : i = 101
  · rw [if_pos e, if_pos e]
  · rw [if_neg e, if_neg e, h i (by omega)]
theorem memA_one (f : Nat → Int) (s : Bool) : (memA f s).all (·.oneCell') = true := by
  unfold memA rowV
  simp only [List.all_toArray, List.all_eq_true, List.mem_map, List.mem_range]
  rintro v ⟨i, _, rfl⟩
  unfold memC
  split <;> rfl
/-- A memory that came in. -/
theorem open_memory {P : Program} {w : World} {r : Reach} {b : Nat} {t e eb : TypeId} {v : Value} (ha : (match P.underlying t with | some (.struct _) | some (.array _ _) => true | _ => false) = true) (hts : P.cellTypes P.depth t = some (List.replicate 101 e ++ [eb])) (hc : P.cellsOf t = 102) (he : P.underlying e = some (.int .i64)) (heb : P.underlying eb = some .bool) (hv : Value.okWide P w r b t v) :
    ∃ (f : Nat → Int) (s : Bool), v = .agg (memA f s) := by
  obtain ⟨cs, rfl, hs, hall⟩ := open_cells ha hts (by rw [hc, List.length_append, List.length_replicate]; rfl) hv
  have hat : ∀ i, i < 101 → ∃ a, cs[i]? = some (.int .i64 a) := fun i hi => by
    obtain ⟨x, hx, ho⟩ := hall i e (by rw [List.getElem?_append_left (by rw [List.length_replicate]; exact hi), List.getElem?_replicate, if_pos hi])
    obtain ⟨a, rfl⟩ := cell_int he ho
    exact ⟨a, hx⟩
  obtain ⟨x, hx, ho⟩ := hall 101 eb (by rw [List.getElem?_append_right (by rw [List.length_replicate]; exact Nat.le_refl _), List.length_replicate]; rfl)
  obtain ⟨s, rfl⟩ : ∃ s, x = .bool s := okWide_bool heb (by unfold Value.okWide; rw [heb]; exact ho)
  classical
  refine ⟨fun i => if h : i < 101 then Classical.choose (hat i h) else 0, s, ?_⟩
  congr 1
  refine rowV_ext (by rw [hs, List.length_append, List.length_replicate]; rfl) fun i hi => ?_
  unfold memC
  by_cases e1 : i = 101
  · rw [if_pos e1, e1]; exact hx
  · rw [if_neg e1]
    have hi1 : i < 101 := by omega
    simp only [hi1, dif_pos]
    exact Classical.choose_spec (hat i hi1)
theorem memA_refl (f : Nat → Int) (s : Bool) : (memA f s).extract 0 (0 + 8) = row 8 f := by
  rw [memA_part f s (by omega)]
  exact row_congr fun i _ => by rw [Nat.zero_add]
def pstM (f : Nat → Int) (i : Nat) : Int := f (8 + i)
def excM (f : Nat → Int) (i : Nat) : Int := f (16 + i)
theorem memA_past (f : Nat → Int) (s : Bool) : (memA f s).extract 8 (8 + 8) = row 8 (pstM f) := memA_part f s (by omega)
theorem memA_exc (f : Nat → Int) (s : Bool) : (memA f s).extract 16 (16 + 80) = row 80 (excM f) := memA_part f s (by omega)
def putR (f g : Nat → Int) (i : Nat) : Int := if i < 8 then g i else f i
def putP (f g : Nat → Int) (i : Nat) : Int := if 8 ≤ i ∧ i < 16 then g (i - 8) else f i
def putX (f g : Nat → Int) (i : Nat) : Int := if 16 ≤ i ∧ i < 96 then g (i - 16) else f i
def putI (f : Nat → Int) (k : Nat) (v : Int) (i : Nat) : Int := if i = k then v else f i
theorem memA_putR (f g : Nat → Int) (s : Bool) : patch (memA f s) 0 (row 8 g).toList = memA (putR f g) s := by
  rw [memA_patch f g s (by omega)]
  refine memA_congr s fun i _ => ?_
  unfold putR
  by_cases h : i < 8
  · simp [h]
  · simp [h]
theorem memA_putP (f g : Nat → Int) (s : Bool) : patch (memA f s) 8 (row 8 g).toList = memA (putP f g) s := memA_patch f g s (by omega)
theorem memA_putX (f g : Nat → Int) (s : Bool) : patch (memA f s) 16 (row 80 g).toList = memA (putX f g) s := memA_patch f g s (by omega)
section
variable {P : Program} {o : Oper} {a : Act} {K : Act → World → Prop} {Q : Exit → Act → World → Prop} {w0 u : World} {bs l1 l2 : List (Nat × TypeId × Array Value)} {g : Nat} {t : TypeId} {cs : Array Value}
theorem wp_store_mem {f : Nat → Int} {s : Bool} (H : Has w0 u (l1 ++ (g, t, memA f s) :: l2)) (ty : TypeId) (x y : Operand) (ho : o.op = .store ty x y) {i : Nat} {v : Int} (hx : a.eval x = .pointer (some ⟨g, i, none⟩)) (hy : a.eval y = .int .i64 v) (hs : scalarOf P ty = true) (hi : i < 101)
    (h : ∀ u', Has w0 u' (l1 ++ (g, t, memA (putI f i v) s) :: l2) → K (a.put o.dst undef) u') : o.wp P a u K Q := by
  refine wp_store_one H ty x y ho hx hy hs (by rw [memA_size]; omega) rfl fun u' H' => h u' ?_
  rw [memA_set f s v hi] at H'; exact H'
theorem wp_store_memB {f : Nat → Int} {s : Bool} (H : Has w0 u (l1 ++ (g, t, memA f s) :: l2)) (ty : TypeId) (x y : Operand) (ho : o.op = .store ty x y) {v : Bool} (hx : a.eval x = .pointer (some ⟨g, 101, none⟩)) (hy : a.eval y = .bool v) (hs : scalarOf P ty = true)
    (h : ∀ u', Has w0 u' (l1 ++ (g, t, memA f v) :: l2) → K (a.put o.dst undef) u') : o.wp P a u K Q := by
  refine wp_store_one H ty x y ho hx hy hs (by rw [memA_size]; omega) rfl fun u' H' => h u' ?_
  rw [memA_setB f s v] at H'; exact H'
theorem row_oneCell (n : Nat) (f : Nat → Int) : (row n f).all (·.oneCell') = true := by
  simp only [row, List.all_toArray, List.all_eq_true, List.mem_map, List.mem_range]
  rintro v ⟨i, _, rfl⟩
  rfl
theorem ones_load_part {ops : Array Oper} {quiet : List Nat} {rest : List Oper} (H : Has w0 u bs) (ty : TypeId) (x : Operand) (hk : kindOf quiet o = 2) (hg : Region.wanted o (yielded ops a.tmps) = true) (ho : o.op = .load ty x) {k n : Nat} {v : Array Value} (hx : a.eval x = .pointer (some ⟨g, k, none⟩)) (hm : (g, t, cs) ∈ bs) (ha : aggOf P ty n = true) (hkn : k + n ≤ cs.size) (hv : cs.extract k (k + n) = v)
    (h : Ones P ops quiet Q rest (a.put o.dst (.agg v)) u) : Ones P ops quiet Q (o :: rest) a u := by
  refine ones_here hk hg ?_ h
  unfold execOp
  simp only [ho, hx, Instr.loadAt, Instr.sureAddr, Sem.run_bind, Sem.run_pure, Result.andThen_ok, run_loadVar_part (H.at_ hm) ha hkn, hv]
theorem sq_load_part {ops : Array Oper} {kind : Nat → Nat} {i : Nat} {rst : List Nat} {bs0 : List (Nat × TypeId × Array Value)} (ty : TypeId) (x : Operand) (hoi : ops[i]? = some o) (hk : kind i = 1) (hg : Region.wanted o (yielded ops a.tmps) = true) (ho : o.op = .load ty x) {k n : Nat} {v : Array Value} (hx : a.eval x = .pointer (some ⟨g, k, none⟩)) (H : Has w0 u bs0) (hm : (g, t, cs) ∈ bs0) (ha : aggOf P ty n = true) (hkn : k + n ≤ cs.size) (hv : cs.extract k (k + n) = v)
    (h : Seq_ P ops (fun w' => Has w0 w' bs0) kind Q rst (a.put o.dst (.agg v)) u) : Seq_ P ops (fun w' => Has w0 w' bs0) kind Q (i :: rst) a u :=
  sq_held hoi hk hg H (fun w' H' => by
    unfold execOp
    simp only [ho, hx, Instr.loadAt, Instr.sureAddr, Sem.run_bind, Sem.run_pure, Result.andThen_ok, run_loadVar_part (H'.at_ hm) ha hkn, hv]) h
end
end Go.Proofs.YtcoicmbjoaonoaaDoor
/-
  A slice literal: a law at one operation. No statement is proved here.
-/
namespace Go.Proofs.YtcoicmbjoaonoaaDoor
set_option linter.unusedVariables false
set_option linter.unusedSimpArgs false
open Go.RowKit
set_option maxRecDepth 100000
section
variable {P : Program} {o : Oper} {a : Act} {K : Act → World → Prop} {Q : Exit → Act → World → Prop} {w0 u : World} {bs : List (Nat × TypeId × Array Value)}
theorem wp_made (H : Has w0 u bs) {elem : TypeId} {n : Nat} {cs : Array Value} (hx : (execOp a.eval o).run P u = .ok (.value (.slice (some ⟨u.heap.size, 0, none⟩) n n)) (u.alloc (.cells cs elem)))
    (h : ∀ u' g, Has w0 u' ((g, elem, cs) :: bs) → K (a.put o.dst (.slice (some ⟨g, 0, none⟩) n n)) u') : o.wp P a u K Q := by
  have := h _ _ (H.new elem cs)
  unfold Oper.wp
  simp only [hx]
  exact this
end
end Go.Proofs.YtcoicmbjoaonoaaDoor
/-
  Slices of integers: how they read, and copies. Laws at single operations. No statement is proved here.
-/
namespace Go.Proofs.YtcoicmbjoaonoaaDoor
set_option linter.unusedVariables false
set_option linter.unusedSimpArgs false
open Go.RowKit
set_option maxRecDepth 100000
/-- A slice of n integers that lies at b, o (where it has any). -/
structure Reads (w : World) (p : Option Addr) (n b o : Nat) (f : Nat → Int) : Prop where
  ptr : 0 < n → p = some ⟨b, o, none⟩
  cell : ∀ i, i < n → w.cell? ⟨b, o + i, none⟩ = some (.int .i64 (f i))
theorem Reads.nilS (w : World) (f : Nat → Int) : Reads w none 0 0 0 f := ⟨fun h => by omega, fun i hi => by omega⟩
/-- A slice of n integers at whatever address. -/
structure ReadsA (w : World) (p : Option Addr) (n : Nat) (ad : Addr) (f : Nat → Int) : Prop where
  ptr : 0 < n → p = some ad
  cell : ∀ i, i < n → w.cell? (ad.add i) = some (.int .i64 (f i))
section
variable {P : Program} {o : Oper} {a : Act} {K : Act → World → Prop} {Q : Exit → Act → World → Prop} {w0 u : World} {bs l1 l2 : List (Nat × TypeId × Array Value)} {g : Nat} {t : TypeId} {cs : Array Value}
theorem Reads.has {p : Option Addr} {n b k : Nat} {f : Nat → Int} (h : Reads w0 p n b k f) (H : Has w0 u bs) : Reads u p n b k f := ⟨h.ptr, fun i hi => H.old_cell (h.cell i hi)⟩
theorem Reads.below {p : Option Addr} {n b k : Nat} {f : Nat → Int} (h : Reads w0 p n b k f) (hb : Below w0.heap.size w0 u) : Reads u p n b k f := ⟨h.ptr, fun i hi => by rw [← h.cell i hi]; exact hb.cell (block_lt_of_cell (h.cell i hi))⟩
theorem Reads.congr {p : Option Addr} {n b k : Nat} {f f' : Nat → Int} (h : Reads u p n b k f) (e : ∀ i, i < n → f i = f' i) : Reads u p n b k f' := ⟨h.ptr, fun i hi => by rw [← e i hi]; exact h.cell i hi⟩
theorem Reads.ofRow {n m : Nat} {f : Nat → Int} (H : Has w0 u bs) (hm : (g, t, row m f) ∈ bs) (h : n ≤ m) : Reads u (some ⟨g, 0, none⟩) n g 0 f :=
  ⟨fun _ => rfl, fun i hi => by rw [Nat.zero_add, (H.at_ hm).cell, row_get f (by omega)]⟩
theorem Reads.part {n m k : Nat} {f : Nat → Int} (H : Has w0 u bs) (hm : (g, t, row m f) ∈ bs) (h : k + n ≤ m) : Reads u (some ⟨g, k, none⟩) n g k (fun i => f (k + i)) :=
  ⟨fun _ => rfl, fun i hi => by rw [(H.at_ hm).cell, row_get f (by omega)]⟩
/-- A slice made by appends reads. -/
theorem Rowed.reads {e : TypeId} {v : Value} {n : Nat} {f : Nat → Int} {tl : List (Nat × TypeId × Array Value)} (R : Rowed e 1 v n (fun i => .int .i64 (f i)) tl) (H : Has w0 u (bs ++ tl)) :
    ∃ p cap b, v = .slice p n cap ∧ n ≤ cap ∧ Reads u p n b 0 f ∧ (n = 0 ∨ ∃ cs, tl = [(b, e, cs)] ∧ p = some ⟨b, 0, none⟩) := by
  rcases R with ⟨rfl, rfl, rfl⟩ | ⟨g, cap, cs, rfl, rfl, h1, h2, h3, h4⟩
  · exact ⟨none, 0, 0, rfl, Nat.le_refl _, Reads.nilS u f, .inl rfl⟩
  · refine ⟨some ⟨g, 0, none⟩, cap, g, rfl, h1, ⟨fun _ => rfl, fun i hi => ?_⟩, .inr ⟨cs, rfl, rfl⟩⟩
    rw [Nat.zero_add, (H.at_ (g := g) (t := e) (cs := cs) (by simp)).cell]
    exact h4 i (by omega)
/-- A slice made by appends, where it has any element. -/
theorem Rowed.some_ {e : TypeId} {s : Nat} {v : Value} {n : Nat} {f : Nat → Value} {tl : List (Nat × TypeId × Array Value)} (R : Rowed e s v n f tl) (hn : 0 < n) :
    ∃ g cap cs, v = .slice (some ⟨g, 0, none⟩) n cap ∧ tl = [(g, e, cs)] ∧ n ≤ cap ∧ cs.size = cap * s ∧ ∀ i, i < n * s → cs[i]? = some (f i) := by
  rcases R with ⟨_, h, _⟩ | ⟨g, cap, cs, h1, h2, h3, h4, h5, h6⟩
  · omega
  · exact ⟨g, cap, cs, h1, h2, h3, h5, h6⟩
theorem Rowed.shape {e : TypeId} {s : Nat} {v : Value} {n : Nat} {f : Nat → Value} {tl : List (Nat × TypeId × Array Value)} (R : Rowed e s v n f tl) : ∃ p cap, v = .slice p n cap ∧ n ≤ cap := by
  rcases R with ⟨rfl, rfl, rfl⟩ | ⟨g, cap, cs, rfl, _, h3, _⟩
  · exact ⟨none, 0, rfl, Nat.le_refl _⟩
  · exact ⟨_, cap, rfl, h3⟩
/-- It reads so now. -/
theorem Rowed.now {e : TypeId} {p : Option Addr} {n m cap : Nat} {f : Nat → Int} {tl bs' : List (Nat × TypeId × Array Value)} (R : Rowed e 1 (.slice p n cap) m (fun i => .int .i64 (f i)) tl) (H : Has w0 u bs') (hs : tl.Sublist bs') :
    m = n ∧ ∃ b, Reads u p n b 0 f := by
  rcases R with ⟨h0, h1, rfl⟩ | ⟨g, cap', cs, h0, rfl, h1, h2, h3, h4⟩
  · injection h0 with e1 e2 e3
    subst e1 e2 e3
    exact ⟨h1, 0, Reads.nilS u f⟩
  · injection h0 with e1 e2 e3
    subst e1 e2 e3
    refine ⟨rfl, g, ⟨fun _ => rfl, fun i hi => ?_⟩⟩
    rw [Nat.zero_add, ((H.sub hs).at_ (g := g) (t := e) (cs := cs) (by simp)).cell]
    exact h4 i (by omega)
theorem Reads.ofCells {n : Nat} {f : Nat → Int} (H : Has w0 u bs) (hm : (g, t, cs) ∈ bs) (h : ∀ i, i < n → cs[i]? = some (.int .i64 (f i))) : Reads u (some ⟨g, 0, none⟩) n g 0 f :=
  ⟨fun _ => rfl, fun i hi => by rw [Nat.zero_add, (H.at_ hm).cell]; exact h i hi⟩
theorem Rowed.congr {e : TypeId} {s : Nat} {v : Value} {n : Nat} {f f' : Nat → Value} {tl : List (Nat × TypeId × Array Value)} (R : Rowed e s v n f tl) (h : ∀ i, i < n * s → f i = f' i) : Rowed e s v n f' tl := by
  rcases R with hn | ⟨g, cap, cs, h0, h1, h2, h3, h4, h5⟩
  · exact .inl hn
  · exact .inr ⟨g, cap, cs, h0, h1, h2, h3, h4, fun i hi => by rw [← h i hi]; exact h5 i hi⟩
/-- One number more. -/
theorem Rowed.snoc {e : TypeId} {v : Value} {n : Nat} {f : Nat → Int} {y : Int} {tl : List (Nat × TypeId × Array Value)} (R : Rowed e 1 v (n + 1) (glue (n * 1) (fun i => .int .i64 (f i)) (fun _ => .int .i64 y)) tl) (h : f n = y) :
    Rowed e 1 v (n + 1) (fun i => .int .i64 (f i)) tl := R.congr fun i hi => by
  unfold glue
  by_cases hn : i < n * 1
  · rw [if_pos hn]
  · obtain rfl : i = n := by omega
    rw [if_neg hn, h]
/-- A number of such a slice, read. -/
theorem wp_load_num {p : Option Addr} {n b k : Nat} {f : Nat → Int} (R : Reads u p n b k f) (ty : TypeId) (x : Operand) (ho : o.op = .load ty x) {i : Nat} (hx : a.eval x = .pointer (some ⟨b, k + i, none⟩)) (hs : scalarOf P ty = true) (hi : i < n)
    (h : K (a.put o.dst (.int .i64 (f i))) u) : o.wp P a u K Q := by
  have hc := R.cell i hi
  unfold Oper.wp execOp
  simp only [ho, hx, Instr.loadAt, Instr.sureAddr, Sem.run_bind, Sem.run_pure, Result.andThen_ok, run_loadVar_one hs hc]
  exact h
theorem ReadsA.has {p : Option Addr} {n : Nat} {ad : Addr} {f : Nat → Int} (h : ReadsA w0 p n ad f) (H : Has w0 u bs) : ReadsA u p n ad f := ⟨h.ptr, fun i hi => H.old_cell (h.cell i hi)⟩
theorem ReadsA.below {p : Option Addr} {n : Nat} {ad : Addr} {f : Nat → Int} (h : ReadsA w0 p n ad f) (hb : Below w0.heap.size w0 u) : ReadsA u p n ad f := ⟨h.ptr, fun i hi => by rw [← h.cell i hi]; exact hb.cell (block_lt_of_cell (h.cell i hi))⟩
theorem Reads.toA {p : Option Addr} {n b k : Nat} {f : Nat → Int} (h : Reads u p n b k f) : ReadsA u p n ⟨b, k, none⟩ f := ⟨h.ptr, fun i hi => by rw [Addr.add_mid]; exact h.cell i hi⟩
theorem wp_load_numA {p : Option Addr} {n : Nat} {ad : Addr} {f : Nat → Int} (R : ReadsA u p n ad f) (ty : TypeId) (x : Operand) (ho : o.op = .load ty x) {i : Nat} (hx : a.eval x = .pointer (some (ad.add i))) (hs : scalarOf P ty = true) (hi : i < n)
    (h : K (a.put o.dst (.int .i64 (f i))) u) : o.wp P a u K Q := by
  have hc := R.cell i hi
  unfold Oper.wp execOp
  simp only [ho, hx, Instr.loadAt, Instr.sureAddr, Sem.run_bind, Sem.run_pure, Result.andThen_ok, run_loadVar_one hs hc]
  exact h
theorem ones_load_num {ops : Array Oper} {quiet : List Nat} {rest : List Oper} {p : Option Addr} {n b k : Nat} {f : Nat → Int} (R : Reads u p n b k f) (ty : TypeId) (x : Operand) (hk : kindOf quiet o = 2) (hg : Region.wanted o (yielded ops a.tmps) = true) (ho : o.op = .load ty x) {i : Nat} (hx : a.eval x = .pointer (some ⟨b, k + i, none⟩)) (hs : scalarOf P ty = true) (hi : i < n)
    (h : Ones P ops quiet Q rest (a.put o.dst (.int .i64 (f i))) u) : Ones P ops quiet Q (o :: rest) a u := by
  have hc := R.cell i hi
  refine ones_here hk hg ?_ h
  unfold execOp
  simp only [ho, hx, Instr.loadAt, Instr.sureAddr, Sem.run_bind, Sem.run_pure, Result.andThen_ok, run_loadVar_one hs hc]
theorem ones_eff_run {ops : Array Oper} {quiet : List Nat} {rest : List Oper} {v : Value} (hk : kindOf quiet o = 4) (hg : Region.wanted o (yielded ops a.tmps) = true)
    (hr : (execOp a.eval o).run P u = .ok (.value v) u) (h : Ones P ops quiet Q rest (a.put o.dst v) u) : Ones P ops quiet Q (o :: rest) a u :=
  ones_eff hk hg fun K hK => by unfold Oper.wp; rw [hr]; exact hK _ _ h
theorem row_cellsL (n : Nat) (f : Nat → Int) : (row n f).toList = cellsL n (fun i => .int .i64 (f i)) := by simp [row, cellsL]
theorem row_patchL {n k m : Nat} (f g : Nat → Int) (h : k + m ≤ n) : patch (row n f) k (cellsL m fun i => .int .i64 (g i)) = row n (fun i => if k ≤ i ∧ i < k + m then g (i - k) else f i) := by
  rw [← row_cellsL, row_patch f g h]
theorem madeCells_int (n : Nat) : madeCells #[Value.int .i64 0] n = row n (fun _ => 0) := by
  unfold madeCells row
  apply Array.ext
  · simp
  · intro i h1 h2
    simp [Nat.mod_one]
/-- A slice of noughts. -/
theorem wp_make_has (H : Has w0 u bs) {t_ e : TypeId} (x y : Operand) (ho : o.op = .makeSlice t_ x y) (n : Int) (k1 k2 : IntKind) (hx : a.eval x = .int k1 n) (hy : a.eval y = .int k2 n) (ht : sliceOf P t_ e 1 8 = true) (hz : (P.info? e).bind (·.zero) = some (.int .i64 0)) (h0 : 0 ≤ n) (hn : n ≤ 17592186044416)
    (h : ∀ u' g, Has w0 u' ((g, e, row n.toNat fun _ => 0) :: bs) → K (a.put o.dst (.slice (some ⟨g, 0, none⟩) n.toNat n.toNat)) u') : o.wp P a u K Q := by
  obtain ⟨hu, i, z, hi, hs, _, hb, hz1, _⟩ := sliceOf_parts ht
  have hzz : z = .int .i64 0 := by
    rw [hi] at hz
    simp only [Option.bind_some, hz1] at hz
    exact Option.some.inj hz
  subst hzz
  have hbn : (i.bytes : Int) * n ≤ 281474976710656 := by
    have := Int.mul_le_mul_of_nonneg_right (show (i.bytes : Int) ≤ 8 by omega) h0
    omega
  have hr := run_make (P := P) u t_ e i (.int .i64 0) hu hi hz1 k1 k2 n n h0 (Int.le_refl _) hbn (by omega)
  rw [hs, Nat.mul_one, show (Value.int IntKind.i64 0).cells = #[Value.int .i64 0] from rfl, madeCells_int] at hr
  unfold Oper.wp execOp
  simp only [ho, hx, hy, Sem.run_bind, hr, Result.andThen_ok, Sem.run_pure]
  exact h _ _ (H.new e _)
/-- Numbers copied into a block of the call's own. -/
theorem wp_copy_has (H : Has w0 u (l1 ++ (g, t, cs) :: l2)) (x y : Operand) (dT sT e : TypeId) (ho : o.op = .call { callee := .builtin .copy, args := #[x, y], argTypes := #[dT, sT] })
    {k dLen dCap sLen sCap m : Nat} {ad : Addr} {nw : Nat → Int} {cs' : Array Value} (hx : a.eval x = .slice (some ⟨g, k, none⟩) dLen dCap) (hy : a.eval y = .slice (some ad) sLen sCap) (hd : sliceOf P dT e 1 8 = true) (hm : Nat.min sLen dLen = m)
    (hsrc : ∀ j, j < m → u.cell? (ad.add j) = some (.int .i64 (nw j))) (hk : k + m ≤ cs.size) (hp : patch cs k (cellsL m fun i => .int .i64 (nw i)) = cs')
    (h : ∀ u', Has w0 u' (l1 ++ (g, t, cs') :: l2) → K (a.put o.dst (goInt m)) u') : o.wp P a u K Q := by
  obtain ⟨hu, i, z, hi, hs, _⟩ := sliceOf_parts hd
  have hA := H.at_ (g := g) (t := t) (cs := cs) (by simp)
  have hr := run_copy_cells (P := P) u dT sT o.type e g k dLen dCap ad sLen sCap (cellsL m fun i => .int .i64 (nw i)) hu (by rw [hi]; simp [hs]) (by rw [cellsL_length, hm])
    (fun j v hv => by obtain ⟨hj, rfl⟩ := cellsL_some hv; exact hsrc j hj)
    (fun j hj => by rw [cellsL_length] at hj; rw [hA.cell, Array.getElem?_eq_getElem (by omega)]; rfl) (fun j _ => hA.frozen _)
    (fun v hv => by
      simp only [cellsL, List.mem_map, List.mem_range] at hv
      obtain ⟨j, _, rfl⟩ := hv
      rfl)
  rw [cellsL_length] at hr
  subst hp
  unfold Oper.wp execOp
  simp only [ho, resolve, invoke, builtin, Sem.run_bind, Sem.run_pure, Result.andThen_ok, List.map_toArray, List.map_cons, List.map_nil, hx, hy, hr]
  exact h _ (H.setCells _ _ _ _)
end
end Go.Proofs.YtcoicmbjoaonoaaDoor
namespace Go.Proofs.YtcoicmbjoaonoaaDoor
set_option linter.unusedVariables false
set_option linter.unusedSimpArgs false
open Go.RowKit
set_option maxRecDepth 100000

theorem tmod_up (v n : Int) (hn : 0 < n) (h : v.tmod n < 0) : v.tmod n + n = v % n := by
  rw [Int.tmod_eq_emod] at h ⊢
  have h1 := Int.emod_nonneg v (show n ≠ 0 by omega)
  have h2 := Int.emod_lt_of_pos v hn
  split at h <;> split <;> omega
theorem tmod_still (v n : Int) (hn : 0 < n) (h : ¬ v.tmod n < 0) : v.tmod n = v % n := by
  rw [Int.tmod_eq_emod] at h ⊢
  have h1 := Int.emod_nonneg v (show n ≠ 0 by omega)
  have h2 := Int.emod_lt_of_pos v hn
  split at h <;> split <;> omega

/-- spot: the remainder that is not below 0. -/
theorem spot_any (v n : Int) (w : World) (hn : 0 < n) (hn' : n ≤ 4611686018427387904) :
    Calls Tryd.prog 53 #[.int .i64 v, .int .i64 n] w fun e w' => e = .returned (.int .i64 (v % n)) ∧ w = w' := by
  have h1 := Int.emod_nonneg v (show n ≠ 0 by omega)
  have h2 := Int.emod_lt_of_pos v hn
  have h0 : ¬ n = 0 := by omega
  have hb : -n < v.tmod n ∧ v.tmod n < n := by
    rw [Int.tmod_eq_emod]
    split <;> omega
  by_cases h : v.tmod n < 0
  · have e := tmod_up v n hn h
    go_enter Tryd.func53, Tryd.ntmps53
    go_wp2
    go_ret
    exact ⟨rfl, rfl⟩
  · have e := tmod_still v n hn h
    go_enter Tryd.func53, Tryd.ntmps53
    go_wp2
    go_ret
    exact ⟨rfl, rfl⟩
end Go.Proofs.YtcoicmbjoaonoaaDoor
/-
  Small functions of the statements on lists: same, lists, s16. No statement is proved here.
-/
namespace Go.Proofs.YtcoicmbjoaonoaaDoor
set_option linter.unusedVariables false
set_option linter.unusedSimpArgs false
open Go.RowKit
set_option maxRecDepth 100000
def s16I (v : Int) : Int := v % 65536 - 32768
theorem s16I_bd (v : Int) : -32768 ≤ s16I v ∧ s16I v ≤ 32767 := by unfold s16I; omega
theorem s16I_any (v : Int) (w : World) : Calls Tryd.prog 58 #[.int .i64 v] w fun e w' => e = .returned (.int .i64 (s16I v)) ∧ w = w' := by
  have h1 := Int.emod_nonneg v (show (65536 : Int) ≠ 0 by omega)
  have h2 := Int.emod_lt_of_pos v (show (0 : Int) < 65536 by omega)
  go_enter Tryd.func58, Tryd.ntmps58
  go_wp2_with (go_at_call 53; (with_reducible refine (spot_any _ _ _ (by omega) (by omega)).mono ?_); rintro e w1 ⟨rfl, rfl⟩)
  go_ret
  exact ⟨rfl, rfl⟩
set_option maxHeartbeats 1600000 in
theorem same_yes (P P' : Option Addr) (n cap b o cap' b' o' : Nat) (f : Nat → Int) (w : World) (hn : n ≤ 9223372036854775807) (hR1 : Reads w P n b o f) (hR2 : Reads w P' n b' o' f) :
    Calls Tryd.prog 26 #[.slice P n cap, .slice P' n cap'] w fun e w' => e = .returned (.bool true) ∧ Below w.heap.size w w' := by
  have H := Has.start w
  go_enter Tryd.func26, Tryd.ntmps26
  go_wp2
  go_loopw [5] (fun c wr => ∃ k : Nat, k ≤ n ∧ c = .int .i64 k ∧ Has w wr []) (fun c _ => n - (intOf c).toNat)
  case atStart => exact ⟨0, by omega, rfl, H⟩
  clear H
  case round =>
    obtain ⟨k, hk, rfl, H⟩ := hrel
    by_cases hlt : k < n
    · obtain rfl := hR1.ptr (by omega)
      obtain rfl := hR2.ptr (by omega)
      have s6 : (0 : Int) ≤ (k : Int) := by omega
      have s5 : (k : Int) < (n : Int) := by omega
      go_wp2_with fail
      refine wp_region_text [] (by kernel_rfl) (by kernel_rfl) (by kernel_rfl) ?_; replace H := H.drew; generalize World.drew _ = u at *
      have R1 := Reads.has hR1 H
      have R2 := Reads.has hR2 H
      repeat (first | (refine ones_load_num R1 (o := ⟨_, .load 3 _, _, _, _, _⟩) 3 _ rfl rfl rfl rfl (by kernel_rfl) hlt ?_; simp only [Act.put, List.setIfInBounds_toArray, List.set_cons_zero, List.set_cons_succ]) | (refine ones_load_num R2 (o := ⟨_, .load 3 _, _, _, _, _⟩) 3 _ rfl rfl rfl rfl (by kernel_rfl) hlt ?_; simp only [Act.put, List.setIfInBounds_toArray, List.set_cons_zero, List.set_cons_succ]) | (refine ones_free (v := ?_) rfl rfl ?_ ?_; rotate_left; (intro w'; go_simp; try with_reducible rfl); simp only [Act.put, List.setIfInBounds_toArray, List.set_cons_zero, List.set_cons_succ]))
      refine ones_nil ?_
      go_wp2
      go_roundw
      case rel => exact ⟨k + 1, by omega, by go_num, H⟩
      case measure => simp [intOf]; omega
    · go_wp2
      go_ret
      exact ⟨rfl, H.below⟩
/-- So many numbers of 16 bits. -/
def listF (n : Nat) (f : Nat → Int) (i : Nat) : Int := if i < n then s16I (f i) else 0
theorem listF_bd (n : Nat) (f : Nat → Int) (i : Nat) : -32768 ≤ listF n f i ∧ listF n f i ≤ 32767 := by
  unfold listF
  split
  · exact s16I_bd _
  · omega
def ListPost (n : Nat) (f : Nat → Int) (m : Int) (w : World) (e : Ending) (w' : World) : Prop := ∃ g, e = .returned (.slice (some ⟨g, 0, none⟩) m.toNat m.toNat) ∧ Has w w' [(g, 3, row m.toNat (listF n f))]
set_option maxHeartbeats 1600000 in
theorem lists_any (P : Option Addr) (n cap : Nat) (ad : Addr) (f : Nat → Int) (m : Int) (w : World) (hn : n ≤ 9223372036854775807) (hm0 : 0 ≤ m) (hm : m ≤ 100000) (hR : ReadsA w P n ad f) :
    Calls Tryd.prog 27 #[.slice P n cap, .int .i64 m] w (ListPost n f m w) := by
  have H := Has.start w
  go_enter Tryd.func27, Tryd.ntmps27
  go_wp2_with ((refine wpList_on (o := ⟨some 8, .makeSlice _ _ _, _, _, _, _⟩) rfl (fun K hK => ?_)); refine wp_make_has (t_ := 35) (e := 3) H _ _ rfl m .i64 .i64 rfl rfl ?_ ?_ ?_ ?_ ?_; (kernel_rfl); (kernel_rfl); (omega); (omega); (clear H; intro u g H; refine hK _ _ ?_; clear hK K; try simp only [Value.cells, List.cons_append, List.nil_append] at H))
  go_loopw [6] (fun c wr => ∃ k : Nat, (k : Int) ≤ m ∧ k ≤ n ∧ c = .int .i64 k ∧ Has w wr [(g, 3, row m.toNat fun i => if i < k then s16I (f i) else 0)]) (fun c _ => (m - intOf c).toNat)
  case atStart => exact ⟨0, by omega, by omega, rfl, by
    have e : (fun i : Nat => if i < 0 then s16I (f i) else 0) = fun _ => 0 := by funext i; simp
    rw [e]; exact H⟩
  clear H
  case round =>
    obtain ⟨k, hkm, hkn, rfl, H⟩ := hrel
    have R := ReadsA.has hR H
    by_cases h1 : (k : Int) < m
    · by_cases hlt : k < n
      · obtain rfl := R.ptr (by omega)
        have d1 := lt_yes h1
        have s7 : k < m.toNat := by omega
        have s8 : (k : Int) < (m.toNat : Int) := by omega
        have HE : Hid ((fun i => if i < k + 1 then s16I (f i) else 0) = fun j => if j = k then s16I (f k) else if j < k then s16I (f j) else 0) := by
          show (fun i => if i < k + 1 then s16I (f i) else 0) = _
          funext i
          by_cases e : i = k
          · subst e; simp
          · have : i < k + 1 ↔ i < k := by omega
            simp [e, this]
        go_wp2_with (first | ((refine wpList_on (o := ⟨_, .load 3 _, _, _, _, _⟩) rfl (fun K hK => ?_)); refine wp_load_numA R 3 _ rfl rfl (by kernel_rfl) hlt ?_; refine hK _ _ ?_; clear hK K) | (go_at_call 58; (with_reducible refine (s16I_any _ _).mono ?_); rintro e w1 ⟨rfl, rfl⟩) | ((refine wpList_on (o := ⟨_, .store 3 _ _, _, _, _, _⟩) rfl (fun K hK => ?_)); (try simp only [Act.put, List.setIfInBounds_toArray, List.set_cons_zero, List.set_cons_succ]); refine wp_store_row_ (l1 := []) H 3 _ _ rfl rfl rfl (by kernel_rfl) (by omega) ?_; clear H; intro u H; refine hK _ _ ?_; clear hK K; try simp only [Value.cells, List.cons_append, List.nil_append] at H))
        go_roundw
        case rel => exact ⟨k + 1, by omega, by omega, by go_num, by rw [HE.out]; exact H⟩
        case measure => simp [intOf]; omega
      · have d1 := lt_yes h1
        have d2 : decide (k < n) = false := by simp; omega
        have HE : Hid (row m.toNat (fun i => if i < k then s16I (f i) else 0) = row m.toNat (listF n f)) := row_congr fun i hi => by
          unfold listF
          rw [show k = n by omega]
        go_wp2
        go_ret
        exact ⟨g, rfl, by rw [← HE.out]; exact H⟩
    · have d1 := lt_no (show m ≤ (k : Int) by omega)
      have HE : Hid (row m.toNat (fun i => if i < k then s16I (f i) else 0) = row m.toNat (listF n f)) := row_congr fun i hi => by
        unfold listF
        rw [if_pos (by omega), if_pos (by omega)]
      go_wp2
      go_ret
      exact ⟨g, rfl, by rw [← HE.out]; exact H⟩
def pastI (p : Nat → Int) (i : Nat) : Int := s16I (p i)
set_option maxHeartbeats 1600000 in
theorem past_any (p : Nat → Int) (w : World) :
    Calls Tryd.prog 56 #[.agg (row 8 p)] w fun e w' => e = .returned (.agg (row 8 (pastI p))) ∧ Below w.heap.size w w' := by
  have H := Has.start w
  go_enter Tryd.func56, Tryd.ntmps56
  go_wp2_with (first | ((refine wpList_on (o := ⟨_, .box _ (.tmp 0), _, _, _, _⟩) rfl (fun K hK => ?_)); (try simp only [Act.put, List.setIfInBounds_toArray, List.set_cons_zero, List.set_cons_succ]); refine wp_box H _ (.tmp 0) rfl (v := .agg _) rfl ?_; clear H; intro u gp H; refine hK _ _ ?_; clear hK K; try simp only [Value.cells, List.cons_append, List.nil_append] at H) | (refine wpList_on (o := ⟨some 2, .alloc 26, _, _, _, _⟩) rfl (fun K hK => ?_); refine wp_alloc H 26 rfl (z := (.agg (row 8 fun _ => 0))) (by kernel_rfl) ?_; clear H; intro u gr H; refine hK _ _ ?_; clear hK K; try simp only [Value.cells, List.cons_append, List.nil_append] at H))
  go_loopw [4] (fun c wr => ∃ k : Nat, k ≤ 8 ∧ c = .int .i64 k ∧ Has w wr [(gr, 26, row 8 fun _ => 0), (gp, 26, row 8 fun i => if i < k then s16I (p i) else p i)]) (fun c _ => 8 - (intOf c).toNat)
  case atStart => exact ⟨0, by omega, rfl, H⟩
  clear H
  case round =>
    obtain ⟨k, hk, rfl, H⟩ := hrel
    by_cases hlt : k < 8
    · have HE : Hid ((fun i => if i < k + 1 then s16I (p i) else p i) = fun j => if j = k then s16I (p k) else if j < k then s16I (p j) else p j) := by
        show (fun i => if i < k + 1 then s16I (p i) else p i) = _
        funext i
        by_cases e : i = k
        · subst e; simp
        · have : i < k + 1 ↔ i < k := by omega
          simp [e, this]
      have e0 : (if k < k then s16I (p k) else p k) = p k := by simp
      go_wp2_with (first | ((refine wpList_on (o := ⟨_, .load 3 _, _, _, _, _⟩) rfl (fun K hK => ?_)); (try simp only [Act.put, List.setIfInBounds_toArray, List.set_cons_zero, List.set_cons_succ]); refine wp_load_one H 3 _ rfl rfl (by repeat (first | exact List.mem_cons_self | apply List.mem_cons_of_mem | apply List.mem_append_right)) (by kernel_rfl) (row_get _ (by omega)) ?_; refine hK _ _ ?_; clear hK K) | (go_at_call 58; (with_reducible refine (s16I_any _ _).mono ?_); rintro e w1 ⟨rfl, rfl⟩) | ((refine wpList_on (o := ⟨_, .store 3 _ _, _, _, _, _⟩) rfl (fun K hK => ?_)); (try simp only [Act.put, List.setIfInBounds_toArray, List.set_cons_zero, List.set_cons_succ]); refine wp_store_row_ (l1 := [_]) H 3 _ _ rfl rfl rfl (by kernel_rfl) (by omega) ?_; clear H; intro u H; refine hK _ _ ?_; clear hK K; try simp only [Value.cells, List.cons_append, List.nil_append] at H))
      go_roundw
      case rel => exact ⟨k + 1, by omega, by go_num, by rw [HE.out]; simpa using H⟩
      case measure => simp [intOf]; omega
    · obtain rfl : k = 8 := by omega
      have HE : Hid (row 8 (fun i => if i < 8 then s16I (p i) else p i) = row 8 (pastI p)) := row_congr fun i hi => if_pos hi
      go_wp2_with (first | ((refine wpList_on (o := ⟨_, .load 26 _, _, _, _, _⟩) rfl (fun K hK => ?_)); (try simp only [Act.put, List.setIfInBounds_toArray, List.set_cons_zero, List.set_cons_succ]); refine wp_load_all H 26 _ rfl rfl (by repeat (first | exact List.mem_cons_self | apply List.mem_cons_of_mem | apply List.mem_append_right)) (by kernel_rfl) ?_; refine hK _ _ ?_; clear hK K) | ((refine wpList_on (o := ⟨_, .store 26 _ _, _, _, _, _⟩) rfl (fun K hK => ?_)); (try simp only [Act.put, List.setIfInBounds_toArray, List.set_cons_zero, List.set_cons_succ]); refine wp_store_all (l1 := []) H 26 _ _ rfl rfl rfl (by kernel_rfl) (by simp [row_size]) (row_one _ _) ?_; clear H; intro u H; refine hK _ _ ?_; clear hK K; try simp only [Value.cells, List.cons_append, List.nil_append] at H))
      refine bodyPost_ret (results_one rfl _ H rfl (by repeat (first | exact List.mem_cons_self | apply List.mem_cons_of_mem | apply List.mem_append_right)) (by kernel_rfl)) rfl ⟨by rw [HE.out], H.below⟩
end Go.Proofs.YtcoicmbjoaonoaaDoor
/-
  A value is a slice that reads so: what slices lead to, wherever they lie. No statement is proved here.
-/
namespace Go.Proofs.YtcoicmbjoaonoaaDoor
set_option linter.unusedVariables false
set_option linter.unusedSimpArgs false
open Go.RowKit
set_option maxRecDepth 100000
/-- A value is a slice of n numbers that read f. -/
def Lies (u : World) (v : Value) (n : Nat) (f : Nat → Int) : Prop := ∃ p cap b o, v = .slice p n cap ∧ Reads u p n b o f
theorem Rowed.lies {w u : World} {v : Value} {e : TypeId} {n : Nat} {f : Nat → Int} {tl bs : List (Nat × TypeId × Array Value)} (RO : Rowed e 1 v n (fun i => .int .i64 (f i)) tl) (H : Has w u bs) (hs : tl.Sublist bs) : Lies u v n f := by
  obtain ⟨p, cap, rfl, _⟩ := RO.shape
  obtain ⟨_, b, R⟩ := RO.now H hs
  exact ⟨p, cap, b, 0, rfl, R⟩
theorem Has.lies {w u : World} {g : Nat} {t : TypeId} {n m cap : Nat} {f : Nat → Int} {bs : List (Nat × TypeId × Array Value)} (H : Has w u bs) (hm : (g, t, row m f) ∈ bs) (h : n ≤ m) : Lies u (.slice (some ⟨g, 0, none⟩) n cap) n f :=
  ⟨_, cap, g, 0, rfl, Reads.ofRow H hm h⟩
theorem Has.liesP {w u : World} {g : Nat} {t : TypeId} {n m k cap : Nat} {f : Nat → Int} {bs : List (Nat × TypeId × Array Value)} (H : Has w u bs) (hm : (g, t, row m f) ∈ bs) (h : k + n ≤ m) : Lies u (.slice (some ⟨g, k, none⟩) n cap) n (fun i => f (k + i)) :=
  ⟨_, cap, g, k, rfl, Reads.part H hm h⟩
theorem Has.liesT {w u : World} {g : Nat} {t : TypeId} {m k cap : Nat} {f : Nat → Int} {bs : List (Nat × TypeId × Array Value)} (H : Has w u bs) (hm : (g, t, row m f) ∈ bs) (h : k ≤ m) : Lies u (.slice (if m = k then some ⟨g, 0, none⟩ else some ⟨g, k, none⟩) (m - k) cap) (m - k) (fun i => f (k + i)) :=
  ⟨_, cap, g, k, rfl, ⟨fun h0 => if_neg (by omega), (Reads.part H hm (by omega)).cell⟩⟩
theorem Lies.congr {u : World} {v : Value} {n : Nat} {f f' : Nat → Int} (L : Lies u v n f) (h : ∀ i, i < n → f i = f' i) : Lies u v n f' := by
  obtain ⟨p, cap, b, o, e, R⟩ := L
  exact ⟨p, cap, b, o, e, R.congr h⟩
theorem Lies.below {w u : World} {v : Value} {n : Nat} {f : Nat → Int} (L : Lies w v n f) (hb : Below w.heap.size w u) : Lies u v n f := by
  obtain ⟨p, cap, b, o, e, R⟩ := L
  exact ⟨p, cap, b, o, e, R.below hb⟩
theorem Lies.has {w u : World} {v : Value} {n : Nat} {f : Nat → Int} {bs : List (Nat × TypeId × Array Value)} (L : Lies w v n f) (H : Has w u bs) : Lies u v n f := by
  obtain ⟨p, cap, b, o, e, R⟩ := L
  exact ⟨p, cap, b, o, e, R.has H⟩
theorem Has.joinR {w0 u u' : World} {bs bs' : List (Nat × TypeId × Array Value)} (h : Has w0 u bs) (h' : Has u u' bs') : Has w0 u' (bs ++ bs') := (h.join h').perm List.perm_append_comm
theorem From.readsA {P : Program} {u : World} {t e : TypeId} {p : Option Addr} {m c : Nat} {ad : Addr} {f : Nat → Int} (ht : sliceOf P t e 1 8 = true) (R : ReadsA u p m ad f) : From P t 1 (.slice p m c) m (fun i => .int .i64 (f i)) u := by
  by_cases hm : 0 < m
  · obtain rfl := R.ptr hm
    exact From.cells ht (fun j hj => R.cell j (by omega)) (fun j _ => rfl)
  · obtain rfl : m = 0 := by omega
    cases p with
    | none => exact From.nil ht c _
    | some a => exact From.cells ht (fun j hj => by omega) (fun j _ => rfl)
theorem Lies.from_ {P : Program} {u : World} {t e : TypeId} {v : Value} {m : Nat} {f : Nat → Int} (ht : sliceOf P t e 1 8 = true) (L : Lies u v m f) : From P t 1 v m (fun i => .int .i64 (f i)) u := by
  obtain ⟨p, cap, b, o, rfl, R⟩ := L
  exact From.readsA ht R.toA
section
variable {P : Program} {o : Oper} {a : Act} {K : Act → World → Prop} {Q : Exit → Act → World → Prop} {w0 u : World} {bs bs' : List (Nat × TypeId × Array Value)}
/-- A copy: numbers appended to nothing. -/
theorem wp_append_nil {t e : TypeId} (H : Has w0 u bs) (s_ x_ : Operand) (ho : o.op = .call { callee := .builtin .append, args := #[s_, x_], argTypes := #[t, t] }) {x : Value} {m : Nat} {f : Nat → Int} (hs : a.eval s_ = .slice none 0 0) (hx : a.eval x_ = x) (ht : sliceOf P t e 1 8 = true)
    (S : From P t 1 x m (fun i => .int .i64 (f i)) u) (hm : m ≤ 17592186044416)
    (h : ∀ v' u' tl', Rowed e 1 v' m (fun i => .int .i64 (f i)) tl' → Has w0 u' (bs ++ tl') → K (a.put o.dst v') u') : o.wp P a u K Q := by
  have H' : Has w0 u (bs ++ []) := by rw [List.append_nil]; exact H
  have hmx : maxLen = 9223372036854775807 := rfl
  refine wp_append_has (bs := bs) (B := 8) s_ x_ t ho H' (Rowed.nil e 1 (fun i => .int .i64 (f i))) hs hx ht S (by omega) (by omega) fun v' u' tl' R' H2 => ?_
  rw [Nat.zero_add] at R'
  refine h v' u' tl' (R'.congr fun i hi => ?_) H2
  unfold glue
  rw [if_neg (by omega)]; rfl
/-- A cell that was there before, read in a region that draws. -/
theorem ones_load_old {ops : Array Oper} {quiet : List Nat} {rest : List Oper} (H : Has w0 u bs) (ty : TypeId) (x : Operand) (hk : kindOf quiet o = 2) (hg : Region.wanted o (yielded ops a.tmps) = true) (ho : o.op = .load ty x) {p : Addr} {v : Value} (hx : a.eval x = .pointer (some p)) (hs : scalarOf P ty = true) (hv : w0.cell? p = some v)
    (h : Ones P ops quiet Q rest (a.put o.dst v) u) : Ones P ops quiet Q (o :: rest) a u := by
  have hc := H.old_cell hv
  refine ones_here hk hg ?_ h
  unfold execOp
  simp only [ho, hx, Instr.loadAt, Instr.sureAddr, Sem.run_bind, Sem.run_pure, Result.andThen_ok, run_loadVar_one hs hc]
/-- Numbers appended to a list of the call's own. -/
theorem wp_append_rowed {t e : TypeId} {tl : List (Nat × TypeId × Array Value)} (H : Has w0 u bs) (hp : bs.Perm (bs' ++ tl)) (s_ x_ : Operand) (ho : o.op = .call { callee := .builtin .append, args := #[s_, x_], argTypes := #[t, t] }) {v x : Value} {n m : Nat} {f f2 : Nat → Int} (R : Rowed e 1 v n (fun i => .int .i64 (f i)) tl) (hs : a.eval s_ = v) (hx : a.eval x_ = x) (ht : sliceOf P t e 1 8 = true)
    (S : From P t 1 x m (fun i => .int .i64 (f2 i)) u) (hm : n + m ≤ 17592186044416)
    (h : ∀ v' u' tl', Rowed e 1 v' (n + m) (fun i => .int .i64 (if i < n then f i else f2 (i - n))) tl' → Has w0 u' (bs' ++ tl') → K (a.put o.dst v') u') : o.wp P a u K Q := by
  have H' : Has w0 u (bs' ++ tl) := H.perm hp
  have hmx : maxLen = 9223372036854775807 := rfl
  refine wp_append_has (bs := bs') (B := 8) s_ x_ t ho H' R hs hx ht S (by omega) (by omega) fun v' u' tl' R' H2 => ?_
  refine h v' u' tl' (R'.congr fun i hi => ?_) H2
  unfold glue
  rw [Nat.mul_one]
  split <;> rfl
end
theorem same_l {u : World} {v v' : Value} {n : Nat} {f : Nat → Int} (hn : n ≤ 9223372036854775807) (L : Lies u v n f) (L' : Lies u v' n f) :
    Calls Tryd.prog 26 #[v, v'] u fun e w' => e = .returned (.bool true) ∧ Below u.heap.size u w' := by
  obtain ⟨p, cap, b, o, rfl, R⟩ := L
  obtain ⟨p', cap', b', o', rfl, R'⟩ := L'
  exact same_yes p p' n cap b o cap' b' o' f u hn R R'
end Go.Proofs.YtcoicmbjoaonoaaDoor
