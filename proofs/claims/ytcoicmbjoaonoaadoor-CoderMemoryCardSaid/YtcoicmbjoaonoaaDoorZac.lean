/-
  Several texts of this claim, one behind the other: Has, Parts. No statement is proved here.
-/
import Derived.Test.YtcoicmbjoaonoaaDoorZaa
import Derived.Test.YtcoicmbjoaonoaaDoorZab
import Derived.Deep.MidRow
import Derived.Deep.AppendSrc
import Derived.Laws.AppendOwn
/-
  What the call has made so far: its own blocks, each by its address and its cells; and laws at single operations in these words. No statement is proved here.
-/
namespace Go.Proofs.YtcoicmbjoaonoaaDoor
set_option linter.unusedVariables false
set_option linter.unusedSimpArgs false
open Go.RowKit
set_option maxRecDepth 100000

/-- Of the world w0 nothing has turned; besides, these blocks lie at these addresses. -/
structure Has (w0 u : World) (bs : List (Nat × TypeId × Array Value)) : Prop where
  below : Below w0.heap.size w0 u
  all : ∀ b ∈ bs, w0.heap.size ≤ b.1 ∧ b.1 < u.heap.size ∧ At u b.1 b.2.1 b.2.2
  apart : bs.Pairwise fun a b => a.1 ≠ b.1

section
variable {w0 u u' : World} {bs : List (Nat × TypeId × Array Value)} {g : Nat} {t : TypeId} {cs : Array Value}
theorem Has.start (w : World) : Has w w [] := ⟨Below.refl _ _, by simp, List.Pairwise.nil⟩
theorem Has.at_ (h : Has w0 u bs) (hm : (g, t, cs) ∈ bs) : At u g t cs := (h.all _ hm).2.2
theorem Has.ge_ (h : Has w0 u bs) (hm : (g, t, cs) ∈ bs) : w0.heap.size ≤ g := (h.all _ hm).1
theorem Has.lt_ (h : Has w0 u bs) (hm : (g, t, cs) ∈ bs) : g < u.heap.size := (h.all _ hm).2.1
theorem Has.sub (h : Has w0 u bs) {bs' : List (Nat × TypeId × Array Value)} (hs : bs'.Sublist bs) : Has w0 u bs' :=
  ⟨h.below, fun b hb => h.all b (hs.subset hb), h.apart.sublist hs⟩
theorem Has.tail {b : Nat × TypeId × Array Value} (h : Has w0 u (b :: bs)) : Has w0 u bs := h.sub (List.sublist_cons_self _ _)
theorem Has.drew (h : Has w0 u bs) : Has w0 u.drew bs := ⟨h.below.drew, h.all, h.apart⟩
theorem Has.drewN (h : Has w0 u bs) (n : Nat) : Has w0 (u.drewN n) bs := ⟨below_drewN h.below n, h.all, h.apart⟩
theorem Has.callee (h : Has w0 u bs) (hb : Below u.heap.size u u') : Has w0 u' bs :=
  ⟨h.below.trans (hb.mono h.below.size), fun b hm => let ⟨h1, h2, h3⟩ := h.all b hm; ⟨h1, Nat.lt_of_lt_of_le h2 hb.size, h3.below hb h2⟩, h.apart⟩
theorem Has.new (h : Has w0 u bs) (t : TypeId) (cs : Array Value) : Has w0 (u.alloc (.cells cs t)) ((u.heap.size, t, cs) :: bs) := by
  refine ⟨h.below.alloc h.below.size _, fun b hb => ?_, ?_⟩
  · rcases List.mem_cons.1 hb with rfl | hb
    · exact ⟨h.below.size, by simp, At.new _ _ _⟩
    · obtain ⟨h1, h2, h3⟩ := h.all b hb
      exact ⟨h1, by simp; omega, h3.alloc _⟩
  · exact List.pairwise_cons.2 ⟨fun b hb => by have := (h.all b hb).2.1; simp; omega, h.apart⟩
/-- A world that is as u but for block g. -/
theorem Has.turn {l1 l2 : List (Nat × TypeId × Array Value)} {cs' : Array Value} (h : Has w0 u (l1 ++ (g, t, cs) :: l2)) (hA : At u' g t cs') (hs : u'.heap.size = u.heap.size) (ho : u'.os = u.os) (ht : u'.tape = u.tape) (hp : u'.output = u.output)
    (hk : ∀ k, k ≠ g → u'.heap[k]? = u.heap[k]?) : Has w0 u' (l1 ++ (g, t, cs') :: l2) := by
  have hg := h.all (g, t, cs) (by simp)
  refine ⟨⟨ho.trans h.below.os, ht.trans h.below.tape, hp.trans h.below.output, by rw [hs]; exact h.below.size, fun k hlt => (hk k (by omega)).trans (h.below.block k hlt)⟩, fun b hb => ?_, ?_⟩
  · have hcase : b = (g, t, cs') ∨ (b ∈ l1 ++ (g, t, cs) :: l2 ∧ b.1 ≠ g) := by
      rcases List.mem_append.1 hb with hb | hb
      · refine .inr ⟨by simp [hb], ?_⟩
        exact (List.pairwise_append.1 h.apart).2.2 b hb (g, t, cs) (by simp)
      · rcases List.mem_cons.1 hb with rfl | hb
        · exact .inl rfl
        · refine .inr ⟨by simp [hb], ?_⟩
          exact fun e => (List.pairwise_cons.1 (List.pairwise_append.1 h.apart).2.1).1 b hb e.symm
    rcases hcase with rfl | ⟨hm, hne⟩
    · exact ⟨hg.1, by rw [hs]; exact hg.2.1, hA⟩
    · obtain ⟨h1, h2, h3⟩ := h.all b hm
      exact ⟨h1, by omega, (hk b.1 hne).trans h3⟩
  · have hp := h.apart
    rw [List.pairwise_append, List.pairwise_cons] at hp ⊢
    obtain ⟨p1, ⟨p2, p3⟩, p4⟩ := hp
    refine ⟨p1, ⟨p2, p3⟩, fun a ha b hb => ?_⟩
    rcases List.mem_cons.1 hb with rfl | hb
    · exact p4 a ha (g, t, cs) (by simp)
    · exact p4 a ha b (by simp [hb])
theorem Has.set_ {l1 l2 : List (Nat × TypeId × Array Value)} (h : Has w0 u (l1 ++ (g, t, cs) :: l2)) (i : Nat) (v : Value) : Has w0 (u.setCell ⟨g, i, none⟩ v) (l1 ++ (g, t, cs.setIfInBounds i v) :: l2) :=
  h.turn ((h.at_ (cs := cs) (by simp)).set_ i v) (by simp [World.setCell]) rfl rfl rfl (fun k hk => heap_setCell_other u _ k v hk)
theorem Has.setRow_ {l1 l2 : List (Nat × TypeId × Array Value)} (h : Has w0 u (l1 ++ (g, t, cs) :: l2)) (cs' : Array Value) : Has w0 (u.setRow g cs') (l1 ++ (g, t, cs') :: l2) :=
  h.turn ((h.at_ (cs := cs) (by simp)).setRow cs') (by simp) rfl rfl rfl (fun k hk => setRow_other u g k cs' hk)
theorem Has.out (h : Has w0 u bs) : Below w0.heap.size w0 u := h.below
end

/-! ### Laws at one operation. 'm': where in the list the block stands. -/
section
variable {P : Program} {o : Oper} {a : Act} {K : Act → World → Prop} {Q : Exit → Act → World → Prop} {w0 u : World} {bs l1 l2 : List (Nat × TypeId × Array Value)} {g : Nat} {t : TypeId} {cs : Array Value}
/-- The type is an array or a struct of so many cells. -/
def aggOf (P : Program) (ty : TypeId) (n : Nat) : Bool :=
  (match P.underlying ty with | some (.struct _) | some (.array _ _) => true | _ => false) && (P.info? ty).map (·.size) == some n
theorem aggOf_parts {ty : TypeId} {n : Nat} (h : aggOf P ty n = true) : ∃ d, P.underlying ty = some d ∧ (match d with | .struct _ | .array _ _ => true | _ => false) = true ∧ (P.info? ty).map (·.size) = some n := by
  unfold aggOf at h
  simp only [Bool.and_eq_true, beq_iff_eq] at h
  obtain ⟨h1, h2⟩ := h
  cases hd : P.underlying ty with
  | none => simp [hd] at h1
  | some d => exact ⟨d, rfl, by cases d <;> simp_all, h2⟩

theorem run_newVar (w : World) (ty : TypeId) (v : Value) : (newVar ty v).run P w = .ok ⟨w.heap.size, 0, none⟩ (w.alloc (.cells v.cells ty)) := by
  simp [newVar, newRow, Sem.run_bind]
/-- A parameter that gets a block of its own. -/
theorem wp_box (H : Has w0 u bs) (ty : TypeId) (x : Operand) (ho : o.op = .box ty x) {v : Value} (hx : a.eval x = v)
    (h : ∀ u' g, Has w0 u' ((g, ty, v.cells) :: bs) → K (a.put o.dst (.pointer (some ⟨g, 0, none⟩))) u') : o.wp P a u K Q := by
  have := h _ _ (H.new ty v.cells)
  unfold Oper.wp execOp
  simp only [ho, hx, Instr.box, Sem.run_bind, run_newVar, Result.andThen_ok, Sem.run_pure]
  exact this
theorem wp_alloc (H : Has w0 u bs) (ty : TypeId) (ho : o.op = .alloc ty) {z : Value} (hz : (P.info? ty).bind (·.zero) = some z)
    (h : ∀ u' g, Has w0 u' ((g, ty, z.cells) :: bs) → K (a.put o.dst (.pointer (some ⟨g, 0, none⟩))) u') : o.wp P a u K Q := by
  have := h _ _ (H.new ty z.cells)
  have hz' : (zeroValue ty).run P u = .ok z u := by
    cases hi : P.info? ty with
    | none => simp [hi] at hz
    | some i => simp [hi] at hz; simp [zeroValue, typeInfo, hi, hz]
  unfold Oper.wp execOp
  simp only [ho, Instr.alloc, Sem.run_bind, hz', run_newVar, Result.andThen_ok, Sem.run_pure]
  exact this
/-- A whole block read. -/
theorem wp_load_all (H : Has w0 u bs) (ty : TypeId) (x : Operand) (ho : o.op = .load ty x) (hx : a.eval x = .pointer (some ⟨g, 0, none⟩)) (hm : (g, t, cs) ∈ bs) (ha : aggOf P ty cs.size = true)
    (h : K (a.put o.dst (.agg cs)) u) : o.wp P a u K Q := by
  obtain ⟨d, h1, h2, h3⟩ := aggOf_parts ha
  exact wp_load_row ty x ho g hx t cs (0, 0) d (H.at_ hm) h1 (by cases d <;> simp_all) h3 h
/-- A whole block written. -/
theorem wp_store_all (H : Has w0 u (l1 ++ (g, t, cs) :: l2)) (ty : TypeId) (x y : Operand) (ho : o.op = .store ty x y) {cs' : Array Value} (hx : a.eval x = .pointer (some ⟨g, 0, none⟩)) (hy : a.eval y = .agg cs')
    (ha : aggOf P ty cs'.size = true) (hs : cs.size = cs'.size) (h1 : cs'.all (·.oneCell') = true) (h : ∀ u', Has w0 u' (l1 ++ (g, t, cs') :: l2) → K (a.put o.dst undef) u') : o.wp P a u K Q := by
  obtain ⟨d, _, _, h3⟩ := aggOf_parts ha
  exact wp_store_row ty x y ho g cs' hx hy t cs (H.at_ (cs := cs) (by simp)) h3 hs h1 (h _ (H.setRow_ cs'))
/-- The type is one cell wide. -/
def scalarOf (P : Program) (ty : TypeId) : Bool :=
  (match P.underlying ty with | some (.struct _) | some (.array _ _) | none => false | _ => true) && (P.info? ty).map (·.size) == some 1
theorem scalarOf_parts {ty : TypeId} (h : scalarOf P ty = true) (w : World) : (isAgg ty).run P w = .ok false w ∧ (P.info? ty).map (·.size) = some 1 := by
  unfold scalarOf at h
  simp only [Bool.and_eq_true, beq_iff_eq] at h
  obtain ⟨h1, h2⟩ := h
  refine ⟨?_, h2⟩
  cases hd : P.underlying ty with
  | none => simp [hd] at h1
  | some d =>
    unfold isAgg
    rw [Sem.run_bind, run_underlying hd w]
    cases d <;> simp_all
theorem run_loadVar_one {w : World} {ty : TypeId} (hs : scalarOf P ty = true) {p : Addr} {v : Value} (hc : w.cell? p = some v) : (loadVar ty p).run P w = .ok v w := by
  simp [loadVar, Sem.run_bind, (scalarOf_parts hs w).1, hc]
theorem run_storeVar_one {w : World} {ty : TypeId} (hs : scalarOf P ty = true) {p : Addr} {v old : Value} (hv : v.oneCell' = true) (hc : w.cell? p = some old) (hf : w.frozen? p = false) : (storeVar ty p v).run P w = .ok () (w.setCell p v) := by
  have hcells : v.cells = #[v] := by cases v <;> simp_all [Value.cells, Value.oneCell']
  have hst := run_store P w p v .plain hv
  simp only [hc, hf] at hst
  cases hq : P.info? ty with
  | none => have := (scalarOf_parts hs w).2; simp [hq] at this
  | some i =>
    have hi : i.size = 1 := by have := (scalarOf_parts hs w).2; simpa [hq] using this
    simp [storeVar, sizeOf, typeInfo, hq, hi, hcells, storeCells, Addr.add, hst]
/-- One cell read. -/
theorem wp_load_one (H : Has w0 u bs) (ty : TypeId) (x : Operand) (ho : o.op = .load ty x) {i : Nat} {v : Value} (hx : a.eval x = .pointer (some ⟨g, i, none⟩)) (hm : (g, t, cs) ∈ bs) (hs : scalarOf P ty = true) (hv : cs[i]? = some v)
    (h : K (a.put o.dst v) u) : o.wp P a u K Q := by
  have hc : u.cell? ⟨g, i, none⟩ = some v := by rw [(H.at_ hm).cell]; exact hv
  unfold Oper.wp execOp
  simp only [ho, hx, Instr.loadAt, Instr.sureAddr, Sem.run_bind, Sem.run_pure, Result.andThen_ok, run_loadVar_one hs hc]
  exact h
/-- One cell written. -/
theorem wp_store_one (H : Has w0 u (l1 ++ (g, t, cs) :: l2)) (ty : TypeId) (x y : Operand) (ho : o.op = .store ty x y) {i : Nat} {v : Value} (hx : a.eval x = .pointer (some ⟨g, i, none⟩)) (hy : a.eval y = v) (hs : scalarOf P ty = true) (hi : i < cs.size) (hv : v.oneCell' = true)
    (h : ∀ u', Has w0 u' (l1 ++ (g, t, cs.setIfInBounds i v) :: l2) → K (a.put o.dst undef) u') : o.wp P a u K Q := by
  have hA := H.at_ (g := g) (t := t) (cs := cs) (by simp)
  have hc : u.cell? ⟨g, i, none⟩ = some cs[i] := by rw [hA.cell]; exact Array.getElem?_eq_getElem hi
  have hf := hA.frozen i
  have := h _ (H.set_ i v)
  unfold Oper.wp execOp
  simp only [ho, hx, hy, Instr.storeAt, Instr.sureAddr, Sem.run_bind, Sem.run_pure, Result.andThen_ok, run_storeVar_one hs hv hc hf]
  exact this
/-- A number of a row written. -/
theorem wp_store_row_ {n : Nat} {f : Nat → Int} (H : Has w0 u (l1 ++ (g, t, row n f) :: l2)) (ty : TypeId) (x y : Operand) (ho : o.op = .store ty x y) {i : Nat} {v : Int} (hx : a.eval x = .pointer (some ⟨g, i, none⟩)) (hy : a.eval y = .int .i64 v) (hs : scalarOf P ty = true) (hi : i < n)
    (h : ∀ u', Has w0 u' (l1 ++ (g, t, row n fun j => if j = i then v else f j) :: l2) → K (a.put o.dst undef) u') : o.wp P a u K Q := by
  refine wp_store_one H ty x y ho hx hy hs (by rw [row_size]; exact hi) rfl fun u' H' => h u' ?_
  rw [row_set] at H'; exact H'
theorem results_has {fn : Func} {p v : Tmp} {ty : TypeId} (h : fn.results = #[.cell p ty, .tmp v]) (tmps : Array Value) (H : Has w0 u bs) (hp : tmps.getD p undef = .pointer (some ⟨g, 0, none⟩)) (hm : (g, t, cs) ∈ bs) (ha : aggOf P ty cs.size = true) :
    (results fn tmps).run P u = .ok (.tuple #[.agg cs, tmps.getD v undef]) u := by
  obtain ⟨d, h1, h2, h3⟩ := aggOf_parts ha
  exact results_at h tmps hp (H.at_ hm) h1 (by cases d <;> simp_all) h3
theorem results_has3 {fn : Func} {p v v' : Tmp} {ty : TypeId} (h : fn.results = #[.cell p ty, .tmp v, .tmp v']) (tmps : Array Value) (H : Has w0 u bs) (hp : tmps.getD p undef = .pointer (some ⟨g, 0, none⟩)) (hm : (g, t, cs) ∈ bs) (ha : aggOf P ty cs.size = true) :
    (results fn tmps).run P u = .ok (.tuple #[.agg cs, tmps.getD v undef, tmps.getD v' undef]) u := by
  obtain ⟨d, h1, h2, h3⟩ := aggOf_parts ha
  simp only [results, h]
  simp [Sem.run_bind, Result.andThen, asAddr]
  have hp' : tmps[p]?.getD undef = .pointer (some ⟨g, 0, none⟩) := by simpa using hp
  rw [hp']
  simp [run_loadVar_row u g t ty cs (0, 0) d (H.at_ hm) h1 (by cases d <;> simp_all) h3]
/-! ### In a region that draws -/
variable {ops : Array Oper} {quiet : List Nat} {rest : List Oper}
theorem ones_load_all (H : Has w0 u bs) (ty : TypeId) (x : Operand) (hk : kindOf quiet o = 2) (hg : Region.wanted o (yielded ops a.tmps) = true) (ho : o.op = .load ty x) (hx : a.eval x = .pointer (some ⟨g, 0, none⟩)) (hm : (g, t, cs) ∈ bs) (ha : aggOf P ty cs.size = true)
    (h : Ones P ops quiet Q rest (a.put o.dst (.agg cs)) u) : Ones P ops quiet Q (o :: rest) a u := by
  obtain ⟨d, h1, h2, h3⟩ := aggOf_parts ha
  exact ones_row ty x hk hg ho hx (H.at_ hm) h1 (by cases d <;> simp_all) h3 h
theorem ones_load_one (H : Has w0 u bs) (ty : TypeId) (x : Operand) (hk : kindOf quiet o = 2) (hg : Region.wanted o (yielded ops a.tmps) = true) (ho : o.op = .load ty x) {i : Nat} {v : Value} (hx : a.eval x = .pointer (some ⟨g, i, none⟩)) (hm : (g, t, cs) ∈ bs) (hs : scalarOf P ty = true) (hv : cs[i]? = some v)
    (h : Ones P ops quiet Q rest (a.put o.dst v) u) : Ones P ops quiet Q (o :: rest) a u := by
  have hc : u.cell? ⟨g, i, none⟩ = some v := by rw [(H.at_ hm).cell]; exact hv
  refine ones_here hk hg ?_ h
  unfold execOp
  simp only [ho, hx, Instr.loadAt, Instr.sureAddr, Sem.run_bind, Sem.run_pure, Result.andThen_ok, run_loadVar_one hs hc]
/-! ### In a region of several orders -/
variable {kind : Nat → Nat} {i : Nat} {rst : List Nat} {bs0 : List (Nat × TypeId × Array Value)}
theorem run_load_all (H : Has w0 u bs) (ty : TypeId) (x : Operand) (ho : o.op = .load ty x) (hx : a.eval x = .pointer (some ⟨g, 0, none⟩)) (hm : (g, t, cs) ∈ bs) (ha : aggOf P ty cs.size = true) : (execOp a.eval o).run P u = .ok (.value (.agg cs)) u := by
  obtain ⟨d, h1, h2, h3⟩ := aggOf_parts ha
  unfold execOp
  simp only [ho, hx, Instr.loadAt, Instr.sureAddr, Sem.run_bind, Sem.run_pure, Result.andThen_ok, run_loadVar_row u g t ty cs (0, 0) d (H.at_ hm) h1 (by cases d <;> simp_all) h3]
theorem run_load_one (H : Has w0 u bs) (ty : TypeId) (x : Operand) (ho : o.op = .load ty x) {j : Nat} {v : Value} (hx : a.eval x = .pointer (some ⟨g, j, none⟩)) (hm : (g, t, cs) ∈ bs) (hs : scalarOf P ty = true) (hv : cs[j]? = some v) : (execOp a.eval o).run P u = .ok (.value v) u := by
  have hc : u.cell? ⟨g, j, none⟩ = some v := by rw [(H.at_ hm).cell]; exact hv
  unfold execOp
  simp only [ho, hx, Instr.loadAt, Instr.sureAddr, Sem.run_bind, Sem.run_pure, Result.andThen_ok, run_loadVar_one hs hc]
theorem sq_load_all (ty : TypeId) (x : Operand) (hoi : ops[i]? = some o) (hk : kind i = 1) (hg : Region.wanted o (yielded ops a.tmps) = true) (ho : o.op = .load ty x) (hx : a.eval x = .pointer (some ⟨g, 0, none⟩)) (H : Has w0 u bs0) (hm : (g, t, cs) ∈ bs0) (ha : aggOf P ty cs.size = true)
    (h : Seq_ P ops (fun w' => Has w0 w' bs0) kind Q rst (a.put o.dst (.agg cs)) u) : Seq_ P ops (fun w' => Has w0 w' bs0) kind Q (i :: rst) a u :=
  sq_held hoi hk hg H (fun _ H' => run_load_all H' ty x ho hx hm ha) h
theorem sq_load_one (ty : TypeId) (x : Operand) (hoi : ops[i]? = some o) (hk : kind i = 1) (hg : Region.wanted o (yielded ops a.tmps) = true) (ho : o.op = .load ty x) {j : Nat} {v : Value} (hx : a.eval x = .pointer (some ⟨g, j, none⟩)) (H : Has w0 u bs0) (hm : (g, t, cs) ∈ bs0) (hs : scalarOf P ty = true) (hv : cs[j]? = some v)
    (h : Seq_ P ops (fun w' => Has w0 w' bs0) kind Q rst (a.put o.dst v) u) : Seq_ P ops (fun w' => Has w0 w' bs0) kind Q (i :: rst) a u :=
  sq_held hoi hk hg H (fun _ H' => run_load_one H' ty x ho hx hm hs hv) h
end
end Go.Proofs.YtcoicmbjoaonoaaDoor
/-
  Parts of blocks, read and written whole; slices that the call made by appends; copies. Laws at single operations in the words of Has. No statement is proved here.
-/
namespace Go.Proofs.YtcoicmbjoaonoaaDoor
set_option linter.unusedVariables false
set_option linter.unusedSimpArgs false
open Go.RowKit
set_option maxRecDepth 100000

/-- n cells: the i-th is f i. -/
def rowV (n : Nat) (f : Nat → Value) : Array Value := ((List.range n).map f).toArray
theorem rowV_size (n : Nat) (f : Nat → Value) : (rowV n f).size = n := by simp [rowV]
theorem rowV_get {n i : Nat} (f : Nat → Value) (h : i < n) : (rowV n f)[i]? = some (f i) := by simp [rowV, h]
theorem rowV_none {n i : Nat} (f : Nat → Value) (h : n ≤ i) : (rowV n f)[i]? = none := by simp [rowV, h]
theorem row_rowV (n : Nat) (f : Nat → Int) : row n f = rowV n (fun i => .int .i64 (f i)) := rfl
theorem rowV_ext {n : Nat} {cs : Array Value} {f : Nat → Value} (hs : cs.size = n) (h : ∀ i, i < n → cs[i]? = some (f i)) : cs = rowV n f := by
  apply Array.ext_getElem?
  intro i
  by_cases hi : i < n
  · rw [h i hi, rowV_get f hi]
  · rw [rowV_none f (by omega), Array.getElem?_eq_none (by omega)]
theorem rowV_congr {n : Nat} {f g : Nat → Value} (h : ∀ i, i < n → f i = g i) : rowV n f = rowV n g :=
  rowV_ext (rowV_size n f) fun i hi => by rw [rowV_get f hi, h i hi]
theorem rowV_extract {n o m : Nat} (f : Nat → Value) (h : o + m ≤ n) : (rowV n f).extract o (o + m) = rowV m (fun i => f (o + i)) := by
  refine rowV_ext (by simp [rowV_size]; omega) fun i hi => ?_
  rw [Array.getElem?_extract, if_pos (by rw [rowV_size]; omega), rowV_get f (by omega)]
theorem row_extract {n o m : Nat} (f : Nat → Int) (h : o + m ≤ n) : (row n f).extract o (o + m) = row m (fun i => f (o + i)) := rowV_extract _ h
/-- Cells from place o on, written over. -/
def patch (cs : Array Value) : Nat → List Value → Array Value
  | _, [] => cs
  | o, v :: r => patch (cs.setIfInBounds o v) (o + 1) r
theorem patch_size : ∀ (vs : List Value) (o : Nat) (cs : Array Value), (patch cs o vs).size = cs.size
  | [], _, _ => rfl
  | v :: r, o, cs => by rw [patch, patch_size r]; simp
theorem patch_get : ∀ (vs : List Value) (o : Nat) (cs : Array Value) (i : Nat), i < cs.size → (patch cs o vs)[i]? = if o ≤ i ∧ i < o + vs.length then vs[i - o]? else cs[i]?
  | [], o, cs, i, _ => by rw [patch, if_neg (by simp only [List.length_nil]; omega)]
  | v :: r, o, cs, i, hi => by
    rw [patch, patch_get r (o + 1) _ i (by simpa using hi)]
    simp only [List.length_cons, Array.getElem?_setIfInBounds]
    by_cases h1 : o = i
    · subst h1
      rw [if_neg (by omega), if_pos (by omega)]
      simp [hi]
    · by_cases h2 : o + 1 ≤ i ∧ i < o + 1 + r.length
      · rw [if_pos h2, if_pos (by omega), show i - o = (i - (o + 1)) + 1 by omega]
        simp
      · rw [if_neg h2, if_neg h1, if_neg (by omega)]
theorem rowV_patch {n o m : Nat} (f g : Nat → Value) (h : o + m ≤ n) : patch (rowV n f) o (rowV m g).toList = rowV n (fun i => if o ≤ i ∧ i < o + m then g (i - o) else f i) := by
  refine rowV_ext (by rw [patch_size, rowV_size]) fun i hi => ?_
  rw [patch_get _ _ _ _ (by rw [rowV_size]; exact hi)]
  have hl : (rowV m g).toList.length = m := by simp [rowV]
  rw [hl]
  by_cases hc : o ≤ i ∧ i < o + m
  · rw [if_pos hc, if_pos hc]
    have : i - o < m := by omega
    simp [rowV, this]
  · rw [if_neg hc, if_neg hc, rowV_get f hi]
theorem row_patch {n o m : Nat} (f g : Nat → Int) (h : o + m ≤ n) : patch (row n f) o (row m g).toList = row n (fun i => if o ≤ i ∧ i < o + m then g (i - o) else f i) := by
  rw [row_rowV, row_rowV, rowV_patch _ _ h]
  exact rowV_congr fun i _ => by by_cases hc : o ≤ i ∧ i < o + m <;> simp [hc]
theorem rowV_set {n k : Nat} (f : Nat → Value) (v : Value) : (rowV n f).setIfInBounds k v = rowV n (fun i => if i = k then v else f i) := by
  refine rowV_ext (by simp [rowV_size]) fun i hi => ?_
  rw [Array.getElem?_setIfInBounds]
  by_cases hk : k = i
  · subst hk; simp [rowV_size, hi]
  · rw [if_neg hk, rowV_get f hi, if_neg (fun e => hk e.symm)]

section
variable {w0 u u' : World} {bs : List (Nat × TypeId × Array Value)} {g : Nat} {t : TypeId} {cs : Array Value}
theorem Has.setCells {l1 l2 : List (Nat × TypeId × Array Value)} : ∀ (vs : List Value) (o : Nat) (u : World) (cs : Array Value), Has w0 u (l1 ++ (g, t, cs) :: l2) → Has w0 (u.setCells g o vs) (l1 ++ (g, t, patch cs o vs) :: l2)
  | [], _, _, _, h => h
  | v :: r, o, u, cs, h => Has.setCells r (o + 1) _ _ (h.set_ o v)
/-- What a callee made comes to what the call has. -/
theorem Has.join {bs' : List (Nat × TypeId × Array Value)} (h : Has w0 u bs) (h' : Has u u' bs') : Has w0 u' (bs' ++ bs) := by
  have hk := h.callee h'.below
  refine ⟨hk.below, fun b hb => ?_, ?_⟩
  · rcases List.mem_append.1 hb with hb | hb
    · obtain ⟨h1, h2, h3⟩ := h'.all b hb
      exact ⟨Nat.le_trans h.below.size h1, h2, h3⟩
    · exact hk.all b hb
  · refine List.pairwise_append.2 ⟨h'.apart, h.apart, fun a ha b hb => ?_⟩
    have h1 := (h'.all a ha).1
    have h2 := (h.all b hb).2.1
    omega
theorem Has.perm {bs' : List (Nat × TypeId × Array Value)} (h : Has w0 u bs) (hp : bs.Perm bs') : Has w0 u bs' :=
  ⟨h.below, fun b hb => h.all b (hp.mem_iff.2 hb), h.apart.perm hp (fun hab => fun e => hab e.symm)⟩
/-- A world as u but for block g, that the call has made. -/
theorem Has.grown_ {l1 l2 : List (Nat × TypeId × Array Value)} {cs' : Array Value} {w' : World} (h : Has w0 u (l1 ++ (g, t, cs) :: l2)) (e : w' = u.setRow g cs') : Has w0 w' (l1 ++ (g, t, cs') :: l2) := by
  subst e; exact h.setRow_ cs'
theorem Has.at_cell (h : Has w0 u bs) (hm : (g, t, cs) ∈ bs) (i : Nat) : u.cell? ⟨g, i, none⟩ = cs[i]? := (h.at_ hm).cell i
/-- What lay there when the call began. -/
theorem Has.old_cell (h : Has w0 u bs) {a : Addr} {v : Value} (ha : w0.cell? a = some v) : u.cell? a = some v := by
  rw [← ha]; exact h.below.cell (block_lt_of_cell ha)
end

section
variable {P : Program} {o : Oper} {a : Act} {K : Act → World → Prop} {Q : Exit → Act → World → Prop} {w0 u : World} {bs l1 l2 : List (Nat × TypeId × Array Value)} {g : Nat} {t : TypeId} {cs : Array Value}
theorem aggOf_row {ty : TypeId} {n : Nat} (h : aggOf P ty n = true) : ∃ d, P.underlying ty = some d ∧ d.isRow = true ∧ (P.info? ty).map (·.size) = some n := by
  obtain ⟨d, h1, h2, h3⟩ := aggOf_parts h
  exact ⟨d, h1, by cases d <;> simp_all [TypeDesc.isRow], h3⟩
theorem run_loadVar_part (hA : At u g t cs) {ty : TypeId} {k n : Nat} (ha : aggOf P ty n = true) (hk : k + n ≤ cs.size) : (loadVar ty ⟨g, k, none⟩).run P u = .ok (.agg (cs.extract k (k + n))) u := by
  obtain ⟨d, h1, h2, h3⟩ := aggOf_row ha
  have hl : (cs.extract k (k + n)).toList.length = n := by simp; omega
  have := run_loadVar_mid (P := P) u g k ty (cs.extract k (k + n)).toList d (fun j v hv => by
    have hj : j < n := by rw [← hl]; exact (List.getElem?_eq_some_iff.1 hv).1
    rw [hA.cell]
    rw [Array.getElem?_toList, Array.getElem?_extract, if_pos (by omega)] at hv
    exact hv) h1 h2 (by rw [hl]; exact h3)
  rw [Array.toArray_toList] at this
  exact this
/-- A part of a block, read whole. -/
theorem wp_load_part (H : Has w0 u bs) (ty : TypeId) (x : Operand) (ho : o.op = .load ty x) {k n : Nat} {v : Array Value} (hx : a.eval x = .pointer (some ⟨g, k, none⟩)) (hm : (g, t, cs) ∈ bs) (ha : aggOf P ty n = true) (hk : k + n ≤ cs.size)
    (hv : cs.extract k (k + n) = v) (h : K (a.put o.dst (.agg v)) u) : o.wp P a u K Q := by
  subst hv
  unfold Oper.wp execOp
  simp only [ho, hx, Instr.loadAt, Instr.sureAddr, Sem.run_bind, Sem.run_pure, Result.andThen_ok, run_loadVar_part (H.at_ hm) ha hk]
  exact h
/-- A part of a block, written whole. -/
theorem wp_store_part (H : Has w0 u (l1 ++ (g, t, cs) :: l2)) (ty : TypeId) (x y : Operand) (ho : o.op = .store ty x y) {k : Nat} {cells cs' : Array Value} (hx : a.eval x = .pointer (some ⟨g, k, none⟩)) (hy : a.eval y = .agg cells)
    (ha : aggOf P ty cells.size = true) (hk : k + cells.size ≤ cs.size) (h1 : cells.all (·.oneCell') = true) (hp : patch cs k cells.toList = cs') (h : ∀ u', Has w0 u' (l1 ++ (g, t, cs') :: l2) → K (a.put o.dst undef) u') : o.wp P a u K Q := by
  obtain ⟨d, _, _, h3⟩ := aggOf_parts ha
  have hA := H.at_ (g := g) (t := t) (cs := cs) (by simp)
  refine wp_store_mid ty x y ho g k cells hx hy (fun j hj => ⟨?_, hA.frozen _⟩) h3 h1 (h _ ?_)
  · rw [hA.cell, Array.getElem?_eq_getElem (by omega)]; rfl
  · subst hp; exact H.setCells _ _ _ _
/-- A cell of memory that lay there when the call began. -/
theorem wp_load_old (H : Has w0 u bs) (ty : TypeId) (x : Operand) (ho : o.op = .load ty x) {p : Addr} {v : Value} (hx : a.eval x = .pointer (some p)) (hs : scalarOf P ty = true) (hv : w0.cell? p = some v)
    (h : K (a.put o.dst v) u) : o.wp P a u K Q := by
  have hc : u.cell? p = some v := H.old_cell hv
  unfold Oper.wp execOp
  simp only [ho, hx, Instr.loadAt, Instr.sureAddr, Sem.run_bind, Sem.run_pure, Result.andThen_ok, run_loadVar_one hs hc]
  exact h

/-! ### Slices made by appends -/
/-- A slice of the call's own, of n elements of s cells each: its block, if it has one, is the list tl. -/
def Rowed (e : TypeId) (s : Nat) (v : Value) (n : Nat) (f : Nat → Value) (tl : List (Nat × TypeId × Array Value)) : Prop :=
  (v = .slice none 0 0 ∧ n = 0 ∧ tl = []) ∨ ∃ g cap cs, v = .slice (some ⟨g, 0, none⟩) n cap ∧ tl = [(g, e, cs)] ∧ n ≤ cap ∧ cap ≤ maxLen ∧ cs.size = cap * s ∧ ∀ i, i < n * s → cs[i]? = some (f i)
theorem Rowed.nil (e : TypeId) (s : Nat) (f : Nat → Value) : Rowed e s (.slice none 0 0) 0 f [] := .inl ⟨rfl, rfl, rfl⟩
/-- t is the type of slices of e, and an e takes s cells and at most B bytes. -/
def sliceOf (P : Program) (t e : TypeId) (s B : Nat) : Bool :=
  (match P.underlying t with | some (.slice e') => e' == e | _ => false) &&
  (match P.info? e with | some i => i.size == s && decide (0 < s) && decide (i.bytes ≤ B) && (match i.zero with | some z => z.cells.size == s | none => false) | none => false)
theorem sliceOf_parts {t e : TypeId} {s B : Nat} (h : sliceOf P t e s B = true) : P.underlying t = some (.slice e) ∧ ∃ i z, P.info? e = some i ∧ i.size = s ∧ 0 < s ∧ i.bytes ≤ B ∧ i.zero = some z ∧ z.cells.size = s := by
  unfold sliceOf at h
  simp only [Bool.and_eq_true] at h
  obtain ⟨h1, h2⟩ := h
  constructor
  · cases hu : P.underlying t with
    | none => simp [hu] at h1
    | some d => cases d <;> simp_all
  · cases hi : P.info? e with
    | none => simp [hi] at h2
    | some i =>
      cases hz : i.zero with
      | none => simp [hi, hz] at h2
      | some z =>
        simp only [hi, hz, Bool.and_eq_true, beq_iff_eq, decide_eq_true_eq] at h2
        obtain ⟨⟨⟨h3, h4⟩, h5⟩, h6⟩ := h2
        exact ⟨i, z, rfl, h3, h4, h5, hz, h6⟩
/-- Many cells as a list. -/
def cellsL (n : Nat) (f : Nat → Value) : List Value := (List.range n).map f
theorem cellsL_length (n : Nat) (f : Nat → Value) : (cellsL n f).length = n := by simp [cellsL]
theorem cellsL_get {n i : Nat} (f : Nat → Value) (h : i < n) : (cellsL n f)[i]? = some (f i) := by simp [cellsL, h]
theorem cellsL_some {n i : Nat} {f : Nat → Value} {v : Value} (h : (cellsL n f)[i]? = some v) : i < n ∧ v = f i := by
  have hi : i < n := by rw [← cellsL_length n f]; exact (List.getElem?_eq_some_iff.1 h).1
  rw [cellsL_get f hi] at h
  exact ⟨hi, (Option.some.inj h).symm⟩
theorem take_cells {cs : Array Value} {k : Nat} {f : Nat → Value} (hk : k ≤ cs.size) (h : ∀ i, i < k → cs[i]? = some (f i)) : cs.toList.take k = cellsL k f := by
  apply List.ext_getElem?
  intro i
  by_cases hi : i < k
  · rw [List.getElem?_take, if_pos hi, cellsL_get f hi, Array.getElem?_toList, h i hi]
  · rw [List.getElem?_take, if_neg hi, List.getElem?_eq_none (by rw [cellsL_length]; omega)]
theorem Rowed.owns {e : TypeId} {s : Nat} {v : Value} {n : Nat} {f : Nat → Value} {tl : List (Nat × TypeId × Array Value)} (R : Rowed e s v n f tl) (H : Has w0 u (bs ++ tl)) : u.ownsRow w0.heap.size e s v n (cellsL (n * s) f) := by
  refine ⟨cellsL_length _ _, ?_⟩
  rcases R with ⟨rfl, rfl, rfl⟩ | ⟨g, cap, cs, rfl, rfl, h1, h2, h3, h4⟩
  · exact .inl ⟨rfl, rfl⟩
  · obtain ⟨k1, k2, k3⟩ := H.all (g, e, cs) (by simp)
    exact .inr ⟨g, cap, cs, rfl, k1, k3, h1, h2, h3, take_cells (by rw [h3]; exact Nat.mul_le_mul_right _ h1) h4⟩
def glue (k : Nat) (f g : Nat → Value) : Nat → Value := fun i => if i < k then f i else g (i - k)
theorem glued {k m : Nat} {f nw : Nat → Value} {extra : List Value} {i : Nat} (h : i < k + m) : ((cellsL k f ++ cellsL m nw) ++ extra)[i]? = some (glue k f nw i) := by
  unfold glue
  by_cases hi : i < k
  · rw [if_pos hi, List.append_assoc, List.getElem?_append_left (by rw [cellsL_length]; exact hi), cellsL_get f hi]
  · rw [if_neg hi, List.append_assoc, List.getElem?_append_right (by rw [cellsL_length]; omega), cellsL_length, List.getElem?_append_left (by rw [cellsL_length]; omega), cellsL_get nw (by omega)]
/-- What is appended: m elements of s cells each. -/
def From (P : Program) (t : TypeId) (s : Nat) (x : Value) (m : Nat) (nw : Nat → Value) (u : World) : Prop := Src P s t x m (cellsL (m * s) nw) u
theorem From.nil {t e : TypeId} {s B : Nat} (ht : sliceOf P t e s B = true) (c : Nat) (nw : Nat → Value) : From P t s (.slice none 0 c) 0 nw u := by
  unfold From
  rw [show cellsL (0 * s) nw = [] by simp [cellsL]]
  exact Src.ofNil u (sliceOf_parts ht).1 c
theorem From.cells {t e : TypeId} {s B : Nat} (ht : sliceOf P t e s B = true) {ad : Addr} {m c : Nat} {nw : Nat → Value} (hn : ∀ j, j < m * s → u.cell? (ad.add j) = some (nw j)) (h1 : ∀ j, j < m * s → (nw j).oneCell' = true) :
    From P t s (.slice (some ad) m c) m nw u :=
  Src.ofSlice u (sliceOf_parts ht).1 ad m c _ (cellsL_length _ _) (fun j v hv => by obtain ⟨hj, rfl⟩ := cellsL_some hv; exact hn j hj) (fun v hv => by
    simp only [cellsL, List.mem_map, List.mem_range] at hv
    obtain ⟨j, hj, rfl⟩ := hv
    exact h1 j hj)
/-- Out of a block that the call has made. -/
theorem From.block (H : Has w0 u bs) {t e : TypeId} {s B : Nat} (ht : sliceOf P t e s B = true) {te : TypeId} (hm : (g, te, cs) ∈ bs) {m c : Nat} {nw : Nat → Value} (hn : ∀ j, j < m * s → cs[j]? = some (nw j)) (h1 : ∀ j, j < m * s → (nw j).oneCell' = true) :
    From P t s (.slice (some ⟨g, 0, none⟩) m c) m nw u :=
  From.cells ht (fun j hj => by rw [Addr.add_mid, Nat.zero_add, (H.at_ hm).cell]; exact hn j hj) h1
/-- THE LAW of an append onto such a slice. -/
theorem run_append_has {e t ty : TypeId} {s B : Nat} {v x : Value} {n m : Nat} {f nw : Nat → Value} {tl : List (Nat × TypeId × Array Value)} (H : Has w0 u (bs ++ tl)) (R : Rowed e s v n f tl) (ht : sliceOf P t e s B = true)
    (S : From P t s x m nw u) (hlen : n + m ≤ maxLen) (hb : (n + m) * B ≤ 140737488355328) :
    ∃ v' w' tl', (Builtin.append_ #[t, t] ty #[v, x]).run P u = .ok v' w' ∧ Rowed e s v' (n + m) (glue (n * s) f nw) tl' ∧ Has w0 w' (bs ++ tl') := by
  obtain ⟨hu, i, z, hi, hs, hs0, hby, hz, hzs⟩ := sliceOf_parts ht
  have hmx : maxLen = 9223372036854775807 := rfl
  have hms : (n + m) * s = n * s + m * s := Nat.add_mul _ _ _
  have hb' : (n + m) * i.bytes ≤ 140737488355328 := Nat.le_trans (Nat.mul_le_mul_left _ hby) hb
  unfold From at S
  subst hs
  have hbs := H.sub (List.sublist_append_left bs tl)
  -- a new block
  have grown : ∀ (old : Nat), ∃ tl', Rowed e i.size (.slice (some ⟨u.heap.size, 0, none⟩) (n + m) (grownCap u (n + m) old e)) (n + m) (glue (n * i.size) f nw) tl' ∧
        Has w0 (u.drew.alloc (.cells ((cellsL (n * i.size) f ++ cellsL (m * i.size) nw).toArray ++ Builtin.zeroCells z.cells (grownCap u (n + m) old e - (n + m))) e)) (bs ++ tl') := by
    intro old
    have hge := grownCap_ge u (n + m) old e
    have hcm : grownCap u (n + m) old e ≤ maxLen := grownCap_le_maxLen u (n + m) old e (by omega)
    refine ⟨[(u.heap.size, e, (cellsL (n * i.size) f ++ cellsL (m * i.size) nw).toArray ++ Builtin.zeroCells z.cells (grownCap u (n + m) old e - (n + m)))], .inr ⟨u.heap.size, _, _, rfl, rfl, hge, hcm, ?_, fun j hj => ?_⟩, ?_⟩
    · simp only [Array.size_append, List.size_toArray, List.length_append, cellsL_length, size_zeroCells, hzs, ← Nat.add_mul]
      congr 1; omega
    · have hq := glued (k := n * i.size) (m := m * i.size) (f := f) (nw := nw) (extra := (Builtin.zeroCells z.cells (grownCap u (n + m) old e - (n + m))).toList) (i := j) (by rw [← hms]; exact hj)
      rw [← hq, ← Array.getElem?_toList]
      simp
    · exact (hbs.drew.new e _).perm (by simpa using (List.perm_append_comm (l₁ := [(u.heap.size, e, _)]) (l₂ := bs)))
  rcases R with ⟨rfl, rfl, rfl⟩ | ⟨g, cap, cs, rfl, rfl, k1, k2, k3, k4⟩
  · by_cases hm : m = 0
    · subst hm
      refine ⟨.slice none 0 0, u, [], ?_, .inl ⟨rfl, rfl, rfl⟩, H⟩
      have hn0 : cellsL (0 * i.size) nw = [] := by simp [cellsL]
      have h5 := S.cells
      rw [hn0] at h5
      rcases S.kind with ⟨e', hk⟩ | hk <;> simp [Builtin.append_, run_underlying hu, run_underlying hk, sizeOf, typeInfo, hi, S.len, h5]
    · have hr := run_append_grow_src (P := P) u t t ty e i z hu hi hz none 0 0 [] (run_firstCells_none u.drew i.size 0 0 0) x m _ S (by omega) (by omega) (growslice_fits (by omega) hb')
      obtain ⟨tl', q1, q2⟩ := grown 0
      refine ⟨_, _, tl', hr, q1, ?_⟩
      simpa [cellsL] using q2
  · have hA := H.at_ (g := g) (t := e) (cs := cs) (by simp)
    have hns : n * i.size ≤ cap * i.size := Nat.mul_le_mul_right _ k1
    by_cases hroom : n + m ≤ cap
    · have hle : (n + m) * i.size ≤ cap * i.size := Nat.mul_le_mul_right _ hroom
      have hr := run_append_room_src (P := P) u t t ty e i hu hi g 0 n cap x m _ S hroom (fun j hj => by
        rw [cellsL_length] at hj
        rw [hA.cell, Array.getElem?_eq_getElem (by omega)]; rfl) (fun j _ => hA.frozen _)
      rw [Nat.zero_add] at hr
      refine ⟨_, _, [(g, e, patch cs (n * i.size) (cellsL (m * i.size) nw))], hr, .inr ⟨g, cap, _, rfl, rfl, hroom, k2, by rw [patch_size, k3], fun j hj => ?_⟩, H.setCells _ _ _ _⟩
      rw [patch_get _ _ _ _ (by omega), cellsL_length]
      unfold glue
      by_cases hj2 : j < n * i.size
      · rw [if_neg (by omega), if_pos hj2]; exact k4 j hj2
      · rw [if_pos (by omega), if_neg hj2, cellsL_get nw (by omega)]
    · have hr := run_append_grow_src (P := P) u t t ty e i z hu hi hz (some ⟨g, 0, none⟩) n cap (cellsL (n * i.size) f) (run_firstCells_some u.drew i.size n ⟨g, 0, none⟩ n cap _ (cellsL_length _ _) (fun j v hv => by
          obtain ⟨hj, rfl⟩ := cellsL_some hv
          rw [Addr.add_mid, Nat.zero_add, World.cell?_drew, hA.cell]; exact k4 j hj)) x m _ S (by omega) (by omega) (growslice_fits (by omega) hb')
      obtain ⟨tl', q1, q2⟩ := grown cap
      exact ⟨_, _, tl', hr, q1, q2⟩
theorem wp_append_has (s_ x_ : Operand) (t : TypeId) (ho : o.op = .call { callee := .builtin .append, args := #[s_, x_], argTypes := #[t, t] })
    {e : TypeId} {s B : Nat} {v x : Value} {n m : Nat} {f nw : Nat → Value} {tl : List (Nat × TypeId × Array Value)} (H : Has w0 u (bs ++ tl)) (R : Rowed e s v n f tl) (hs : a.eval s_ = v) (hx : a.eval x_ = x) (ht : sliceOf P t e s B = true)
    (S : From P t s x m nw u) (hlen : n + m ≤ maxLen) (hb : (n + m) * B ≤ 140737488355328)
    (h : ∀ v' u' tl', Rowed e s v' (n + m) (glue (n * s) f nw) tl' → Has w0 u' (bs ++ tl') → K (a.put o.dst v') u') : o.wp P a u K Q := by
  obtain ⟨v', w', tl', hr, h2, h3⟩ := run_append_has (P := P) (ty := o.type) H R ht S hlen hb
  unfold Oper.wp execOp
  simp only [ho, resolve, invoke, builtin, Sem.run_bind, Sem.run_pure, Result.andThen_ok, List.map_toArray, List.map_cons, List.map_nil, hs, hx, hr]
  exact h v' w' tl' h2 h3

/-! ### Results -/
theorem results_one {fn : Func} {p : Tmp} {ty : TypeId} (h : fn.results = #[.cell p ty]) (tmps : Array Value) (H : Has w0 u bs) (hp : tmps.getD p undef = .pointer (some ⟨g, 0, none⟩)) (hm : (g, t, cs) ∈ bs) (ha : aggOf P ty cs.size = true) :
    (results fn tmps).run P u = .ok (.agg cs) u := by
  obtain ⟨d, h1, h2, h3⟩ := aggOf_parts ha
  simp only [results, h]
  simp [Sem.run_bind, Result.andThen, asAddr]
  have hp' : tmps[p]?.getD undef = .pointer (some ⟨g, 0, none⟩) := by simpa using hp
  rw [hp']
  simp [run_loadVar_row u g t ty cs (0, 0) d (H.at_ hm) h1 (by cases d <;> simp_all) h3]
theorem results_tct {fn : Func} {v p v' : Tmp} {ty : TypeId} (h : fn.results = #[.tmp v, .cell p ty, .tmp v']) (tmps : Array Value) (H : Has w0 u bs) (hp : tmps.getD p undef = .pointer (some ⟨g, 0, none⟩)) (hm : (g, t, cs) ∈ bs) (ha : aggOf P ty cs.size = true) :
    (results fn tmps).run P u = .ok (.tuple #[tmps.getD v undef, .agg cs, tmps.getD v' undef]) u := by
  obtain ⟨d, h1, h2, h3⟩ := aggOf_parts ha
  simp only [results, h]
  simp [Sem.run_bind, Result.andThen, asAddr]
  have hp' : tmps[p]?.getD undef = .pointer (some ⟨g, 0, none⟩) := by simpa using hp
  rw [hp']
  simp [run_loadVar_row u g t ty cs (0, 0) d (H.at_ hm) h1 (by cases d <;> simp_all) h3]
end
end Go.Proofs.YtcoicmbjoaonoaaDoor
