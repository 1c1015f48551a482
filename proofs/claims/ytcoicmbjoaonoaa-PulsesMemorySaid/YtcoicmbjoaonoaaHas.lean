/-
  What the call has made so far: its own blocks, each by its address and its cells; and laws at single operations in these words. No statement is proved here.
-/
import Derived.Test.YtcoicmbjoaonoaaGen
import Derived.Test.YtcoicmbjoaonoaaReg
namespace Go.Proofs.Ytcoicmbjoaonoaa
open Go.RowKit

/-- Of the world w0 nothing has turned; besides, these blocks lie at these addresses. -/
structure Has (w0 u : World) (bs : List (Nat × TypeId × Array Value)) : Prop where
  below : Below w0.heap.size w0 u
  all : ∀ b ∈ bs, w0.heap.size ≤ b.1 ∧ b.1 < u.heap.size ∧ At u b.1 b.2.1 b.2.2
  apart : bs.Pairwise fun a b => a.1 ≠ b.1

section
variable {w0 u u' : World} {bs : List (Nat × TypeId × Array Value)} {g : Nat} {t : TypeId} {cs : Array Value}
theorem Has.start (w : World) : Has w w [] := ⟨Below.refl _ _, by simp, List.Pairwise.nil⟩
theorem Has.at_ (h : Has w0 u bs) (hm : (g, t, cs) ∈ bs) : At u g t cs := (h.all _ hm).2.2
theorem Has.ge_ (h : Has w0 u bs) (hm : (g, t, cs) ∈ bs) : w0.heap.size ≤ g := (h.all _ hm).1
theorem Has.lt_ (h : Has w0 u bs) (hm : (g, t, cs) ∈ bs) : g < u.heap.size := (h.all _ hm).2.1
theorem Has.sub (h : Has w0 u bs) {bs' : List (Nat × TypeId × Array Value)} (hs : bs'.Sublist bs) : Has w0 u bs' :=
  ⟨h.below, fun b hb => h.all b (hs.subset hb), h.apart.sublist hs⟩
theorem Has.tail {b : Nat × TypeId × Array Value} (h : Has w0 u (b :: bs)) : Has w0 u bs := h.sub (List.sublist_cons_self _ _)
theorem Has.drew (h : Has w0 u bs) : Has w0 u.drew bs := ⟨h.below.drew, h.all, h.apart⟩
theorem Has.drewN (h : Has w0 u bs) (n : Nat) : Has w0 (u.drewN n) bs := ⟨below_drewN h.below n, h.all, h.apart⟩
theorem Has.callee (h : Has w0 u bs) (hb : Below u.heap.size u u') : Has w0 u' bs :=
  ⟨h.below.trans (hb.mono h.below.size), fun b hm => let ⟨h1, h2, h3⟩ := h.all b hm; ⟨h1, Nat.lt_of_lt_of_le h2 hb.size, h3.below hb h2⟩, h.apart⟩
theorem Has.new (h : Has w0 u bs) (t : TypeId) (cs : Array Value) : Has w0 (u.alloc (.cells cs t)) ((u.heap.size, t, cs) :: bs) := by
  refine ⟨h.below.alloc h.below.size _, fun b hb => ?_, ?_⟩
  · rcases List.mem_cons.1 hb with rfl | hb
    · exact ⟨h.below.size, by simp, At.new _ _ _⟩
    · obtain ⟨h1, h2, h3⟩ := h.all b hb
      exact ⟨h1, by simp; omega, h3.alloc _⟩
  · exact List.pairwise_cons.2 ⟨fun b hb => by have := (h.all b hb).2.1; simp; omega, h.apart⟩
/-- A world that is as u but for block g. -/
theorem Has.turn {l1 l2 : List (Nat × TypeId × Array Value)} {cs' : Array Value} (h : Has w0 u (l1 ++ (g, t, cs) :: l2)) (hA : At u' g t cs') (hs : u'.heap.size = u.heap.size) (ho : u'.os = u.os) (ht : u'.tape = u.tape) (hp : u'.output = u.output)
    (hk : ∀ k, k ≠ g → u'.heap[k]? = u.heap[k]?) : Has w0 u' (l1 ++ (g, t, cs') :: l2) := by
  have hg := h.all (g, t, cs) (by simp)
  refine ⟨⟨ho.trans h.below.os, ht.trans h.below.tape, hp.trans h.below.output, by rw [hs]; exact h.below.size, fun k hlt => (hk k (by omega)).trans (h.below.block k hlt)⟩, fun b hb => ?_, ?_⟩
  · have hcase : b = (g, t, cs') ∨ (b ∈ l1 ++ (g, t, cs) :: l2 ∧ b.1 ≠ g) := by
      rcases List.mem_append.1 hb with hb | hb
      · refine .inr ⟨by simp [hb], ?_⟩
        exact (List.pairwise_append.1 h.apart).2.2 b hb (g, t, cs) (by simp)
      · rcases List.mem_cons.1 hb with rfl | hb
        · exact .inl rfl
        · refine .inr ⟨by simp [hb], ?_⟩
          exact fun e => (List.pairwise_cons.1 (List.pairwise_append.1 h.apart).2.1).1 b hb e.symm
    rcases hcase with rfl | ⟨hm, hne⟩
    · exact ⟨hg.1, by rw [hs]; exact hg.2.1, hA⟩
    · obtain ⟨h1, h2, h3⟩ := h.all b hm
      exact ⟨h1, by omega, (hk b.1 hne).trans h3⟩
  · have hp := h.apart
    rw [List.pairwise_append, List.pairwise_cons] at hp ⊢
    obtain ⟨p1, ⟨p2, p3⟩, p4⟩ := hp
    refine ⟨p1, ⟨p2, p3⟩, fun a ha b hb => ?_⟩
    rcases List.mem_cons.1 hb with rfl | hb
    · exact p4 a ha (g, t, cs) (by simp)
    · exact p4 a ha b (by simp [hb])
theorem Has.set_ {l1 l2 : List (Nat × TypeId × Array Value)} (h : Has w0 u (l1 ++ (g, t, cs) :: l2)) (i : Nat) (v : Value) : Has w0 (u.setCell ⟨g, i, none⟩ v) (l1 ++ (g, t, cs.setIfInBounds i v) :: l2) :=
  h.turn ((h.at_ (cs := cs) (by simp)).set_ i v) (by simp [World.setCell]) rfl rfl rfl (fun k hk => heap_setCell_other u _ k v hk)
theorem Has.setRow_ {l1 l2 : List (Nat × TypeId × Array Value)} (h : Has w0 u (l1 ++ (g, t, cs) :: l2)) (cs' : Array Value) : Has w0 (u.setRow g cs') (l1 ++ (g, t, cs') :: l2) :=
  h.turn ((h.at_ (cs := cs) (by simp)).setRow cs') (by simp) rfl rfl rfl (fun k hk => setRow_other u g k cs' hk)
theorem Has.out (h : Has w0 u bs) : Below w0.heap.size w0 u := h.below
end

/-! ### Laws at one operation. 'm': where in the list the block stands. -/
section
variable {P : Program} {o : Oper} {a : Act} {K : Act → World → Prop} {Q : Exit → Act → World → Prop} {w0 u : World} {bs l1 l2 : List (Nat × TypeId × Array Value)} {g : Nat} {t : TypeId} {cs : Array Value}
/-- The type is an array or a struct of so many cells. -/
def aggOf (P : Program) (ty : TypeId) (n : Nat) : Bool :=
  (match P.underlying ty with | some (.struct _) | some (.array _ _) => true | _ => false) && (P.info? ty).map (·.size) == some n
theorem aggOf_parts {ty : TypeId} {n : Nat} (h : aggOf P ty n = true) : ∃ d, P.underlying ty = some d ∧ (match d with | .struct _ | .array _ _ => true | _ => false) = true ∧ (P.info? ty).map (·.size) = some n := by
  unfold aggOf at h
  simp only [Bool.and_eq_true, beq_iff_eq] at h
  obtain ⟨h1, h2⟩ := h
  cases hd : P.underlying ty with
  | none => simp [hd] at h1
  | some d => exact ⟨d, rfl, by cases d <;> simp_all, h2⟩

theorem run_newVar (w : World) (ty : TypeId) (v : Value) : (newVar ty v).run P w = .ok ⟨w.heap.size, 0, none⟩ (w.alloc (.cells v.cells ty)) := by
  simp [newVar, newRow, Sem.run_bind]
/-- A parameter that gets a block of its own. -/
theorem wp_box (H : Has w0 u bs) (ty : TypeId) (x : Operand) (ho : o.op = .box ty x) {v : Value} (hx : a.eval x = v)
    (h : ∀ u' g, Has w0 u' ((g, ty, v.cells) :: bs) → K (a.put o.dst (.pointer (some ⟨g, 0, none⟩))) u') : o.wp P a u K Q := by
  have := h _ _ (H.new ty v.cells)
  unfold Oper.wp execOp
  simp only [ho, hx, Instr.box, Sem.run_bind, run_newVar, Result.andThen_ok, Sem.run_pure]
  exact this
theorem wp_alloc (H : Has w0 u bs) (ty : TypeId) (ho : o.op = .alloc ty) {z : Value} (hz : (P.info? ty).bind (·.zero) = some z)
    (h : ∀ u' g, Has w0 u' ((g, ty, z.cells) :: bs) → K (a.put o.dst (.pointer (some ⟨g, 0, none⟩))) u') : o.wp P a u K Q := by
  have := h _ _ (H.new ty z.cells)
  have hz' : (zeroValue ty).run P u = .ok z u := by
    cases hi : P.info? ty with
    | none => simp [hi] at hz
    | some i => simp [hi] at hz; simp [zeroValue, typeInfo, hi, hz]
  unfold Oper.wp execOp
  simp only [ho, Instr.alloc, Sem.run_bind, hz', run_newVar, Result.andThen_ok, Sem.run_pure]
  exact this
/-- A whole block read. -/
theorem wp_load_all (H : Has w0 u bs) (ty : TypeId) (x : Operand) (ho : o.op = .load ty x) (hx : a.eval x = .pointer (some ⟨g, 0, none⟩)) (hm : (g, t, cs) ∈ bs) (ha : aggOf P ty cs.size = true)
    (h : K (a.put o.dst (.agg cs)) u) : o.wp P a u K Q := by
  obtain ⟨d, h1, h2, h3⟩ := aggOf_parts ha
  exact wp_load_row ty x ho g hx t cs (0, 0) d (H.at_ hm) h1 (by cases d <;> simp_all) h3 h
/-- A whole block written. -/
theorem wp_store_all (H : Has w0 u (l1 ++ (g, t, cs) :: l2)) (ty : TypeId) (x y : Operand) (ho : o.op = .store ty x y) {cs' : Array Value} (hx : a.eval x = .pointer (some ⟨g, 0, none⟩)) (hy : a.eval y = .agg cs')
    (ha : aggOf P ty cs'.size = true) (hs : cs.size = cs'.size) (h1 : cs'.all (·.oneCell') = true) (h : ∀ u', Has w0 u' (l1 ++ (g, t, cs') :: l2) → K (a.put o.dst undef) u') : o.wp P a u K Q := by
  obtain ⟨d, _, _, h3⟩ := aggOf_parts ha
  exact wp_store_row ty x y ho g cs' hx hy t cs (H.at_ (cs := cs) (by simp)) h3 hs h1 (h _ (H.setRow_ cs'))
/-- The type is one cell wide. -/
def scalarOf (P : Program) (ty : TypeId) : Bool :=
  (match P.underlying ty with | some (.struct _) | some (.array _ _) | none => false | _ => true) && (P.info? ty).map (·.size) == some 1
theorem scalarOf_parts {ty : TypeId} (h : scalarOf P ty = true) (w : World) : (isAgg ty).run P w = .ok false w ∧ (P.info? ty).map (·.size) = some 1 := by
  unfold scalarOf at h
  simp only [Bool.and_eq_true, beq_iff_eq] at h
  obtain ⟨h1, h2⟩ := h
  refine ⟨?_, h2⟩
  cases hd : P.underlying ty with
  | none => simp [hd] at h1
  | some d =>
    unfold isAgg
    rw [Sem.run_bind, run_underlying hd w]
    cases d <;> simp_all
theorem run_loadVar_one {w : World} {ty : TypeId} (hs : scalarOf P ty = true) {p : Addr} {v : Value} (hc : w.cell? p = some v) : (loadVar ty p).run P w = .ok v w := by
  simp [loadVar, Sem.run_bind, (scalarOf_parts hs w).1, hc]
theorem run_storeVar_one {w : World} {ty : TypeId} (hs : scalarOf P ty = true) {p : Addr} {v old : Value} (hv : v.oneCell' = true) (hc : w.cell? p = some old) (hf : w.frozen? p = false) : (storeVar ty p v).run P w = .ok () (w.setCell p v) := by
  have hcells : v.cells = #[v] := by cases v <;> simp_all [Value.cells, Value.oneCell']
  have hst := run_store P w p v .plain hv
  simp only [hc, hf] at hst
  cases hq : P.info? ty with
  | none => have := (scalarOf_parts hs w).2; simp [hq] at this
  | some i =>
    have hi : i.size = 1 := by have := (scalarOf_parts hs w).2; simpa [hq] using this
    simp [storeVar, sizeOf, typeInfo, hq, hi, hcells, storeCells, Addr.add, hst]
/-- One cell read. -/
theorem wp_load_one (H : Has w0 u bs) (ty : TypeId) (x : Operand) (ho : o.op = .load ty x) {i : Nat} {v : Value} (hx : a.eval x = .pointer (some ⟨g, i, none⟩)) (hm : (g, t, cs) ∈ bs) (hs : scalarOf P ty = true) (hv : cs[i]? = some v)
    (h : K (a.put o.dst v) u) : o.wp P a u K Q := by
  have hc : u.cell? ⟨g, i, none⟩ = some v := by rw [(H.at_ hm).cell]; exact hv
  unfold Oper.wp execOp
  simp only [ho, hx, Instr.loadAt, Instr.sureAddr, Sem.run_bind, Sem.run_pure, Result.andThen_ok, run_loadVar_one hs hc]
  exact h
/-- One cell written. -/
theorem wp_store_one (H : Has w0 u (l1 ++ (g, t, cs) :: l2)) (ty : TypeId) (x y : Operand) (ho : o.op = .store ty x y) {i : Nat} {v : Value} (hx : a.eval x = .pointer (some ⟨g, i, none⟩)) (hy : a.eval y = v) (hs : scalarOf P ty = true) (hi : i < cs.size) (hv : v.oneCell' = true)
    (h : ∀ u', Has w0 u' (l1 ++ (g, t, cs.setIfInBounds i v) :: l2) → K (a.put o.dst undef) u') : o.wp P a u K Q := by
  have hA := H.at_ (g := g) (t := t) (cs := cs) (by simp)
  have hc : u.cell? ⟨g, i, none⟩ = some cs[i] := by rw [hA.cell]; exact Array.getElem?_eq_getElem hi
  have hf := hA.frozen i
  have := h _ (H.set_ i v)
  unfold Oper.wp execOp
  simp only [ho, hx, hy, Instr.storeAt, Instr.sureAddr, Sem.run_bind, Sem.run_pure, Result.andThen_ok, run_storeVar_one hs hv hc hf]
  exact this
/-- A number of a row written. -/
theorem wp_store_row_ {n : Nat} {f : Nat → Int} (H : Has w0 u (l1 ++ (g, t, row n f) :: l2)) (ty : TypeId) (x y : Operand) (ho : o.op = .store ty x y) {i : Nat} {v : Int} (hx : a.eval x = .pointer (some ⟨g, i, none⟩)) (hy : a.eval y = .int .i64 v) (hs : scalarOf P ty = true) (hi : i < n)
    (h : ∀ u', Has w0 u' (l1 ++ (g, t, row n fun j => if j = i then v else f j) :: l2) → K (a.put o.dst undef) u') : o.wp P a u K Q := by
  refine wp_store_one H ty x y ho hx hy hs (by rw [row_size]; exact hi) rfl fun u' H' => h u' ?_
  rw [row_set] at H'; exact H'
theorem results_has {fn : Func} {p v : Tmp} {ty : TypeId} (h : fn.results = #[.cell p ty, .tmp v]) (tmps : Array Value) (H : Has w0 u bs) (hp : tmps.getD p undef = .pointer (some ⟨g, 0, none⟩)) (hm : (g, t, cs) ∈ bs) (ha : aggOf P ty cs.size = true) :
    (results fn tmps).run P u = .ok (.tuple #[.agg cs, tmps.getD v undef]) u := by
  obtain ⟨d, h1, h2, h3⟩ := aggOf_parts ha
  exact results_at h tmps hp (H.at_ hm) h1 (by cases d <;> simp_all) h3
theorem results_has3 {fn : Func} {p v v' : Tmp} {ty : TypeId} (h : fn.results = #[.cell p ty, .tmp v, .tmp v']) (tmps : Array Value) (H : Has w0 u bs) (hp : tmps.getD p undef = .pointer (some ⟨g, 0, none⟩)) (hm : (g, t, cs) ∈ bs) (ha : aggOf P ty cs.size = true) :
    (results fn tmps).run P u = .ok (.tuple #[.agg cs, tmps.getD v undef, tmps.getD v' undef]) u := by
  obtain ⟨d, h1, h2, h3⟩ := aggOf_parts ha
  simp only [results, h]
  simp [Sem.run_bind, Result.andThen, asAddr]
  have hp' : tmps[p]?.getD undef = .pointer (some ⟨g, 0, none⟩) := by simpa using hp
  rw [hp']
  simp [run_loadVar_row u g t ty cs (0, 0) d (H.at_ hm) h1 (by cases d <;> simp_all) h3]
/-! ### In a region that draws -/
variable {ops : Array Oper} {quiet : List Nat} {rest : List Oper}
theorem ones_load_all (H : Has w0 u bs) (ty : TypeId) (x : Operand) (hk : kindOf quiet o = 2) (hg : Region.wanted o (yielded ops a.tmps) = true) (ho : o.op = .load ty x) (hx : a.eval x = .pointer (some ⟨g, 0, none⟩)) (hm : (g, t, cs) ∈ bs) (ha : aggOf P ty cs.size = true)
    (h : Ones P ops quiet Q rest (a.put o.dst (.agg cs)) u) : Ones P ops quiet Q (o :: rest) a u := by
  obtain ⟨d, h1, h2, h3⟩ := aggOf_parts ha
  exact ones_row ty x hk hg ho hx (H.at_ hm) h1 (by cases d <;> simp_all) h3 h
theorem ones_load_one (H : Has w0 u bs) (ty : TypeId) (x : Operand) (hk : kindOf quiet o = 2) (hg : Region.wanted o (yielded ops a.tmps) = true) (ho : o.op = .load ty x) {i : Nat} {v : Value} (hx : a.eval x = .pointer (some ⟨g, i, none⟩)) (hm : (g, t, cs) ∈ bs) (hs : scalarOf P ty = true) (hv : cs[i]? = some v)
    (h : Ones P ops quiet Q rest (a.put o.dst v) u) : Ones P ops quiet Q (o :: rest) a u := by
  have hc : u.cell? ⟨g, i, none⟩ = some v := by rw [(H.at_ hm).cell]; exact hv
  refine ones_here hk hg ?_ h
  unfold execOp
  simp only [ho, hx, Instr.loadAt, Instr.sureAddr, Sem.run_bind, Sem.run_pure, Result.andThen_ok, run_loadVar_one hs hc]
/-! ### In a region of several orders -/
variable {kind : Nat → Nat} {i : Nat} {rst : List Nat} {bs0 : List (Nat × TypeId × Array Value)}
theorem run_load_all (H : Has w0 u bs) (ty : TypeId) (x : Operand) (ho : o.op = .load ty x) (hx : a.eval x = .pointer (some ⟨g, 0, none⟩)) (hm : (g, t, cs) ∈ bs) (ha : aggOf P ty cs.size = true) : (execOp a.eval o).run P u = .ok (.value (.agg cs)) u := by
  obtain ⟨d, h1, h2, h3⟩ := aggOf_parts ha
  unfold execOp
  simp only [ho, hx, Instr.loadAt, Instr.sureAddr, Sem.run_bind, Sem.run_pure, Result.andThen_ok, run_loadVar_row u g t ty cs (0, 0) d (H.at_ hm) h1 (by cases d <;> simp_all) h3]
theorem run_load_one (H : Has w0 u bs) (ty : TypeId) (x : Operand) (ho : o.op = .load ty x) {j : Nat} {v : Value} (hx : a.eval x = .pointer (some ⟨g, j, none⟩)) (hm : (g, t, cs) ∈ bs) (hs : scalarOf P ty = true) (hv : cs[j]? = some v) : (execOp a.eval o).run P u = .ok (.value v) u := by
  have hc : u.cell? ⟨g, j, none⟩ = some v := by rw [(H.at_ hm).cell]; exact hv
  unfold execOp
  simp only [ho, hx, Instr.loadAt, Instr.sureAddr, Sem.run_bind, Sem.run_pure, Result.andThen_ok, run_loadVar_one hs hc]
theorem sq_load_all (ty : TypeId) (x : Operand) (hoi : ops[i]? = some o) (hk : kind i = 1) (hg : Region.wanted o (yielded ops a.tmps) = true) (ho : o.op = .load ty x) (hx : a.eval x = .pointer (some ⟨g, 0, none⟩)) (H : Has w0 u bs0) (hm : (g, t, cs) ∈ bs0) (ha : aggOf P ty cs.size = true)
    (h : Seq_ P ops (fun w' => Has w0 w' bs0) kind Q rst (a.put o.dst (.agg cs)) u) : Seq_ P ops (fun w' => Has w0 w' bs0) kind Q (i :: rst) a u :=
  sq_held hoi hk hg H (fun _ H' => run_load_all H' ty x ho hx hm ha) h
theorem sq_load_one (ty : TypeId) (x : Operand) (hoi : ops[i]? = some o) (hk : kind i = 1) (hg : Region.wanted o (yielded ops a.tmps) = true) (ho : o.op = .load ty x) {j : Nat} {v : Value} (hx : a.eval x = .pointer (some ⟨g, j, none⟩)) (H : Has w0 u bs0) (hm : (g, t, cs) ∈ bs0) (hs : scalarOf P ty = true) (hv : cs[j]? = some v)
    (h : Seq_ P ops (fun w' => Has w0 w' bs0) kind Q rst (a.put o.dst v) u) : Seq_ P ops (fun w' => Has w0 w' bs0) kind Q (i :: rst) a u :=
  sq_held hoi hk hg H (fun _ H' => run_load_one H' ty x ho hx hm hs hv) h
end
end Go.Proofs.Ytcoicmbjoaonoaa
