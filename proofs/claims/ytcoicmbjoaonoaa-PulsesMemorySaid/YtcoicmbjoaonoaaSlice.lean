/-
  Slices of integers: how they read, and copies. Laws at single operations. No statement is proved here.
-/
import Derived.Test.YtcoicmbjoaonoaaParts
import Derived.Test.YtcoicmbjoaonoaaMade
import Derived.Laws.IdiomCopy
import Derived.Laws.MakeOwn
namespace Go.Proofs.Ytcoicmbjoaonoaa
open Go.RowKit
/-- A slice of n integers that lies at b, o (where it has any). -/
structure Reads (w : World) (p : Option Addr) (n b o : Nat) (f : Nat → Int) : Prop where
  ptr : 0 < n → p = some ⟨b, o, none⟩
  cell : ∀ i, i < n → w.cell? ⟨b, o + i, none⟩ = some (.int .i64 (f i))
theorem Reads.nilS (w : World) (f : Nat → Int) : Reads w none 0 0 0 f := ⟨fun h => by omega, fun i hi => by omega⟩
/-- A slice of n integers at whatever address. -/
structure ReadsA (w : World) (p : Option Addr) (n : Nat) (ad : Addr) (f : Nat → Int) : Prop where
  ptr : 0 < n → p = some ad
  cell : ∀ i, i < n → w.cell? (ad.add i) = some (.int .i64 (f i))
section
variable {P : Program} {o : Oper} {a : Act} {K : Act → World → Prop} {Q : Exit → Act → World → Prop} {w0 u : World} {bs l1 l2 : List (Nat × TypeId × Array Value)} {g : Nat} {t : TypeId} {cs : Array Value}
theorem Reads.has {p : Option Addr} {n b k : Nat} {f : Nat → Int} (h : Reads w0 p n b k f) (H : Has w0 u bs) : Reads u p n b k f := ⟨h.ptr, fun i hi => H.old_cell (h.cell i hi)⟩
theorem Reads.below {p : Option Addr} {n b k : Nat} {f : Nat → Int} (h : Reads w0 p n b k f) (hb : Below w0.heap.size w0 u) : Reads u p n b k f := ⟨h.ptr, fun i hi => by rw [← h.cell i hi]; exact hb.cell (block_lt_of_cell (h.cell i hi))⟩
theorem Reads.congr {p : Option Addr} {n b k : Nat} {f f' : Nat → Int} (h : Reads u p n b k f) (e : ∀ i, i < n → f i = f' i) : Reads u p n b k f' := ⟨h.ptr, fun i hi => by rw [← e i hi]; exact h.cell i hi⟩
theorem Reads.ofRow {n m : Nat} {f : Nat → Int} (H : Has w0 u bs) (hm : (g, t, row m f) ∈ bs) (h : n ≤ m) : Reads u (some ⟨g, 0, none⟩) n g 0 f :=
  ⟨fun _ => rfl, fun i hi => by rw [Nat.zero_add, (H.at_ hm).cell, row_get f (by omega)]⟩
theorem Reads.part {n m k : Nat} {f : Nat → Int} (H : Has w0 u bs) (hm : (g, t, row m f) ∈ bs) (h : k + n ≤ m) : Reads u (some ⟨g, k, none⟩) n g k (fun i => f (k + i)) :=
  ⟨fun _ => rfl, fun i hi => by rw [(H.at_ hm).cell, row_get f (by omega)]⟩
/-- A slice made by appends reads. -/
theorem Rowed.reads {e : TypeId} {v : Value} {n : Nat} {f : Nat → Int} {tl : List (Nat × TypeId × Array Value)} (R : Rowed e 1 v n (fun i => .int .i64 (f i)) tl) (H : Has w0 u (bs ++ tl)) :
    ∃ p cap b, v = .slice p n cap ∧ n ≤ cap ∧ Reads u p n b 0 f ∧ (n = 0 ∨ ∃ cs, tl = [(b, e, cs)] ∧ p = some ⟨b, 0, none⟩) := by
  rcases R with ⟨rfl, rfl, rfl⟩ | ⟨g, cap, cs, rfl, rfl, h1, h2, h3, h4⟩
  · exact ⟨none, 0, 0, rfl, Nat.le_refl _, Reads.nilS u f, .inl rfl⟩
  · refine ⟨some ⟨g, 0, none⟩, cap, g, rfl, h1, ⟨fun _ => rfl, fun i hi => ?_⟩, .inr ⟨cs, rfl, rfl⟩⟩
    rw [Nat.zero_add, (H.at_ (g := g) (t := e) (cs := cs) (by simp)).cell]
    exact h4 i (by omega)
/-- A slice made by appends, where it has any element. -/
theorem Rowed.some_ {e : TypeId} {s : Nat} {v : Value} {n : Nat} {f : Nat → Value} {tl : List (Nat × TypeId × Array Value)} (R : Rowed e s v n f tl) (hn : 0 < n) :
    ∃ g cap cs, v = .slice (some ⟨g, 0, none⟩) n cap ∧ tl = [(g, e, cs)] ∧ n ≤ cap ∧ cs.size = cap * s ∧ ∀ i, i < n * s → cs[i]? = some (f i) := by
  rcases R with ⟨_, h, _⟩ | ⟨g, cap, cs, h1, h2, h3, h4, h5, h6⟩
  · omega
  · exact ⟨g, cap, cs, h1, h2, h3, h5, h6⟩
theorem Rowed.shape {e : TypeId} {s : Nat} {v : Value} {n : Nat} {f : Nat → Value} {tl : List (Nat × TypeId × Array Value)} (R : Rowed e s v n f tl) : ∃ p cap, v = .slice p n cap ∧ n ≤ cap := by
  rcases R with ⟨rfl, rfl, rfl⟩ | ⟨g, cap, cs, rfl, _, h3, _⟩
  · exact ⟨none, 0, rfl, Nat.le_refl _⟩
  · exact ⟨_, cap, rfl, h3⟩
/-- It reads so now. -/
theorem Rowed.now {e : TypeId} {p : Option Addr} {n m cap : Nat} {f : Nat → Int} {tl bs' : List (Nat × TypeId × Array Value)} (R : Rowed e 1 (.slice p n cap) m (fun i => .int .i64 (f i)) tl) (H : Has w0 u bs') (hs : tl.Sublist bs') :
    m = n ∧ ∃ b, Reads u p n b 0 f := by
  rcases R with ⟨h0, h1, rfl⟩ | ⟨g, cap', cs, h0, rfl, h1, h2, h3, h4⟩
  · injection h0 with e1 e2 e3
    subst e1 e2 e3
    exact ⟨h1, 0, Reads.nilS u f⟩
  · injection h0 with e1 e2 e3
    subst e1 e2 e3
    refine ⟨rfl, g, ⟨fun _ => rfl, fun i hi => ?_⟩⟩
    rw [Nat.zero_add, ((H.sub hs).at_ (g := g) (t := e) (cs := cs) (by simp)).cell]
    exact h4 i (by omega)
theorem Reads.ofCells {n : Nat} {f : Nat → Int} (H : Has w0 u bs) (hm : (g, t, cs) ∈ bs) (h : ∀ i, i < n → cs[i]? = some (.int .i64 (f i))) : Reads u (some ⟨g, 0, none⟩) n g 0 f :=
  ⟨fun _ => rfl, fun i hi => by rw [Nat.zero_add, (H.at_ hm).cell]; exact h i hi⟩
theorem Rowed.congr {e : TypeId} {s : Nat} {v : Value} {n : Nat} {f f' : Nat → Value} {tl : List (Nat × TypeId × Array Value)} (R : Rowed e s v n f tl) (h : ∀ i, i < n * s → f i = f' i) : Rowed e s v n f' tl := by
  rcases R with hn | ⟨g, cap, cs, h0, h1, h2, h3, h4, h5⟩
  · exact .inl hn
  · exact .inr ⟨g, cap, cs, h0, h1, h2, h3, h4, fun i hi => by rw [← h i hi]; exact h5 i hi⟩
/-- One number more. -/
theorem Rowed.snoc {e : TypeId} {v : Value} {n : Nat} {f : Nat → Int} {y : Int} {tl : List (Nat × TypeId × Array Value)} (R : Rowed e 1 v (n + 1) (glue (n * 1) (fun i => .int .i64 (f i)) (fun _ => .int .i64 y)) tl) (h : f n = y) :
    Rowed e 1 v (n + 1) (fun i => .int .i64 (f i)) tl := R.congr fun i hi => by
  unfold glue
  by_cases hn : i < n * 1
  · rw [if_pos hn]
  · obtain rfl : i = n := by omega
    rw [if_neg hn, h]
/-- A number of such a slice, read. -/
theorem wp_load_num {p : Option Addr} {n b k : Nat} {f : Nat → Int} (R : Reads u p n b k f) (ty : TypeId) (x : Operand) (ho : o.op = .load ty x) {i : Nat} (hx : a.eval x = .pointer (some ⟨b, k + i, none⟩)) (hs : scalarOf P ty = true) (hi : i < n)
    (h : K (a.put o.dst (.int .i64 (f i))) u) : o.wp P a u K Q := by
  have hc := R.cell i hi
  unfold Oper.wp execOp
  simp only [ho, hx, Instr.loadAt, Instr.sureAddr, Sem.run_bind, Sem.run_pure, Result.andThen_ok, run_loadVar_one hs hc]
  exact h
theorem ReadsA.has {p : Option Addr} {n : Nat} {ad : Addr} {f : Nat → Int} (h : ReadsA w0 p n ad f) (H : Has w0 u bs) : ReadsA u p n ad f := ⟨h.ptr, fun i hi => H.old_cell (h.cell i hi)⟩
theorem ReadsA.below {p : Option Addr} {n : Nat} {ad : Addr} {f : Nat → Int} (h : ReadsA w0 p n ad f) (hb : Below w0.heap.size w0 u) : ReadsA u p n ad f := ⟨h.ptr, fun i hi => by rw [← h.cell i hi]; exact hb.cell (block_lt_of_cell (h.cell i hi))⟩
theorem Reads.toA {p : Option Addr} {n b k : Nat} {f : Nat → Int} (h : Reads u p n b k f) : ReadsA u p n ⟨b, k, none⟩ f := ⟨h.ptr, fun i hi => by rw [Addr.add_mid]; exact h.cell i hi⟩
theorem wp_load_numA {p : Option Addr} {n : Nat} {ad : Addr} {f : Nat → Int} (R : ReadsA u p n ad f) (ty : TypeId) (x : Operand) (ho : o.op = .load ty x) {i : Nat} (hx : a.eval x = .pointer (some (ad.add i))) (hs : scalarOf P ty = true) (hi : i < n)
    (h : K (a.put o.dst (.int .i64 (f i))) u) : o.wp P a u K Q := by
  have hc := R.cell i hi
  unfold Oper.wp execOp
  simp only [ho, hx, Instr.loadAt, Instr.sureAddr, Sem.run_bind, Sem.run_pure, Result.andThen_ok, run_loadVar_one hs hc]
  exact h
theorem ones_load_num {ops : Array Oper} {quiet : List Nat} {rest : List Oper} {p : Option Addr} {n b k : Nat} {f : Nat → Int} (R : Reads u p n b k f) (ty : TypeId) (x : Operand) (hk : kindOf quiet o = 2) (hg : Region.wanted o (yielded ops a.tmps) = true) (ho : o.op = .load ty x) {i : Nat} (hx : a.eval x = .pointer (some ⟨b, k + i, none⟩)) (hs : scalarOf P ty = true) (hi : i < n)
    (h : Ones P ops quiet Q rest (a.put o.dst (.int .i64 (f i))) u) : Ones P ops quiet Q (o :: rest) a u := by
  have hc := R.cell i hi
  refine ones_here hk hg ?_ h
  unfold execOp
  simp only [ho, hx, Instr.loadAt, Instr.sureAddr, Sem.run_bind, Sem.run_pure, Result.andThen_ok, run_loadVar_one hs hc]
theorem ones_eff_run {ops : Array Oper} {quiet : List Nat} {rest : List Oper} {v : Value} (hk : kindOf quiet o = 4) (hg : Region.wanted o (yielded ops a.tmps) = true)
    (hr : (execOp a.eval o).run P u = .ok (.value v) u) (h : Ones P ops quiet Q rest (a.put o.dst v) u) : Ones P ops quiet Q (o :: rest) a u :=
  ones_eff hk hg fun K hK => by unfold Oper.wp; rw [hr]; exact hK _ _ h
theorem row_cellsL (n : Nat) (f : Nat → Int) : (row n f).toList = cellsL n (fun i => .int .i64 (f i)) := by simp [row, cellsL]
theorem row_patchL {n k m : Nat} (f g : Nat → Int) (h : k + m ≤ n) : patch (row n f) k (cellsL m fun i => .int .i64 (g i)) = row n (fun i => if k ≤ i ∧ i < k + m then g (i - k) else f i) := by
  rw [← row_cellsL, row_patch f g h]
theorem madeCells_int (n : Nat) : madeCells #[Value.int .i64 0] n = row n (fun _ => 0) := by
  unfold madeCells row
  apply Array.ext
  · simp
  · intro i h1 h2
    simp [Nat.mod_one]
/-- A slice of noughts. -/
theorem wp_make_has (H : Has w0 u bs) {t_ e : TypeId} (x y : Operand) (ho : o.op = .makeSlice t_ x y) (n : Int) (k1 k2 : IntKind) (hx : a.eval x = .int k1 n) (hy : a.eval y = .int k2 n) (ht : sliceOf P t_ e 1 8 = true) (hz : (P.info? e).bind (·.zero) = some (.int .i64 0)) (h0 : 0 ≤ n) (hn : n ≤ 17592186044416)
    (h : ∀ u' g, Has w0 u' ((g, e, row n.toNat fun _ => 0) :: bs) → K (a.put o.dst (.slice (some ⟨g, 0, none⟩) n.toNat n.toNat)) u') : o.wp P a u K Q := by
  obtain ⟨hu, i, z, hi, hs, _, hb, hz1, _⟩ := sliceOf_parts ht
  have hzz : z = .int .i64 0 := by
    rw [hi] at hz
    simp only [Option.bind_some, hz1] at hz
    exact Option.some.inj hz
  subst hzz
  have hbn : (i.bytes : Int) * n ≤ 281474976710656 := by
    have := Int.mul_le_mul_of_nonneg_right (show (i.bytes : Int) ≤ 8 by omega) h0
    omega
  have hr := run_make (P := P) u t_ e i (.int .i64 0) hu hi hz1 k1 k2 n n h0 (Int.le_refl _) hbn (by omega)
  rw [hs, Nat.mul_one, show (Value.int IntKind.i64 0).cells = #[Value.int .i64 0] from rfl, madeCells_int] at hr
  unfold Oper.wp execOp
  simp only [ho, hx, hy, Sem.run_bind, hr, Result.andThen_ok, Sem.run_pure]
  exact h _ _ (H.new e _)
/-- Numbers copied into a block of the call's own. -/
theorem wp_copy_has (H : Has w0 u (l1 ++ (g, t, cs) :: l2)) (x y : Operand) (dT sT e : TypeId) (ho : o.op = .call { callee := .builtin .copy, args := #[x, y], argTypes := #[dT, sT] })
    {k dLen dCap sLen sCap m : Nat} {ad : Addr} {nw : Nat → Int} {cs' : Array Value} (hx : a.eval x = .slice (some ⟨g, k, none⟩) dLen dCap) (hy : a.eval y = .slice (some ad) sLen sCap) (hd : sliceOf P dT e 1 8 = true) (hm : Nat.min sLen dLen = m)
    (hsrc : ∀ j, j < m → u.cell? (ad.add j) = some (.int .i64 (nw j))) (hk : k + m ≤ cs.size) (hp : patch cs k (cellsL m fun i => .int .i64 (nw i)) = cs')
    (h : ∀ u', Has w0 u' (l1 ++ (g, t, cs') :: l2) → K (a.put o.dst (goInt m)) u') : o.wp P a u K Q := by
  obtain ⟨hu, i, z, hi, hs, _⟩ := sliceOf_parts hd
  have hA := H.at_ (g := g) (t := t) (cs := cs) (by simp)
  have hr := run_copy_cells (P := P) u dT sT o.type e g k dLen dCap ad sLen sCap (cellsL m fun i => .int .i64 (nw i)) hu (by rw [hi]; simp [hs]) (by rw [cellsL_length, hm])
    (fun j v hv => by obtain ⟨hj, rfl⟩ := cellsL_some hv; exact hsrc j hj)
    (fun j hj => by rw [cellsL_length] at hj; rw [hA.cell, Array.getElem?_eq_getElem (by omega)]; rfl) (fun j _ => hA.frozen _)
    (fun v hv => by
      simp only [cellsL, List.mem_map, List.mem_range] at hv
      obtain ⟨j, _, rfl⟩ := hv
      rfl)
  rw [cellsL_length] at hr
  subst hp
  unfold Oper.wp execOp
  simp only [ho, resolve, invoke, builtin, Sem.run_bind, Sem.run_pure, Result.andThen_ok, List.map_toArray, List.map_cons, List.map_nil, hx, hy, hr]
  exact h _ (H.setCells _ _ _ _)
end
end Go.Proofs.Ytcoicmbjoaonoaa
