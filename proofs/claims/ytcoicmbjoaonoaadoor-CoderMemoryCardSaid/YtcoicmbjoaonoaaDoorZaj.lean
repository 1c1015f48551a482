/-
  Several texts of this claim, one behind the other: Table, PowLaw, Pow, Gain, Pitch, QuantLaw, Width. No statement is proved here.
-/
import Derived.Test.YtcoicmbjoaonoaaDoorZac
import Derived.ProofKit
import Derived.LaidMore
import Derived.OpenShut
import Derived.Stop.Joined
import Derived.Test.YtcoicmbjoaonoaaDoorZaa
import Derived.Test.YtcoicmbjoaonoaaDoorZad
import Derived.Test.YtcoicmbjoaonoaaDoorZae
/-
  Package-level tables of integers: how they lie in memory, read whole or one by one; and from the row's condition to that. No statement is proved here.
-/
namespace Go.Proofs.YtcoicmbjoaonoaaDoor
set_option linter.unusedVariables false
set_option linter.unusedSimpArgs false
open Go.RowKit Go.ChangeShapes Go.WideShapes

theorem still_below_ {w w' : World} (h : w = w') : Below w.heap.size w w' := by subst h; exact Below.refl _ _
/-- Block G begins with these n numbers. -/
def Table (G n : Nat) (f : Nat → Int) (w : World) : Prop := ∀ i, i < n → w.cell? ⟨G, i, none⟩ = some (.int .i64 (f i))
section
variable {P : Program} {o : Oper} {a : Act} {K : Act → World → Prop} {Q : Exit → Act → World → Prop} {w0 u : World} {bs : List (Nat × TypeId × Array Value)} {G n : Nat} {f : Nat → Int}
theorem Table.below {w w' : World} (h : Table G n f w) (hb : Below w.heap.size w w') : Table G n f w' := fun i hi => by
  rw [← h i hi]; exact hb.cell (block_lt_of_cell (h i hi))
theorem Table.has {w : World} (h : Table G n f w0) (H : Has w0 w bs) : Table G n f w := fun i hi => H.old_cell (h i hi)
theorem Table.drew {w : World} (h : Table G n f w) : Table G n f w.drew := h
theorem Table.range {w : World} (h : Table G n f w) : w.rangeAt G 0 (row n f).toList := fun j v hv => by
  have hj : j < n := by
    have := (List.getElem?_eq_some_iff.1 hv).1
    simpa [row] using this
  rw [Array.getElem?_toList, row_get f hj] at hv
  rw [Nat.zero_add, h j hj]; exact hv
/-- The whole table, read. -/
theorem wp_load_table (T : Table G n f u) (ty : TypeId) (x : Operand) (ho : o.op = .load ty x) (hx : a.eval x = .pointer (some ⟨G, 0, none⟩)) (ha : aggOf P ty n = true)
    (h : K (a.put o.dst (.agg (row n f))) u) : o.wp P a u K Q := by
  obtain ⟨d, h1, h2, h3⟩ := aggOf_row ha
  exact wp_load_mid ty x ho G 0 hx (row n f).toList d T.range h1 h2 (by simpa [row] using h3) (by simpa using h)
theorem wp_load_entry (T : Table G n f u) (ty : TypeId) (x : Operand) (ho : o.op = .load ty x) {i : Nat} (hx : a.eval x = .pointer (some ⟨G, i, none⟩)) (hs : scalarOf P ty = true) (hi : i < n)
    (h : K (a.put o.dst (.int .i64 (f i))) u) : o.wp P a u K Q := by
  have hc := T i hi
  unfold Oper.wp execOp
  simp only [ho, hx, Instr.loadAt, Instr.sureAddr, Sem.run_bind, Sem.run_pure, Result.andThen_ok, run_loadVar_one hs hc]
  exact h
theorem ones_load_entry {ops : Array Oper} {quiet : List Nat} {rest : List Oper} (T : Table G n f u) (ty : TypeId) (x : Operand) (hk : kindOf quiet o = 2) (hg : Region.wanted o (yielded ops a.tmps) = true) (ho : o.op = .load ty x) {i : Nat} (hx : a.eval x = .pointer (some ⟨G, i, none⟩)) (hs : scalarOf P ty = true) (hi : i < n)
    (h : Ones P ops quiet Q rest (a.put o.dst (.int .i64 (f i))) u) : Ones P ops quiet Q (o :: rest) a u := by
  have hc := T i hi
  refine ones_here hk hg ?_ h
  unfold execOp
  simp only [ho, hx, Instr.loadAt, Instr.sureAddr, Sem.run_bind, Sem.run_pure, Result.andThen_ok, run_loadVar_one hs hc]
theorem laid_cells {H : Type} {enc : TypeId × Value → H} {W : World} {sp : Nat → Bool} {held : Bool} {base fuel : Nat} {t e : TypeId} {cs : Array Value} {l : List Int} {pl : List MemPlace}
    (ht : P.underlying t = some (.array l.length e)) (he : P.underlying e = some (.int .i64)) (hc : P.cellsOf t = l.length) (hce : P.cellsOf e = 1)
    (h : DataW.trod enc P W base sp held fuel t cs.toList = some (.agg (l.map fun i => .lit (.int .i64 i)), pl)) : ∀ i, i < l.length → cs[i]? = some (.int .i64 (l.getD i 0)) := by
  intro i hin
  obtain ⟨xs, m, _, hx, hl, hxl, hi⟩ := DataW.trod_array ht h
  rw [hc] at hl
  have h1 := hi i hin
  rw [hce] at h1
  have hx1 : xs[i]? = some (xs[i]'(by omega)) := List.getElem?_eq_getElem (by omega)
  have hcs : (cs.toList.drop (i * 1)).take 1 = [cs[i]'(by simp at hl; omega)] := by
    have : i < cs.toList.length := by omega
    simp only [Nat.mul_one]
    rw [List.drop_eq_getElem_cons this]
    simp
  rw [hcs, hx1] at h1
  obtain ⟨a, e0, e1, _⟩ := DataW.trod_int he h1
  simp only [Prod.mk.injEq, DataW.agg.injEq] at hx
  have hm := congrArg (fun k => k[i]?) hx.1
  simp only [List.getElem?_map, hx1, Option.map_some, List.getElem?_eq_getElem hin, e1] at hm
  rw [Array.getElem?_eq_getElem (by simp at hl; omega)]
  simp at e0 hm
  rw [e0, ← hm]
  simp [List.getD, hin]
theorem laid_table {W : World} {name : String} {G : Nat} {t e : TypeId} {l : List Int} {rest : List (String × DataW Unit)}
    (hg : P.globalNamed name = some G) (htt : (P.globals[G]?).map (·.type) = some t)
    (ht : P.underlying t = some (.array l.length e)) (he : P.underlying e = some (.int .i64)) (hc : P.cellsOf t = l.length) (hce : P.cellsOf e = 1)
    (hp : (((name, DataW.agg (l.map fun i => .lit (.int .i64 i))) :: rest).all fun x => x.2.handleName?.isNone) = true)
    (h : laidMetH P ((name, .agg (l.map fun i => .lit (.int .i64 i))) :: rest) W) : Table G l.length (fun i => l.getD i 0) W := by
  rw [MakeChecks.laidMetH_plain _ _ _ hp] at h
  obtain ⟨ps, ⟨g0, t0, cs0, f0, p0, q0, hg0, ht0, hv0, hd0, _⟩, _⟩ := h
  obtain rfl := Option.some.inj (hg.symm.trans hg0)
  obtain rfl := Option.some.inj (htt.symm.trans ht0)
  intro i hi
  rw [World.var?_cell hg hv0 i]
  exact laid_cells ht he hc hce hd0 i hi
end
end Go.Proofs.YtcoicmbjoaonoaaDoor
/-
  Powers of two by a table of roots, sizes of pulses: plain Lean, no program. No statement is proved here.
-/
namespace Go.Proofs.YtcoicmbjoaonoaaDoor
set_option linter.unusedVariables false
set_option linter.unusedSimpArgs false
def rootsL : List Nat := [444758425, 203159592, 97181937, 47538611, 23511884, 11692281, 5830311, 2911209, 1454619, 727063, 363470, 181719, 90856, 45427, 22713]
/-- The product by those roots whose bits are set. -/
def powW : List Nat → Nat → Nat → Nat
  | [], x, _ => x
  | r :: rs, x, f => powW rs (if f / 2 ^ rs.length % 2 = 1 then x + x * r / 1073741824 else x) f
/-- Least and greatest product, and whether all of them stand in order. -/
def span : List Nat → Nat → Bool × Nat × Nat
  | [], x => (true, x, x)
  | r :: rs, x => ((span rs x).1 && (span rs (x + x * r / 1073741824)).1 && Nat.ble (span rs x).2.2 (span rs (x + x * r / 1073741824)).2.1, (span rs x).2.1, (span rs (x + x * r / 1073741824)).2.2)
theorem powW_le : ∀ (rs : List Nat) (x f : Nat), x ≤ powW rs x f
  | [], x, _ => Nat.le_refl x
  | r :: rs, x, f => by
    have h := powW_le rs (if f / 2 ^ rs.length % 2 = 1 then x + x * r / 1073741824 else x) f
    unfold powW
    refine Nat.le_trans ?_ h
    split <;> omega
theorem span_law : ∀ (rs : List Nat) (x f g : Nat), (span rs x).1 = true → f % 2 ^ rs.length ≤ g % 2 ^ rs.length →
    powW rs x f ≤ powW rs x g ∧ (span rs x).2.1 ≤ powW rs x f ∧ powW rs x g ≤ (span rs x).2.2
  | [], x, f, g, _, _ => by simp [powW, span]
  | r :: rs, x, f, g, hs, hfg => by
    simp only [span, Bool.and_eq_true, Nat.ble_eq] at hs
    obtain ⟨⟨h1, h2⟩, h3⟩ := hs
    have hL : 0 < 2 ^ rs.length := Nat.two_pow_pos _
    have ef := Nat.div_add_mod (f % (2 ^ rs.length * 2)) (2 ^ rs.length)
    have eg := Nat.div_add_mod (g % (2 ^ rs.length * 2)) (2 ^ rs.length)
    rw [Nat.mod_mul_right_div_self, Nat.mod_mul_right_mod] at ef eg
    rw [List.length_cons, Nat.pow_succ] at hfg
    have hf1 := Nat.mod_lt f hL
    have hg1 := Nat.mod_lt g hL
    have hf2 : f / 2 ^ rs.length % 2 = 0 ∨ f / 2 ^ rs.length % 2 = 1 := by omega
    have hg2 : g / 2 ^ rs.length % 2 = 0 ∨ g / 2 ^ rs.length % 2 = 1 := by omega
    have a0 := span_law rs x f f h1 (Nat.le_refl _)
    have a1 := span_law rs x g g h1 (Nat.le_refl _)
    have b0 := span_law rs (x + x * r / 1073741824) f f h2 (Nat.le_refl _)
    have b1 := span_law rs (x + x * r / 1073741824) g g h2 (Nat.le_refl _)
    simp only [powW, span]
    rcases hf2 with hf2 | hf2 <;> rcases hg2 with hg2 | hg2 <;> rw [hf2] at ef ⊢ <;> rw [hg2] at eg ⊢ <;> simp only [Nat.zero_ne_one, if_true, if_false, Nat.mul_zero, Nat.mul_one, Nat.zero_add] at ef eg ⊢
    · have := span_law rs x f g h1 (by omega)
      omega
    · omega
    · omega
    · have := span_law rs (x + x * r / 1073741824) f g h2 (by omega)
      omega
def powTop : Nat × Nat := (span rootsL 1073741824).2
theorem span_roots : span rootsL 1073741824 = (true, 1073741824, 2147438200) := by decide +kernel
/-- Two to the power of n and f / 2^15. -/
def powN (n f : Nat) : Nat := min (powW rootsL 1073741824 f / 2 ^ (30 - n)) 2147483647
theorem powW_bd (f : Nat) : 1073741824 ≤ powW rootsL 1073741824 f ∧ powW rootsL 1073741824 f < 2147483648 := by
  have h := span_law rootsL 1073741824 f f (by rw [span_roots]) (Nat.le_refl _)
  rw [span_roots] at h
  have := h.2
  simp only at this
  omega
theorem pow2_pos (n : Nat) : (0 : Int) < 2 ^ n := by
  have h := Nat.two_pow_pos n
  have : (0 : Int) < ((2 ^ n : Nat) : Int) := by omega
  simpa using this
theorem pow_le_pow {n m : Nat} (h : n ≤ m) : 2 ^ n ≤ 2 ^ m := Nat.pow_le_pow_right (by omega) h
theorem powN_ge {n f : Nat} (hn : n ≤ 30) : 2 ^ n ≤ powN n f := by
  have hb := powW_bd f
  have hp : 2 ^ n * 2 ^ (30 - n) = 1073741824 := by rw [← Nat.pow_add, show n + (30 - n) = 30 by omega]
  have h1 : 2 ^ n ≤ 2 ^ 30 := pow_le_pow hn
  have h2 : 2 ^ n ≤ powW rootsL 1073741824 f / 2 ^ (30 - n) := by
    rw [Nat.le_div_iff_mul_le (Nat.two_pow_pos _), hp]; exact hb.1
  unfold powN
  omega
theorem powN_lt {n f : Nat} (hn : n ≤ 30) : powN n f < 2 ^ (n + 1) := by
  have hb := powW_bd f
  have hp : 2 ^ (n + 1) * 2 ^ (30 - n) = 2147483648 := by rw [← Nat.pow_add, show n + 1 + (30 - n) = 31 by omega]
  have h2 : powW rootsL 1073741824 f / 2 ^ (30 - n) < 2 ^ (n + 1) := by
    rw [Nat.div_lt_iff_lt_mul (Nat.two_pow_pos _), hp]; exact hb.2
  unfold powN
  omega
theorem powN_mono {n m f g : Nat} (hn : n ≤ 30) (hm : m ≤ 30) (hf : f < 32768) (hg : g < 32768) (h : n < m ∨ n = m ∧ f ≤ g) : powN n f ≤ powN m g := by
  rcases h with h | ⟨rfl, h⟩
  · have h1 := powN_lt (f := f) hn
    have h2 := powN_ge (f := g) hm
    have h3 : 2 ^ (n + 1) ≤ 2 ^ m := pow_le_pow h
    omega
  · have h1 := (span_law rootsL 1073741824 f g (by rw [span_roots]) (by rw [show rootsL.length = 15 from rfl, Nat.mod_eq_of_lt (by omega), Nat.mod_eq_of_lt (by omega)]; exact h)).1
    have h2 := Nat.div_le_div_right (c := 2 ^ (30 - n)) h1
    unfold powN
    omega
/-- The size of a number. -/
def levN (n : Nat) : Nat := powN (3 + 3 * n / 8) (3 * n % 8 * 4096)
def lev (n : Int) : Int := (levN n.toNat : Nat)
def levsOk : Bool := (List.range 31).all (fun n => Nat.ble 8 (levN n) && Nat.blt (levN n) (levN (n + 1)) && Nat.ble (levN (n + 1)) 32767)
theorem levs_ok : levsOk = true := by decide +kernel
theorem levN_facts {n : Nat} (h : n < 31) : 8 ≤ levN n ∧ levN n < levN (n + 1) ∧ levN (n + 1) ≤ 32767 := by
  have := levs_ok
  simp only [levsOk, List.all_eq_true, List.mem_range, Bool.and_eq_true, Nat.ble_eq, Nat.blt_eq] at this
  obtain ⟨⟨h1, h2⟩, h3⟩ := this n h
  exact ⟨h1, h2, h3⟩
theorem levN_mono {n m : Nat} (h : n ≤ m) (hm : m ≤ 31) : levN n ≤ levN m := by
  induction m with
  | zero => obtain rfl : n = 0 := by omega
            exact Nat.le_refl _
  | succ m ih =>
    by_cases e : n = m + 1
    · subst e; exact Nat.le_refl _
    · have := ih (by omega) (by omega)
      have := (levN_facts (n := m) (by omega)).2.1
      omega
theorem levN_bd {n : Nat} (h : n ≤ 31) : 8 ≤ levN n ∧ levN n ≤ 32767 := by
  have h0 := (levN_facts (n := 0) (by omega)).1
  have h1 := levN_mono (n := 0) (m := n) (by omega) h
  have h2 := levN_mono (n := n) (m := 31) h (by omega)
  have h3 := (levN_facts (n := 30) (by omega)).2.2
  simp only [show 30 + 1 = 31 from rfl] at h3
  omega

/-! ### The nearest of a rising row of sizes -/
/-- 'best' is as the search leaves it behind n: the last number at which twice s is beyond the sum of two sizes. -/
def Best (a : Nat → Int) (e s : Int) (n best : Nat) : Prop :=
  best ≤ n ∧ (best = 0 ∨ (a (best - 1) + a best) * e < s) ∧ ∀ j, best < j → j ≤ n → s ≤ (a (j - 1) + a j) * e
theorem Best.zero (a : Nat → Int) (e s : Int) : Best a e s 0 0 := ⟨Nat.le_refl _, .inl rfl, fun j _ _ => by omega⟩
theorem Best.step_yes {a : Nat → Int} {e s : Int} {n best : Nat} (_ : Best a e s n best) (h : (a n + a (n + 1)) * e < s) : Best a e s (n + 1) (n + 1) :=
  ⟨Nat.le_refl _, .inr h, fun j _ _ => by omega⟩
theorem Best.step_no {a : Nat → Int} {e s : Int} {n best : Nat} (hb : Best a e s n best) (h : s ≤ (a n + a (n + 1)) * e) : Best a e s (n + 1) best :=
  ⟨by have := hb.1; omega, hb.2.1, fun j h1 h2 => by
    by_cases e0 : j = n + 1
    · subst e0; exact h
    · exact hb.2.2 j h1 (by omega)⟩
def bestN (a : Nat → Int) (e s : Int) : Nat → Nat
  | 0 => 0
  | n + 1 => if (a n + a (n + 1)) * e < s then n + 1 else bestN a e s n
theorem bestN_best (a : Nat → Int) (e s : Int) : ∀ n, Best a e s n (bestN a e s n)
  | 0 => Best.zero a e s
  | n + 1 => by
    have ih := bestN_best a e s n
    by_cases h : (a n + a (n + 1)) * e < s
    · rw [show bestN a e s (n + 1) = n + 1 from if_pos h]; exact ih.step_yes h
    · rw [show bestN a e s (n + 1) = bestN a e s n from if_neg h]; exact ih.step_no (by omega)
theorem bestN_le (a : Nat → Int) (e s : Int) (n : Nat) : bestN a e s n ≤ n := (bestN_best a e s n).1
/-- Nothing is nearer: s is twice what is sought. -/
theorem Best.near {a : Nat → Int} {e c : Int} {n best : Nat} (he : 0 ≤ e) (hmono : ∀ i j, i ≤ j → j ≤ n → a i ≤ a j) (hb : Best a e (2 * c) n best) {m : Nat} (hm : m ≤ n) :
    max (a best * e - c) (-(a best * e - c)) ≤ max (a m * e - c) (-(a m * e - c)) := by
  obtain ⟨h1, h2, h3⟩ := hb
  by_cases hlt : best < m
  · have k1 := h3 (best + 1) (by omega) (by omega)
    simp only [Nat.add_sub_cancel] at k1
    have k2 := Int.mul_le_mul_of_nonneg_right (hmono (best + 1) m (by omega) hm) he
    have k3 := Int.mul_le_mul_of_nonneg_right (hmono best m (by omega) hm) he
    rw [Int.add_mul] at k1
    omega
  · by_cases heq : best = m
    · subst heq; exact Int.le_refl _
    · rcases h2 with h2 | h2
      · omega
      · have k2 := Int.mul_le_mul_of_nonneg_right (hmono m (best - 1) (by omega) (by omega)) he
        have k3 := Int.mul_le_mul_of_nonneg_right (hmono m best (by omega) h1) he
        rw [Int.add_mul] at h2
        omega
end Go.Proofs.YtcoicmbjoaonoaaDoor
/-
  dual.Pow, gain.Level and the small functions of gain walked. No statement is proved here.
-/
namespace Go.Proofs.YtcoicmbjoaonoaaDoor
set_option linter.unusedVariables false
set_option linter.unusedSimpArgs false
open Go.RowKit
set_option maxRecDepth 100000
def rootsZ : List Int := [444758425, 203159592, 97181937, 47538611, 23511884, 11692281, 5830311, 2911209, 1454619, 727063, 363470, 181719, 90856, 45427, 22713]
def rootF (i : Nat) : Int := rootsZ.getD i 0
/-- The table of roots lies in memory. -/
abbrev Roots (w : World) : Prop := Table 2 15 rootF w
theorem rootsZ_eq {i : Nat} (h : i < 15) : rootF i = (rootsL.getD i 0 : Nat) := by
  have : ∀ i < 15, rootF i = (rootsL.getD i 0 : Nat) := by decide
  exact this i h
theorem roots_get {k : Nat} (hk : k < 15) : rootsL.drop k = rootsL.getD k 0 :: rootsL.drop (k + 1) := by
  rw [List.drop_eq_getElem_cons (by simpa [rootsL] using hk)]
  simp [hk, rootsL]
theorem roots_len {k : Nat} (hk : k < 15) : (rootsL.drop (k + 1)).length = 14 - k := by
  have : ∀ k < 15, (rootsL.drop (k + 1)).length = 14 - k := by decide
  exact this k hk
theorem roots_le {k : Nat} (hk : k < 15) : rootsL.getD k 0 ≤ 444758425 := by
  have : ∀ k < 15, rootsL.getD k 0 ≤ 444758425 := by decide
  exact this k hk
theorem and_1 (n : Nat) (h : n < 9223372036854775808) : bits .and .i64 (n : Int) 1 = ((n % 2 : Nat) : Int) := by
  have h127 : (BitVec.ofInt 64 1).toNat = 2 ^ 1 - 1 := by decide
  show IntKind.i64.wrap ((BitVec.ofInt 64 (n : Int) &&& BitVec.ofInt 64 1).toNat : Nat) = _
  rw [BitVec.toNat_and, h127, Nat.and_two_pow_sub_one_eq_mod, BitVec.ofInt_natCast, BitVec.toNat_ofNat, IntKind.wrap_i64]
  omega
set_option maxHeartbeats 1600000 in
theorem Pow_any (n f : Int) (w : World) (hR : Roots w) (hn0 : 0 ≤ n) (hn : n ≤ 30) (hf0 : 0 ≤ f) (hf : f < 32768) :
    Calls Tryd.prog 101 #[.int .i64 n, .int .i64 f] w fun e w' => e = .returned (.tuple #[.int .i64 (powN n.toNat f.toNat : Nat), .int .i64 0]) ∧ w = w' := by
  have d1 := lt_no hn0
  have d2 := lt_no hn
  have d3 := lt_no hf0
  have d4 := lt_no (show f ≤ 32767 by omega)
  go_enter Tryd.func101, Tryd.ntmps101
  go_wp2_with ((refine wpList_on (o := ⟨_, .load 154 _, _, _, _, _⟩) rfl (fun K hK => ?_)); refine wp_load_table hR 154 _ rfl rfl (by kernel_rfl) ?_; refine hK _ _ ?_; clear hK K)
  go_loop [6, 24] (fun x i => ∃ (k y : Nat), k ≤ 15 ∧ i = .int .i64 k ∧ x = .int .i64 y ∧ Hid (powW (rootsL.drop k) y f.toNat = powW rootsL 1073741824 f.toNat)) (fun _ i => 15 - (intOf i).toNat)
  case atStart => exact ⟨0, 1073741824, by omega, rfl, rfl, rfl⟩
  case round =>
    clear d1 d2 d3 d4
    obtain ⟨k, y, hk, rfl, rfl, HY⟩ := hrel
    have hb := powW_bd f.toNat
    have hy := powW_le (rootsL.drop k) y f.toNat
    rw [HY.out] at hy
    by_cases hlt : k < 15
    · have hg := roots_get hlt
      have hl := roots_len hlt
      have hr := roots_le hlt
      have hz := rootsZ_eq hlt
      have hix := fun w => run_index_row (P := Tryd.prog) (n := 15) (i := k) Tryd.underlying154 Tryd.underlying3 (by kernel_rfl) (by kernel_rfl) rootF hlt w
      have HP : Hid (powW (rootsL.drop (k + 1)) (if f.toNat / 2 ^ (14 - k) % 2 = 1 then y + y * rootsL.getD k 0 / 1073741824 else y) f.toNat = powW rootsL 1073741824 f.toNat) := by
        have h := HY.out
        rw [hg, powW, hl] at h
        exact h
      simp only [hz] at hix
      generalize rootsL.getD k 0 = r at *
      have s0 : IntKind.u64.wrap (14 - (k : Int)) = 14 - k := by rw [IntKind.wrap_u64]; omega
      have hq := Nat.div_le_self f.toNat (2 ^ (14 - k))
      have e1 := and_1 (f.toNat / 2 ^ (14 - k)) (by omega)
      have e2 : (14 - (k : Int)).toNat = 14 - k := by omega
      have e3 : f / 2 ^ (14 - k) = ((f.toNat / 2 ^ (14 - k) : Nat) : Int) := by
        rw [Int.natCast_ediv]
        simp [Int.toNat_of_nonneg hf0]
      clear hg hl HY hz
      have HW : Hid (wrap64 ((y : Int) + wrap64 ((y : Int) * r) / 1073741824) = ((y + y * r / 1073741824 : Nat) : Int)) := by
        have m1 := mul_le_of (y : Int) (r : Int) 2147483648 444758425 (by omega) (by omega) (by omega) (by omega)
        show wrap64 ((y : Int) + wrap64 ((y : Int) * r) / 1073741824) = ((y + y * r / 1073741824 : Nat) : Int)
        rw [IntWalk.wrap64_in ((y : Int) * r) (by omega), IntWalk.wrap64_in _ (by omega), Int.natCast_add, Int.natCast_ediv, Int.natCast_mul]
        rfl
      generalize f.toNat / 2 ^ (14 - k) = b at *
      by_cases hbit : b % 2 = 1
      · have d : (bits .and .i64 (f / 2 ^ (14 - k)) 1 == 1) = true := by rw [e3, e1, hbit]; rfl
        rw [if_pos hbit] at HP
        clear e1 e3 hb hbit
        go_wp2
        go_round
        case rel => exact ⟨k + 1, y + y * r / 1073741824, by omega, by go_num, by rw [HW.out], HP⟩
        case measure => simp [intOf]; omega
      · have d : (bits .and .i64 (f / 2 ^ (14 - k)) 1 == 1) = false := by rw [e3, e1]; simp; omega
        rw [if_neg hbit] at HP
        clear e1 e3 hb hbit
        go_wp2
        go_round
        case rel => exact ⟨k + 1, y, by omega, by go_num, rfl, HP⟩
        case measure => simp [intOf]; omega
    · obtain rfl : k = 15 := by omega
      have hY : (y : Int) / 2 ^ (30 - n).toNat = ((y / 2 ^ (30 - n).toNat : Nat) : Int) := by
        rw [Int.natCast_ediv]; simp
      have hY2 := Nat.div_le_self y (2 ^ (30 - n).toNat)
      have HF : Hid (((powN n.toNat f.toNat : Nat) : Int) = (y : Int) / 2 ^ (30 - n).toNat) := by
        show ((powN n.toNat f.toNat : Nat) : Int) = (y : Int) / 2 ^ (30 - n).toNat
        have h := HY.out
        rw [show rootsL.drop 15 = [] from rfl, powW] at h
        rw [show (30 - n).toNat = 30 - n.toNat by omega] at *
        unfold powN
        rw [← h, Nat.min_eq_left (by omega), hY]
      have s0 : IntKind.u64.wrap (30 - n) = 30 - n := by rw [IntKind.wrap_u64]; omega
      have hB : (y : Int) / 2 ^ (30 - n).toNat ≤ 2147483647 := by omega
      clear HY hy hY hY2
      go_wp2_with fail
      go_ret2
      exact ⟨by rw [HF.out]; rfl, rfl⟩
end Go.Proofs.YtcoicmbjoaonoaaDoor
/-
  gain.Level, One, Fade, Noise walked. No statement is proved here.
-/
namespace Go.Proofs.YtcoicmbjoaonoaaDoor
set_option linter.unusedVariables false
set_option linter.unusedSimpArgs false
open Go.RowKit
set_option maxRecDepth 100000
theorem GLevel_any (n : Int) (w : World) (hR : Roots w) (h0 : 0 ≤ n) (h1 : n ≤ 31) :
    Calls Tryd.prog 80 #[.int .i64 n] w fun e w' => e = .returned (.tuple #[.int .i64 (lev n), .int .i64 0]) ∧ w = w' := by
  have d1 := lt_no h0
  have d2 := lt_no h1
  have e0 : lev n = (powN (3 + 3 * n / 8).toNat (3 * n % 8 * 4096).toNat : Nat) := by
    unfold lev levN
    rw [show (3 + 3 * n / 8).toNat = 3 + 3 * n.toNat / 8 by omega, show (3 * n % 8 * 4096).toNat = 3 * n.toNat % 8 * 4096 by omega]
  have E0 := Lib.hid e0
  clear e0
  go_enter Tryd.func80, Tryd.ntmps80
  go_wp2_with (go_at_call 101; (with_reducible refine (Pow_any _ _ _ hR (by omega) (by omega) (by omega) (by omega)).mono ?_); rintro e w1 ⟨rfl, rfl⟩)
  go_ret2
  exact ⟨by rw [E0.out]; rfl, rfl⟩
theorem lev_bd {n : Int} (h0 : 0 ≤ n) (h1 : n ≤ 31) : 8 ≤ lev n ∧ lev n ≤ 32767 := by
  have := levN_bd (n := n.toNat) (by omega)
  unfold lev; omega
theorem lev_mono {n m : Int} (h0 : 0 ≤ n) (h : n ≤ m) (h1 : m ≤ 31) : lev n ≤ lev m := by
  have := levN_mono (n := n.toNat) (m := m.toNat) (by omega) (by omega)
  unfold lev; omega
abbrev levK : Nat → Int := fun k => lev (k : Int)
set_option maxHeartbeats 1600000 in
theorem GOne_any (c e : Int) (w : World) (hR : Roots w) (hc0 : 1 ≤ c) (hc : c ≤ 1099511627776) (he0 : 1 ≤ e) (he : e ≤ 1073741824) :
    Calls Tryd.prog 78 #[.int .i64 c, .int .i64 e] w fun x w' => x = .returned (.int .i64 (bestN levK e (2 * c) 31)) ∧ w = w' := by
  have d1 := le_no (show 0 < c by omega)
  have d2 := le_no (show 0 < e by omega)
  go_enter Tryd.func78, Tryd.ntmps78
  go_wp2
  go_loop [5, 6] (fun b n => ∃ k : Nat, k ≤ 31 ∧ n = .int .i64 ((k : Int) + 1) ∧ b = .int .i64 (bestN levK e (2 * c) k : Nat)) (fun _ n => (32 - intOf n).toNat)
  case atStart => exact ⟨0, by omega, rfl, rfl⟩
  case round =>
    clear d1 d2
    obtain ⟨k, hk, rfl, rfl⟩ := hrel
    have hbl := bestN_le levK e (2 * c) k
    by_cases hlt : k < 31
    · have l1 := lev_bd (n := (k : Int)) (by omega) (by omega)
      have l2 := lev_bd (n := (k : Int) + 1) (by omega) (by omega)
      have m1 := mul_le_of (lev (k : Int) + lev ((k : Int) + 1)) e 65534 1073741824 (by omega) (by omega) (by omega) he
      have s1 : IntKind.i64.wrap ((lev (k : Int) + lev ((k : Int) + 1)) * e) = (lev (k : Int) + lev ((k : Int) + 1)) * e := IntWalk.i64_in _ (by omega)
      have HB : Hid (bestN levK e (2 * c) (k + 1) = if (lev (k : Int) + lev ((k : Int) + 1)) * e < 2 * c then k + 1 else bestN levK e (2 * c) k) := rfl
      generalize hbe : bestN levK e (2 * c) k = B at *
      clear hbe
      have c1 := fun w : World => fun h : Roots w => GLevel_any (k : Int) w h (by omega) (by omega)
      have c2 := fun w : World => fun h : Roots w => GLevel_any ((k : Int) + 1) w h (by omega) (by omega)
      generalize lev (k : Int) = X at *
      generalize lev ((k : Int) + 1) = Y at *
      by_cases hc : (X + Y) * e < 2 * c
      · have HB2 : Hid (bestN levK e (2 * c) (k + 1) = k + 1) := HB.out.trans (if_pos hc)
        have d := lt_yes hc
        clear hc HB m1
        go_wp2_with (first | (go_at_call 80; (with_reducible refine (c1 _ hR).mono ?_); rintro e w1 ⟨rfl, rfl⟩) | (go_at_call 80; (with_reducible refine (c2 _ hR).mono ?_); rintro e w1 ⟨rfl, rfl⟩))
        go_round
        case rel => exact ⟨k + 1, by omega, by go_num, by rw [HB2.out]; go_num⟩
        case measure => simp [intOf]; omega
      · have HB2 : Hid (bestN levK e (2 * c) (k + 1) = B) := HB.out.trans (if_neg hc)
        have d := lt_no (show 2 * c ≤ (X + Y) * e by omega)
        clear hc HB m1
        go_wp2_with (first | (go_at_call 80; (with_reducible refine (c1 _ hR).mono ?_); rintro e w1 ⟨rfl, rfl⟩) | (go_at_call 80; (with_reducible refine (c2 _ hR).mono ?_); rintro e w1 ⟨rfl, rfl⟩))
        go_round
        case rel => exact ⟨k + 1, by omega, by go_num, by rw [HB2.out]⟩
        case measure => simp [intOf]; omega
    · obtain rfl : k = 31 := by omega
      go_wp2
      go_ret
      exact ⟨rfl, rfl⟩
end Go.Proofs.YtcoicmbjoaonoaaDoor
/-
  pitch: Gain, Nearest, Past walked. No statement is proved here.
-/
namespace Go.Proofs.YtcoicmbjoaonoaaDoor
set_option linter.unusedVariables false
set_option linter.unusedSimpArgs false
open Go.RowKit
set_option maxRecDepth 100000
def gainsZ : List Int := [0, 3277, 6554, 9830, 12452, 14746, 16384, 18022]
def gainF (i : Nat) : Int := gainsZ.getD i 0
/-- The table of pitch gains lies in memory. -/
abbrev Gains (w : World) : Prop := Table 0 8 gainF w
def gainI (n : Int) : Int := gainF n.toNat
theorem gainF_bd {i : Nat} (h : i < 8) : 0 ≤ gainF i ∧ gainF i ≤ 18022 := by
  have : ∀ i < 8, 0 ≤ gainF i ∧ gainF i ≤ 18022 := by decide
  exact this i h
theorem gainF_mono {i j : Nat} (h : i ≤ j) (hj : j ≤ 7) : gainF i ≤ gainF j := by
  have : ∀ j < 8, ∀ i < 8, i ≤ j → gainF i ≤ gainF j := by decide
  exact this j (by omega) i (by omega) h
theorem PGain_any (n : Int) (w : World) (hT : Gains w) (h0 : 0 ≤ n) (h : n ≤ 7) :
    Calls Tryd.prog 72 #[.int .i64 n] w fun e w' => e = .returned (.tuple #[.int .i64 (gainI n), .int .i64 0]) ∧ w = w' := by
  have d1 := lt_no h0
  have d2 := le_no (show n < 8 by omega)
  have b0 : n < 8 := by omega
  go_enter Tryd.func72, Tryd.ntmps72
  go_wp2_with ((refine wpList_on (o := ⟨_, .load 3 _, _, _, _, _⟩) rfl (fun K hK => ?_)); refine wp_load_entry hT 3 _ rfl (i := n.toNat) rfl (by kernel_rfl) (by omega) ?_; refine hK _ _ ?_; clear hK K)
  go_ret2
  exact ⟨rfl, rfl⟩
set_option maxHeartbeats 1600000 in
theorem Nearest_any (c e : Int) (w : World) (hT : Gains w) (hc0 : 1 ≤ c) (hc : c ≤ 1099511627776) (he0 : 1 ≤ e) (he : e ≤ 1099511627776) :
    Calls Tryd.prog 71 #[.int .i64 c, .int .i64 e] w fun x w' => x = .returned (.int .i64 (bestN gainF e (32768 * c) 7 : Nat)) ∧ Below w.heap.size w w' := by
  have H := Has.start w
  have d1 := le_no (show 0 < c by omega)
  have d2 := le_no (show 0 < e by omega)
  go_enter Tryd.func71, Tryd.ntmps71
  go_wp2
  go_loopw [5, 6] (fun b n wr => ∃ k : Nat, k ≤ 7 ∧ n = .int .i64 ((k : Int) + 1) ∧ b = .int .i64 (bestN gainF e (32768 * c) k : Nat) ∧ Has w wr []) (fun _ n _ => (8 - intOf n).toNat)
  case atStart => exact ⟨0, by omega, rfl, rfl, H⟩
  clear H
  case round =>
    clear d1 d2
    obtain ⟨k, hk, rfl, rfl, H⟩ := hrel
    have hbl := bestN_le gainF e (32768 * c) k
    by_cases hlt : k < 7
    · have l1 := gainF_bd (i := k) (by omega)
      have l2 := gainF_bd (i := k + 1) (by omega)
      have m1 := mul_le_of (gainF (k + 1) + gainF k) e 65534 1099511627776 (by omega) (by omega) (by omega) he
      have s1 : IntKind.i64.wrap ((gainF (k + 1) + gainF k) * e) = (gainF (k + 1) + gainF k) * e := IntWalk.i64_in _ (by omega)
      have HB : Hid (bestN gainF e (32768 * c) (k + 1) = if (gainF k + gainF (k + 1)) * e < 32768 * c then k + 1 else bestN gainF e (32768 * c) k) := rfl
      generalize hbe : bestN gainF e (32768 * c) k = B at *
      clear hbe
      have s2 : ((k : Int) + 1).toNat = k + 1 := by omega
      have s3 : (0 : Int) ≤ (k : Int) + 1 := by omega
      have s4 : (k : Int) + 1 < 8 := by omega
      have s5 : (0 : Int) ≤ (k : Int) := by omega
      have s6 : (k : Int) < 8 := by omega
      have s7 : IntKind.i64.wrap (k : Int) = (k : Int) := IntWalk.i64_in _ (by omega)
      have s8 : IntKind.i64.wrap (32768 * c) = 32768 * c := IntWalk.i64_in _ (by omega)
      have s9 : IntKind.i64.wrap (gainF (k + 1) + gainF k) = gainF (k + 1) + gainF k := IntWalk.i64_in _ (by omega)
      by_cases hc : (gainF k + gainF (k + 1)) * e < 32768 * c
      all_goals
        rw [Int.add_comm (gainF k)] at hc
      · have HB2 : Hid (bestN gainF e (32768 * c) (k + 1) = k + 1) := HB.out.trans (if_pos (by rw [Int.add_comm (gainF k)]; exact hc))
        have d := lt_yes hc
        clear hc HB m1
        go_wp2_with fail
        refine wp_region_text [] (by kernel_rfl) (by kernel_rfl) (by kernel_rfl) ?_; replace H := H.drew; generalize World.drew _ = u at *
        have T := Table.has hT H
        repeat (first | (refine ones_load_entry T (o := ⟨_, .load 3 _, _, _, _, _⟩) 3 _ rfl rfl rfl rfl (by kernel_rfl) (by omega) ?_; simp only [Act.put, List.setIfInBounds_toArray, List.set_cons_zero, List.set_cons_succ]) | (refine ones_free (v := ?_) rfl rfl ?_ ?_; rotate_left; (intro w'; go_simp; try with_reducible rfl); simp only [Act.put, List.setIfInBounds_toArray, List.set_cons_zero, List.set_cons_succ]))
        refine ones_nil ?_
        go_wp2
        go_roundw
        case rel => exact ⟨k + 1, by omega, by go_num, by rw [HB2.out]; go_num, H⟩
        case measure => simp [intOf]; omega
      · have HB2 : Hid (bestN gainF e (32768 * c) (k + 1) = B) := HB.out.trans (if_neg (by rw [Int.add_comm (gainF k)]; exact hc))
        have d := lt_no (show 32768 * c ≤ (gainF (k + 1) + gainF k) * e by omega)
        clear hc HB m1
        go_wp2_with fail
        refine wp_region_text [] (by kernel_rfl) (by kernel_rfl) (by kernel_rfl) ?_; replace H := H.drew; generalize World.drew _ = u at *
        have T := Table.has hT H
        repeat (first | (refine ones_load_entry T (o := ⟨_, .load 3 _, _, _, _, _⟩) 3 _ rfl rfl rfl rfl (by kernel_rfl) (by omega) ?_; simp only [Act.put, List.setIfInBounds_toArray, List.set_cons_zero, List.set_cons_succ]) | (refine ones_free (v := ?_) rfl rfl ?_ ?_; rotate_left; (intro w'; go_simp; try with_reducible rfl); simp only [Act.put, List.setIfInBounds_toArray, List.set_cons_zero, List.set_cons_succ]))
        refine ones_nil ?_
        go_wp2
        go_roundw
        case rel => exact ⟨k + 1, by omega, by go_num, by rw [HB2.out], H⟩
        case measure => simp [intOf]; omega
    · obtain rfl : k = 7 := by omega
      go_wp2
      go_ret
      exact ⟨rfl, H.below⟩
end Go.Proofs.YtcoicmbjoaonoaaDoor
/-
  Levels of reflections: plain Lean, no program. No statement is proved here.
-/
namespace Go.Proofs.YtcoicmbjoaonoaaDoor
set_option linter.unusedVariables false
set_option linter.unusedSimpArgs false
def widthZ : List Int := [6, 6, 5, 5, 4, 4, 3, 3]
/-- W bits and the M levels that they tell apart. -/
def Wide (W M : Int) : Prop := (W = 3 ∧ M = 8) ∨ (W = 4 ∧ M = 16) ∨ (W = 5 ∧ M = 32) ∨ (W = 6 ∧ M = 64)
def levQ (M n : Int) : Int :=
  if 2 * n - (M - 1) < 0 then -(31000 - 31000 * (M - 1 + 1 - -(2 * n - (M - 1))) * (M - 1 + 1 - -(2 * n - (M - 1))) / ((M - 1 + 1) * (M - 1 + 1)))
  else 31000 - 31000 * (M - 1 + 1 - (2 * n - (M - 1))) * (M - 1 + 1 - (2 * n - (M - 1))) / ((M - 1 + 1) * (M - 1 + 1))
def levsQok (M : Nat) : Bool := (List.range M).all fun n => decide (-31000 ≤ levQ M n) && decide (levQ M n ≤ 31000) && decide (levQ M (M - 1 - n) = -levQ M n) && (decide (M ≤ n + 1) || decide (levQ M n < levQ M (n + 1)))
theorem levsQ8 : levsQok 8 = true := by decide +kernel
theorem levsQ16 : levsQok 16 = true := by decide +kernel
theorem levsQ32 : levsQok 32 = true := by decide +kernel
theorem levsQ64 : levsQok 64 = true := by decide +kernel
theorem levQ_nat {M n : Nat} (h : levsQok M = true) (hn : n < M) : (-31000 ≤ levQ M n ∧ levQ M n ≤ 31000) ∧ levQ M (M - 1 - n) = -levQ M n ∧ (n + 1 < M → levQ M n < levQ M (n + 1)) := by
  simp only [levsQok, List.all_eq_true, List.mem_range, Bool.and_eq_true, Bool.or_eq_true, decide_eq_true_eq] at h
  obtain ⟨⟨⟨h1, h2⟩, h3⟩, h4⟩ := h n hn
  exact ⟨⟨h1, h2⟩, h3, fun hlt => by omega⟩
theorem levQ_facts {W M n : Int} (hw : Wide W M) (h0 : 0 ≤ n) (hn : n < M) : (-31000 ≤ levQ M n ∧ levQ M n ≤ 31000) ∧ levQ M (M - 1 - n) = -levQ M n ∧ (n + 1 < M → levQ M n < levQ M (n + 1)) := by
  obtain ⟨k, rfl⟩ := Int.eq_ofNat_of_zero_le h0
  rcases hw with ⟨_, rfl⟩ | ⟨_, rfl⟩ | ⟨_, rfl⟩ | ⟨_, rfl⟩
  · have := levQ_nat levsQ8 (n := k) (by omega); simp only [Int.cast_ofNat_Int] at this; exact ⟨this.1, this.2.1, fun h => this.2.2 (by omega)⟩
  · have := levQ_nat levsQ16 (n := k) (by omega); simp only [Int.cast_ofNat_Int] at this; exact ⟨this.1, this.2.1, fun h => this.2.2 (by omega)⟩
  · have := levQ_nat levsQ32 (n := k) (by omega); simp only [Int.cast_ofNat_Int] at this; exact ⟨this.1, this.2.1, fun h => this.2.2 (by omega)⟩
  · have := levQ_nat levsQ64 (n := k) (by omega); simp only [Int.cast_ofNat_Int] at this; exact ⟨this.1, this.2.1, fun h => this.2.2 (by omega)⟩
theorem levQ_lt {W M : Int} (hw : Wide W M) (n d : Nat) (h : ((n + d + 1 : Nat) : Int) < M) : levQ M n < levQ M ((n + d + 1 : Nat) : Int) := by
  induction d with
  | zero => have := (levQ_facts hw (n := (n : Int)) (by omega) (by omega)).2.2 (by omega); simpa using this
  | succ d ih =>
    have h1 := ih (by omega)
    have h2 := (levQ_facts hw (n := ((n + d + 1 : Nat) : Int)) (by omega) (by omega)).2.2 (by omega)
    have e : ((n + (d + 1) + 1 : Nat) : Int) = ((n + d + 1 : Nat) : Int) + 1 := by omega
    rw [e]; omega
theorem levQ_inj {W M : Int} (hw : Wide W M) {n m : Nat} (hn : (n : Int) < M) (hm : (m : Int) < M) (h : levQ M n = levQ M m) : n = m := by
  by_cases h1 : n < m
  · have := levQ_lt hw n (m - n - 1) (by omega)
    rw [show n + (m - n - 1) + 1 = m by omega] at this; omega
  · by_cases h2 : m < n
    · have := levQ_lt hw m (n - m - 1) (by omega)
      rw [show m + (n - m - 1) + 1 = n by omega] at this; omega
    · omega
/-- How far. -/
def farQ (v k : Int) : Int := if v - k < 0 then -(v - k) else v - k
/-- The search: the first of the nearest, and how far it is. -/
def nearQ (v : Nat → Int) (k : Int) : Nat → Nat × Int
  | 0 => (0, 1048576)
  | n + 1 => if farQ (v n) k < (nearQ v k n).2 then (n, farQ (v n) k) else nearQ v k n
theorem nearQ_law (v : Nat → Int) (k : Int) : ∀ n, (∀ j, j < n → farQ (v j) k < 1048576) → (nearQ v k n).2 ≤ 1048576 ∧ 0 ≤ (nearQ v k n).2 ∧ (0 < n → (nearQ v k n).1 < n ∧ (nearQ v k n).2 = farQ (v (nearQ v k n).1) k ∧ ∀ j, j < n → (nearQ v k n).2 ≤ farQ (v j) k)
  | 0, _ => by simp [nearQ]
  | n + 1, hv => by
    have ih := nearQ_law v k n (fun j hj => hv j (by omega))
    have h1 := hv n (by omega)
    have hp : 0 ≤ farQ (v n) k := by unfold farQ; split <;> omega
    by_cases h : farQ (v n) k < (nearQ v k n).2
    · rw [show nearQ v k (n + 1) = (n, farQ (v n) k) from if_pos h]
      refine ⟨by show farQ (v n) k ≤ 1048576; omega, hp, fun _ => ⟨Nat.lt_succ_self n, rfl, fun j hj => ?_⟩⟩
      by_cases e : j = n
      · subst e; exact Int.le_refl _
      · have := (ih.2.2 (by omega)).2.2 j (by omega)
        show farQ (v n) k ≤ farQ (v j) k
        omega
    · rw [show nearQ v k (n + 1) = nearQ v k n from if_neg h]
      have hn : 0 < n := by
        by_cases e : n = 0
        · subst e; simp only [nearQ] at h; omega
        · omega
      obtain ⟨a1, a2, a3⟩ := ih.2.2 hn
      refine ⟨ih.1, ih.2.1, fun _ => ⟨by omega, a2, fun j hj => ?_⟩⟩
      by_cases e : j = n
      · subst e; omega
      · exact a3 j (by omega)
theorem farQ_zero {v k : Int} (h : farQ v k ≤ 0) : v = k := by unfold farQ at h; split at h <;> omega
theorem farQ_self (v : Int) : farQ v v = 0 := by unfold farQ; split <;> omega
theorem farQ_sq (v k : Int) : farQ v k * farQ v k = (v - k) * (v - k) := by
  unfold farQ; split
  · rw [Int.neg_mul_neg]
  · rfl
theorem levQ_near {W M : Int} (hw : Wide W M) (k : Int) (hk : -32768 ≤ k ∧ k ≤ 32768) (j : Nat) (hj : (j : Int) < M) : farQ (levQ M (j : Int)) k < 1048576 := by
  have a := (levQ_facts hw (n := (j : Int)) (by omega) (by omega)).1
  unfold farQ; split <;> omega
abbrev oneQ (M k : Int) : Nat := (nearQ (fun j => levQ M (j : Int)) k M.toNat).1
theorem oneQ_law {W M : Int} (hw : Wide W M) {k : Int} (hk : -32768 ≤ k ∧ k ≤ 32768) : (oneQ M k : Int) < M ∧ ∀ j : Nat, (j : Int) < M → farQ (levQ M (oneQ M k : Int)) k ≤ farQ (levQ M (j : Int)) k := by
  have hM : 8 ≤ M ∧ M ≤ 64 := by unfold Wide at hw; omega
  obtain ⟨a1, a2, a3⟩ := (nearQ_law (fun j => levQ M (j : Int)) k M.toNat (fun j hj => levQ_near hw k hk j (by omega))).2.2 (by omega)
  refine ⟨by show ((nearQ (fun j => levQ M (j : Int)) k M.toNat).1 : Int) < M; omega, fun j hj => ?_⟩
  have := a3 j (by omega)
  rw [a2] at this
  exact this
theorem oneQ_back {W M : Int} (hw : Wide W M) {n : Nat} (hn : (n : Int) < M) : oneQ M (levQ M n) = n := by
  have b := (levQ_facts hw (n := (n : Int)) (by omega) hn).1
  obtain ⟨h1, h2⟩ := oneQ_law hw (k := levQ M n) (by omega)
  have h3 := h2 n hn
  rw [farQ_self] at h3
  exact levQ_inj hw h1 hn (farQ_zero h3)
end Go.Proofs.YtcoicmbjoaonoaaDoor
/-
  quant.Width walked. No statement is proved here.
-/
namespace Go.Proofs.YtcoicmbjoaonoaaDoor
set_option linter.unusedVariables false
set_option linter.unusedSimpArgs false
open Go.RowKit
set_option maxRecDepth 100000
def widF (i : Nat) : Int := widthZ.getD i 0
/-- The table of widths lies in memory. -/
abbrev Widths (w : World) : Prop := Table 1 8 widF w
def wid (i : Int) : Int := widF i.toNat
def many (i : Int) : Int := if wid i = 3 then 8 else if wid i = 4 then 16 else if wid i = 5 then 32 else 64
theorem wide_at {i : Int} (h0 : 0 ≤ i) (h : i ≤ 7) : Wide (wid i) (many i) := by
  have : i = 0 ∨ i = 1 ∨ i = 2 ∨ i = 3 ∨ i = 4 ∨ i = 5 ∨ i = 6 ∨ i = 7 := by omega
  rcases this with rfl | rfl | rfl | rfl | rfl | rfl | rfl | rfl <;> simp [Wide, wid, many, widF, widthZ]
theorem Width_any (i : Int) (w : World) (hT : Widths w) (h0 : 0 ≤ i) (h : i ≤ 7) :
    Calls Tryd.prog 84 #[.int .i64 i] w fun e w' => e = .returned (.int .i64 (wid i)) ∧ w = w' := by
  have d1 := lt_no h0
  have d2 := le_no (show i < 8 by omega)
  have b0 : i < 8 := by omega
  go_enter Tryd.func84, Tryd.ntmps84
  go_wp2_with ((refine wpList_on (o := ⟨_, .load 3 _, _, _, _, _⟩) rfl (fun K hK => ?_)); refine wp_load_entry hT 3 _ rfl (i := i.toNat) rfl (by kernel_rfl) (by omega) ?_; refine hK _ _ ?_; clear hK K)
  go_ret
  exact ⟨rfl, rfl⟩
theorem Width_8 (w : World) :
    Calls Tryd.prog 84 #[.int .i64 8] w fun e w' => e = .returned (.int .i64 0) ∧ w = w' := by
  go_enter Tryd.func84, Tryd.ntmps84
  go_wp2
  go_ret
  exact ⟨rfl, rfl⟩
theorem wid_7 : wid 7 = 3 := rfl
theorem Width_7 (w : World) (hT : Widths w) :
    Calls Tryd.prog 84 #[.int .i64 7] w fun e w' => e = .returned (.int .i64 3) ∧ w = w' := by
  have h := Width_any 7 w hT (by omega) (by omega)
  rw [wid_7] at h; exact h
end Go.Proofs.YtcoicmbjoaonoaaDoor
