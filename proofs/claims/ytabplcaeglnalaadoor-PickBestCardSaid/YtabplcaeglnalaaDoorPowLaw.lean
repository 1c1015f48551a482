/-
  Powers of two by a table of roots, sizes of pulses: plain Lean, no program. No statement is proved here.
-/
import Derived.Test.YtabplcaeglnalaaDoorGen
namespace Go.Proofs.YtabplcaeglnalaaDoor
def rootsL : List Nat := [444758425, 203159592, 97181937, 47538611, 23511884, 11692281, 5830311, 2911209, 1454619, 727063, 363470, 181719, 90856, 45427, 22713]
/-- The product by those roots whose bits are set. -/
def powW : List Nat → Nat → Nat → Nat
  | [], x, _ => x
  | r :: rs, x, f => powW rs (if f / 2 ^ rs.length % 2 = 1 then x + x * r / 1073741824 else x) f
/-- Least and greatest product, and whether all of them stand in order. -/
def span : List Nat → Nat → Bool × Nat × Nat
  | [], x => (true, x, x)
  | r :: rs, x => ((span rs x).1 && (span rs (x + x * r / 1073741824)).1 && Nat.ble (span rs x).2.2 (span rs (x + x * r / 1073741824)).2.1, (span rs x).2.1, (span rs (x + x * r / 1073741824)).2.2)
theorem powW_le : ∀ (rs : List Nat) (x f : Nat), x ≤ powW rs x f
  | [], x, _ => Nat.le_refl x
  | r :: rs, x, f => by
    have h := powW_le rs (if f / 2 ^ rs.length % 2 = 1 then x + x * r / 1073741824 else x) f
    unfold powW
    refine Nat.le_trans ?_ h
    split <;> omega
theorem span_law : ∀ (rs : List Nat) (x f g : Nat), (span rs x).1 = true → f % 2 ^ rs.length ≤ g % 2 ^ rs.length →
    powW rs x f ≤ powW rs x g ∧ (span rs x).2.1 ≤ powW rs x f ∧ powW rs x g ≤ (span rs x).2.2
  | [], x, f, g, _, _ => by simp [powW, span]
  | r :: rs, x, f, g, hs, hfg => by
    simp only [span, Bool.and_eq_true, Nat.ble_eq] at hs
    obtain ⟨⟨h1, h2⟩, h3⟩ := hs
    have hL : 0 < 2 ^ rs.length := Nat.two_pow_pos _
    have ef := Nat.div_add_mod (f % (2 ^ rs.length * 2)) (2 ^ rs.length)
    have eg := Nat.div_add_mod (g % (2 ^ rs.length * 2)) (2 ^ rs.length)
    rw [Nat.mod_mul_right_div_self, Nat.mod_mul_right_mod] at ef eg
    rw [List.length_cons, Nat.pow_succ] at hfg
    have hf1 := Nat.mod_lt f hL
    have hg1 := Nat.mod_lt g hL
    have hf2 : f / 2 ^ rs.length % 2 = 0 ∨ f / 2 ^ rs.length % 2 = 1 := by omega
    have hg2 : g / 2 ^ rs.length % 2 = 0 ∨ g / 2 ^ rs.length % 2 = 1 := by omega
    have a0 := span_law rs x f f h1 (Nat.le_refl _)
    have a1 := span_law rs x g g h1 (Nat.le_refl _)
    have b0 := span_law rs (x + x * r / 1073741824) f f h2 (Nat.le_refl _)
    have b1 := span_law rs (x + x * r / 1073741824) g g h2 (Nat.le_refl _)
    simp only [powW, span]
    rcases hf2 with hf2 | hf2 <;> rcases hg2 with hg2 | hg2 <;> rw [hf2] at ef ⊢ <;> rw [hg2] at eg ⊢ <;> simp only [Nat.zero_ne_one, if_true, if_false, Nat.mul_zero, Nat.mul_one, Nat.zero_add] at ef eg ⊢
    · have := span_law rs x f g h1 (by omega)
      omega
    · omega
    · omega
    · have := span_law rs (x + x * r / 1073741824) f g h2 (by omega)
      omega
def powTop : Nat × Nat := (span rootsL 1073741824).2
theorem span_roots : span rootsL 1073741824 = (true, 1073741824, 2147438200) := by decide +kernel
/-- Two to the power of n and f / 2^15. -/
def powN (n f : Nat) : Nat := min (powW rootsL 1073741824 f / 2 ^ (30 - n)) 2147483647
theorem powW_bd (f : Nat) : 1073741824 ≤ powW rootsL 1073741824 f ∧ powW rootsL 1073741824 f < 2147483648 := by
  have h := span_law rootsL 1073741824 f f (by rw [span_roots]) (Nat.le_refl _)
  rw [span_roots] at h
  have := h.2
  simp only at this
  omega
theorem pow2_pos (n : Nat) : (0 : Int) < 2 ^ n := by
  have h := Nat.two_pow_pos n
  have : (0 : Int) < ((2 ^ n : Nat) : Int) := by omega
  simpa using this
theorem pow_le_pow {n m : Nat} (h : n ≤ m) : 2 ^ n ≤ 2 ^ m := Nat.pow_le_pow_right (by omega) h
theorem powN_ge {n f : Nat} (hn : n ≤ 30) : 2 ^ n ≤ powN n f := by
  have hb := powW_bd f
  have hp : 2 ^ n * 2 ^ (30 - n) = 1073741824 := by rw [← Nat.pow_add, show n + (30 - n) = 30 by omega]
  have h1 : 2 ^ n ≤ 2 ^ 30 := pow_le_pow hn
  have h2 : 2 ^ n ≤ powW rootsL 1073741824 f / 2 ^ (30 - n) := by
    rw [Nat.le_div_iff_mul_le (Nat.two_pow_pos _), hp]; exact hb.1
  unfold powN
  omega
theorem powN_lt {n f : Nat} (hn : n ≤ 30) : powN n f < 2 ^ (n + 1) := by
  have hb := powW_bd f
  have hp : 2 ^ (n + 1) * 2 ^ (30 - n) = 2147483648 := by rw [← Nat.pow_add, show n + 1 + (30 - n) = 31 by omega]
  have h2 : powW rootsL 1073741824 f / 2 ^ (30 - n) < 2 ^ (n + 1) := by
    rw [Nat.div_lt_iff_lt_mul (Nat.two_pow_pos _), hp]; exact hb.2
  unfold powN
  omega
theorem powN_mono {n m f g : Nat} (hn : n ≤ 30) (hm : m ≤ 30) (hf : f < 32768) (hg : g < 32768) (h : n < m ∨ n = m ∧ f ≤ g) : powN n f ≤ powN m g := by
  rcases h with h | ⟨rfl, h⟩
  · have h1 := powN_lt (f := f) hn
    have h2 := powN_ge (f := g) hm
    have h3 : 2 ^ (n + 1) ≤ 2 ^ m := pow_le_pow h
    omega
  · have h1 := (span_law rootsL 1073741824 f g (by rw [span_roots]) (by rw [show rootsL.length = 15 from rfl, Nat.mod_eq_of_lt (by omega), Nat.mod_eq_of_lt (by omega)]; exact h)).1
    have h2 := Nat.div_le_div_right (c := 2 ^ (30 - n)) h1
    unfold powN
    omega
/-- The size of a number. -/
def levN (n : Nat) : Nat := powN (3 + 3 * n / 8) (3 * n % 8 * 4096)
def lev (n : Int) : Int := (levN n.toNat : Nat)
def levsOk : Bool := (List.range 31).all (fun n => Nat.ble 8 (levN n) && Nat.blt (levN n) (levN (n + 1)) && Nat.ble (levN (n + 1)) 32767)
theorem levs_ok : levsOk = true := by decide +kernel
theorem levN_facts {n : Nat} (h : n < 31) : 8 ≤ levN n ∧ levN n < levN (n + 1) ∧ levN (n + 1) ≤ 32767 := by
  have := levs_ok
  simp only [levsOk, List.all_eq_true, List.mem_range, Bool.and_eq_true, Nat.ble_eq, Nat.blt_eq] at this
  obtain ⟨⟨h1, h2⟩, h3⟩ := this n h
  exact ⟨h1, h2, h3⟩
theorem levN_mono {n m : Nat} (h : n ≤ m) (hm : m ≤ 31) : levN n ≤ levN m := by
  induction m with
  | zero => obtain rfl : n = 0 := by omega
            exact Nat.le_refl _
  | succ m ih =>
    by_cases e : n = m + 1
    · subst e; exact Nat.le_refl _
    · have := ih (by omega) (by omega)
      have := (levN_facts (n := m) (by omega)).2.1
      omega
theorem levN_bd {n : Nat} (h : n ≤ 31) : 8 ≤ levN n ∧ levN n ≤ 32767 := by
  have h0 := (levN_facts (n := 0) (by omega)).1
  have h1 := levN_mono (n := 0) (m := n) (by omega) h
  have h2 := levN_mono (n := n) (m := 31) h (by omega)
  have h3 := (levN_facts (n := 30) (by omega)).2.2
  simp only [show 30 + 1 = 31 from rfl] at h3
  omega

/-! ### The nearest of a rising row of sizes -/
/-- 'best' is as the search leaves it behind n: the last number at which twice s is beyond the sum of two sizes. -/
def Best (a : Nat → Int) (e s : Int) (n best : Nat) : Prop :=
  best ≤ n ∧ (best = 0 ∨ (a (best - 1) + a best) * e < s) ∧ ∀ j, best < j → j ≤ n → s ≤ (a (j - 1) + a j) * e
theorem Best.zero (a : Nat → Int) (e s : Int) : Best a e s 0 0 := ⟨Nat.le_refl _, .inl rfl, fun j _ _ => by omega⟩
theorem Best.step_yes {a : Nat → Int} {e s : Int} {n best : Nat} (_ : Best a e s n best) (h : (a n + a (n + 1)) * e < s) : Best a e s (n + 1) (n + 1) :=
  ⟨Nat.le_refl _, .inr h, fun j _ _ => by omega⟩
theorem Best.step_no {a : Nat → Int} {e s : Int} {n best : Nat} (hb : Best a e s n best) (h : s ≤ (a n + a (n + 1)) * e) : Best a e s (n + 1) best :=
  ⟨by have := hb.1; omega, hb.2.1, fun j h1 h2 => by
    by_cases e0 : j = n + 1
    · subst e0; exact h
    · exact hb.2.2 j h1 (by omega)⟩
def bestN (a : Nat → Int) (e s : Int) : Nat → Nat
  | 0 => 0
  | n + 1 => if (a n + a (n + 1)) * e < s then n + 1 else bestN a e s n
theorem bestN_best (a : Nat → Int) (e s : Int) : ∀ n, Best a e s n (bestN a e s n)
  | 0 => Best.zero a e s
  | n + 1 => by
    have ih := bestN_best a e s n
    by_cases h : (a n + a (n + 1)) * e < s
    · rw [show bestN a e s (n + 1) = n + 1 from if_pos h]; exact ih.step_yes h
    · rw [show bestN a e s (n + 1) = bestN a e s n from if_neg h]; exact ih.step_no (by omega)
theorem bestN_le (a : Nat → Int) (e s : Int) (n : Nat) : bestN a e s n ≤ n := (bestN_best a e s n).1
/-- Nothing is nearer: s is twice what is sought. -/
theorem Best.near {a : Nat → Int} {e c : Int} {n best : Nat} (he : 0 ≤ e) (hmono : ∀ i j, i ≤ j → j ≤ n → a i ≤ a j) (hb : Best a e (2 * c) n best) {m : Nat} (hm : m ≤ n) :
    max (a best * e - c) (-(a best * e - c)) ≤ max (a m * e - c) (-(a m * e - c)) := by
  obtain ⟨h1, h2, h3⟩ := hb
  by_cases hlt : best < m
  · have k1 := h3 (best + 1) (by omega) (by omega)
    simp only [Nat.add_sub_cancel] at k1
    have k2 := Int.mul_le_mul_of_nonneg_right (hmono (best + 1) m (by omega) hm) he
    have k3 := Int.mul_le_mul_of_nonneg_right (hmono best m (by omega) hm) he
    rw [Int.add_mul] at k1
    omega
  · by_cases heq : best = m
    · subst heq; exact Int.le_refl _
    · rcases h2 with h2 | h2
      · omega
      · have k2 := Int.mul_le_mul_of_nonneg_right (hmono m (best - 1) (by omega) (by omega)) he
        have k3 := Int.mul_le_mul_of_nonneg_right (hmono m best (by omega) h1) he
        rw [Int.add_mul] at h2
        omega
end Go.Proofs.YtabplcaeglnalaaDoor
