/-
  Window and sums of products: plain Lean, no program. No statement is proved here.
-/
import Derived.Test.YtcoicmbjoaonoaaSynthLaw
namespace Go.Proofs.Ytcoicmbjoaonoaa
/-- The window. -/
def weight (i : Int) : Int := 32767 * (if 2 * (120 - i) - 1 < 2 * i + 1 then 2 * (120 - i) - 1 else 2 * i + 1) / 119
theorem weight_bd {i : Int} (h0 : 0 ≤ i) (h1 : i < 120) : 275 ≤ weight i ∧ weight i ≤ 32767 := by unfold weight; split <;> omega
theorem weight_even {i : Int} (h0 : 0 ≤ i) (h1 : i < 120) : weight (119 - i) = weight i := by unfold weight; split <;> split <;> omega
theorem weight_rises {i : Int} (h0 : 0 ≤ i) (h1 : i ≤ 58) : weight i < weight (i + 1) := by unfold weight; split <;> split <;> omega
/-- A sample behind the window. -/
def winS (f : Nat → Int) (i : Nat) : Int := (f i * weight i + 16384) / 32768
theorem winS_bd {f : Nat → Int} {i : Nat} (hi : i < 120) (hf : In16 (f i)) : -32768 ≤ winS f i ∧ winS f i ≤ 32768 := by
  have hw := weight_bd (i := (i : Int)) (by omega) (by omega)
  unfold In16 at hf
  have m := mul_bd (f i) (weight i) 32768 32767 (by omega) (by omega) (by omega) (by omega)
  unfold winS
  omega
/-- The sum of products k places apart, as far as n. -/
def corr (w : Nat → Int) (k n : Nat) : Int := sumTo n (fun i => w (i + k) * w i)
theorem sumTo_le {f g : Nat → Int} : ∀ n : Nat, (∀ i, i < n → f i ≤ g i) → sumTo n f ≤ sumTo n g
  | 0, _ => Int.le_refl _
  | n + 1, h => by
    have := sumTo_le n (fun i hi => h i (by omega))
    have := h n (by omega)
    rw [sumTo, sumTo]; omega
theorem sumTo_add (f g : Nat → Int) : ∀ n : Nat, sumTo n (fun i => f i + g i) = sumTo n f + sumTo n g
  | 0 => rfl
  | n + 1 => by rw [sumTo, sumTo, sumTo, sumTo_add f g n]; omega
theorem sumTo_two (f : Nat → Int) : ∀ n : Nat, sumTo n (fun i => 2 * f i) = 2 * sumTo n f
  | 0 => rfl
  | n + 1 => by rw [sumTo, sumTo, sumTo_two f n]; omega
theorem sumTo_split (f : Nat → Int) (m : Nat) : ∀ n : Nat, sumTo (m + n) f = sumTo m f + sumTo n (fun i => f (m + i))
  | 0 => by simp [sumTo]
  | n + 1 => by rw [← Nat.add_assoc, sumTo, sumTo_split f m n, sumTo, Int.add_assoc]
theorem sq_nonneg (x : Int) : 0 ≤ x * x := by
  by_cases h : 0 ≤ x
  · exact Int.mul_nonneg h h
  · have := Int.mul_nonneg (show 0 ≤ -x by omega) (show 0 ≤ -x by omega)
    rwa [Int.neg_mul_neg] at this
theorem two_mul_le (x y : Int) : 2 * (x * y) ≤ x * x + y * y ∧ -(x * x + y * y) ≤ 2 * (x * y) := by
  have h1 := sq_nonneg (x - y)
  have h2 := sq_nonneg (x + y)
  have e1 : (x - y) * (x - y) = x * x - 2 * (x * y) + y * y := by
    rw [Int.sub_mul, Int.mul_sub, Int.mul_sub, Int.mul_comm y x]; omega
  have e2 : (x + y) * (x + y) = x * x + 2 * (x * y) + y * y := by
    rw [Int.add_mul, Int.mul_add, Int.mul_add, Int.mul_comm y x]; omega
  omega
theorem corr_le (w : Nat → Int) (k n : Nat) : corr w k n ≤ corr w 0 (n + k) ∧ -(corr w 0 (n + k)) ≤ corr w k n := by
  have e0 : corr w 0 (n + k) = sumTo (n + k) (fun i => w i * w i) := sumTo_congr _ fun i _ => rfl
  have a1 : sumTo n (fun i => w i * w i) ≤ sumTo (n + k) (fun i => w i * w i) := by
    rw [sumTo_split]
    have := sumTo_nonneg k (f := fun i => w (n + i) * w (n + i)) (fun i _ => sq_nonneg _)
    omega
  have a2 : sumTo n (fun i => w (i + k) * w (i + k)) ≤ sumTo (n + k) (fun i => w i * w i) := by
    rw [Nat.add_comm n k, sumTo_split]
    have := sumTo_nonneg k (f := fun i => w i * w i) (fun i _ => sq_nonneg _)
    have e : sumTo n (fun i => w (i + k) * w (i + k)) = sumTo n (fun i => w (k + i) * w (k + i)) := sumTo_congr _ fun i _ => by rw [Nat.add_comm]
    omega
  have b1 := sumTo_le n (f := fun i => 2 * (w (i + k) * w i)) (g := fun i => w (i + k) * w (i + k) + w i * w i) (fun i _ => (two_mul_le _ _).1)
  have b2 := sumTo_le n (f := fun i => -1 * (w (i + k) * w (i + k) + w i * w i)) (g := fun i => 2 * (w (i + k) * w i)) (fun i _ => by have := (two_mul_le (w (i + k)) (w i)).2; omega)
  rw [sumTo_two, sumTo_add] at b1
  have c : sumTo n (fun i => -1 * (w (i + k) * w (i + k) + w i * w i)) = -(sumTo n (fun i => w (i + k) * w (i + k)) + sumTo n (fun i => w i * w i)) := by
    have : ∀ (f : Nat → Int) (n : Nat), sumTo n (fun i => -1 * f i) = -(sumTo n f) := by
      intro f n
      induction n with
      | zero => rfl
      | succ n ih => rw [sumTo, sumTo, ih]; omega
    rw [this, sumTo_add]
  rw [c, sumTo_two] at b2
  unfold corr at *
  rw [e0]
  omega
theorem corr_bd {w : Nat → Int} {k n : Nat} (hw : ∀ i, i < n + k → -32768 ≤ w i ∧ w i ≤ 32768) : -(n * 1073741824) ≤ corr w k n ∧ corr w k n ≤ n * 1073741824 :=
  sumTo_bd n fun i hi => mul_bd _ _ 32768 32768 (hw _ (by omega)).1 (hw _ (by omega)).2 (hw _ (by omega)).1 (hw _ (by omega)).2
theorem corr_zero_nonneg (w : Nat → Int) (n : Nat) : 0 ≤ corr w 0 n := sumTo_nonneg n fun i _ => sq_nonneg _
/-- A little less of what lies farther ahead. -/
def lessQ (q k : Int) : Int := q - q * k * k / 8192
theorem lessQ_lt {S q k : Int} (hS : 1073741824 ≤ S) (hk : 1 ≤ k ∧ k ≤ 8) (h1 : -(S + 1) ≤ q) (h2 : q ≤ S) : lessQ q k < S ∧ -S < lessQ q k := by
  have : k = 1 ∨ k = 2 ∨ k = 3 ∨ k = 4 ∨ k = 5 ∨ k = 6 ∨ k = 7 ∨ k = 8 := by omega
  unfold lessQ
  rcases this with rfl | rfl | rfl | rfl | rfl | rfl | rfl | rfl <;> omega
end Go.Proofs.Ytcoicmbjoaonoaa
