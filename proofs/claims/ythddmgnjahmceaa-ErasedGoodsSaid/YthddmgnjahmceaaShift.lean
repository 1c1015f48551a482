/-
  basic: numbers moved. Contracts of shift, Shl, Shr, LShl, LShr. No statement is proved here.
-/
import Derived.Test.YthddmgnjahmceaaSat
namespace Go.Proofs.Ythddmgnjahmceaa
open Go.RowKit

def moved (x n : Int) : Int := if n < 0 then x / 2 ^ (-n).toNat else x * 2 ^ (min n 32).toNat
theorem two_pos (a : Nat) : (0 : Int) < 2 ^ a := Int.pow_pos (by omega)
theorem two_le {a b : Nat} (h : a ≤ b) : (2 : Int) ^ a ≤ 2 ^ b := by
  obtain ⟨c, rfl⟩ := Nat.exists_eq_add_of_le h
  rw [Int.pow_add]
  have h1 := two_pos a
  have h2 := two_pos c
  have := Int.mul_le_mul_of_nonneg_left (show (1 : Int) ≤ 2 ^ c by omega) (show (0 : Int) ≤ 2 ^ a by omega)
  omega
theorem moved_bd (x n : Int) (hx : -2147483648 ≤ x ∧ x ≤ 2147483647) : -9223372036854775808 ≤ moved x n ∧ moved x n ≤ 9223372036854775807 := by
  unfold moved
  split
  · have hp := two_pos (-n).toNat
    generalize (2 : Int) ^ (-n).toNat = p at *
    have h3 := Int.emod_nonneg x (show p ≠ 0 by omega)
    have h4 := Int.emod_lt_of_pos x hp
    have h5 := Int.mul_ediv_add_emod x p
    generalize x / p = q at *
    generalize x % p = r at *
    by_cases h0 : 0 ≤ q
    · have := Int.mul_le_mul_of_nonneg_right (show (1 : Int) ≤ p by omega) h0
      omega
    · have := Int.mul_le_mul_of_nonneg_right (show (1 : Int) ≤ p by omega) (show 0 ≤ -q - 1 by omega)
      simp only [Int.one_mul, Int.mul_sub, Int.mul_neg, Int.mul_one] at this
      omega
  · have h1 := two_le (show (min n 32).toNat ≤ 32 by omega)
    have h2 := two_pos (min n 32).toNat
    rw [show (2 : Int) ^ 32 = 4294967296 from rfl] at h1
    generalize (2 : Int) ^ (min n 32).toNat = p at *
    have := mul_bd (x + 1) p 2147483648 4294967296
    by_cases h0 : 0 ≤ x
    · have a := mul_le_of x p 2147483647 4294967296 h0 hx.2 (by omega) h1
      omega
    · have a := mul_le_of (-x) p 2147483648 4294967296 (by omega) (by omega) (by omega) h1
      rw [Int.neg_mul] at a
      omega
/-- 'max(n, -40)'. -/
def lim (n : Int) : Int := if n < -40 then -40 else n
theorem lim_bd (n : Int) : -40 ≤ lim n := by unfold lim; split <;> omega
end Go.Proofs.Ythddmgnjahmceaa
