/-
  The walk of BasicShifts. No statement is proved here.
-/
import Derived.Test.YtkfaghcjahhlgaaAwake
import Derived.Test.YtkfaghcjahhlgaaShift
namespace Go.Proofs.Ytkfaghcjahhlgaa
open Go.RowKit

theorem moved_up (x n : Int) (h0 : 0 ≤ n) (h1 : n ≤ 32) : moved x n = x * 2 ^ n.toNat := by
  unfold moved
  rw [if_neg (by omega), show min n 32 = n by omega]
theorem moved_dn (x n : Int) (h0 : 0 ≤ n) : moved x (-n) = x / 2 ^ n.toNat := by
  unfold moved
  split
  · rw [Int.neg_neg]
  · obtain rfl : n = 0 := by omega
    rw [show (min (-0) 32 : Int).toNat = 0 from rfl, show (0 : Int).toNat = 0 from rfl, Int.pow_zero, Int.mul_one, Int.ediv_one]
theorem lim_in (n : Int) (h : -40 ≤ n) : lim n = n := by unfold lim; rw [if_neg (by omega)]
theorem div_bd (x p lo hi : Int) (hp : 0 < p) (h : lo ≤ x ∧ x ≤ hi) (h0 : lo ≤ 0) (h1 : 0 ≤ hi) : lo ≤ x / p ∧ x / p ≤ hi := by
  have h3 := Int.emod_nonneg x (show p ≠ 0 by omega)
  have h4 := Int.emod_lt_of_pos x hp
  have h5 := Int.mul_ediv_add_emod x p
  generalize x / p = q at *
  generalize x % p = r at *
  by_cases h0 : 0 ≤ q
  · have := Int.mul_le_mul_of_nonneg_right (show (1 : Int) ≤ p by omega) h0
    omega
  · have := Int.mul_le_mul_of_nonneg_right (show (1 : Int) ≤ p by omega) (show 0 ≤ -q - 1 by omega)
    simp only [Int.one_mul, Int.mul_sub, Int.mul_neg, Int.mul_one] at this
    omega
theorem LShl_up (x n : Int) (w : World) (hx : -2147483648 ≤ x ∧ x ≤ 2147483647) (h0 : 0 ≤ n) (h1 : n ≤ 32) : Calls Try.prog 20 #[.int .i64 x, .int .i64 n] w fun e w' => e = .returned (.tuple #[.int .i64 (sat32 (x * 2 ^ n.toNat)), .bool (over32 (x * 2 ^ n.toNat))]) ∧ w = w' := by
  refine (LShl_any x n w).mono ?_
  rintro e w1 ⟨rfl, rfl⟩
  rw [sat32_in hx, lim_in n (by omega), moved_up _ _ h0 h1]
  exact ⟨rfl, rfl⟩
theorem LShl_dn (x n : Int) (w : World) (hx : -2147483648 ≤ x ∧ x ≤ 2147483647) (h0 : 0 ≤ n) (h1 : n ≤ 40) : Calls Try.prog 20 #[.int .i64 x, .int .i64 (-n)] w fun e w' => e = .returned (.tuple #[.int .i64 (x / 2 ^ n.toNat), .bool false]) ∧ w = w' := by
  refine (LShl_any x (-n) w).mono ?_
  rintro e w1 ⟨rfl, rfl⟩
  have hb := div_bd x (2 ^ n.toNat) _ _ (two_pos _) hx (by omega) (by omega)
  rw [sat32_in hx, lim_in _ (by omega), moved_dn _ _ h0, sat32_in hb, over32_in hb]
  exact ⟨rfl, rfl⟩
theorem LShr_dn (x n : Int) (w : World) (hx : -2147483648 ≤ x ∧ x ≤ 2147483647) (h0 : 0 ≤ n) (h1 : n ≤ 40) : Calls Try.prog 21 #[.int .i64 x, .int .i64 n] w fun e w' => e = .returned (.tuple #[.int .i64 (x / 2 ^ n.toNat), .bool false]) ∧ w = w' := by
  refine (LShr_any x n w (by omega)).mono ?_
  rintro e w1 ⟨rfl, rfl⟩
  have hb := div_bd x (2 ^ n.toNat) _ _ (two_pos _) hx (by omega) (by omega)
  rw [sat32_in hx, lim_in n (by omega), lim_in _ (by omega), moved_dn _ _ h0, sat32_in hb, over32_in hb]
  exact ⟨rfl, rfl⟩

set_option maxRecDepth 100000 in
set_option maxHeartbeats 800000 in
theorem basicShifts_walk (a n : Int) (w : World) :
    Calls Try.prog 5 #[.int .i64 a, .int .i64 n] w fun e w' => e = .returned (.bool true) ∧ w = w' := by
  have sp := Int.emod_nonneg n (show (31 : Int) ≠ 0 by omega)
  have sp' := Int.emod_lt_of_pos n (show (0 : Int) < 31 by omega)
  have h1 := Int.emod_nonneg a (show (4294967296 : Int) ≠ 0 by omega)
  have h2 := Int.emod_lt_of_pos a (show (0 : Int) < 4294967296 by omega)
  have s1 : IntKind.i64.wrap (-(n % 31)) = -(n % 31) := IntWalk.i64_in _ (by omega)
  have hx : -2147483648 ≤ a % 4294967296 - 2147483648 ∧ a % 4294967296 - 2147483648 ≤ 2147483647 := by omega
  have hb := sat32_bd ((a % 4294967296 - 2147483648) * 2 ^ (n % 31).toNat)
  cases ho : over32 ((a % 4294967296 - 2147483648) * 2 ^ (n % 31).toNat) with
  | true =>
    go_enter Try.func5, Try.ntmps5
    go_wp2_with (first | (go_at_call 18; (with_reducible refine (s32_any _ _).mono ?_); rintro e w1 ⟨rfl, rfl⟩) | (go_at_call 19; (with_reducible refine (spot_any _ _ _ (by omega) (by omega)).mono ?_); rintro e w1 ⟨rfl, rfl⟩) | (go_at_call 20; (with_reducible refine (LShl_dn _ _ _ (by omega) (by omega) (by omega)).mono ?_); rintro e w1 ⟨rfl, rfl⟩) | (go_at_call 20; (with_reducible refine (LShl_up _ _ _ (by omega) (by omega) (by omega)).mono ?_); rintro e w1 ⟨rfl, rfl⟩) | (go_at_call 21; (with_reducible refine (LShr_dn _ _ _ (by omega) (by omega) (by omega)).mono ?_); rintro e w1 ⟨rfl, rfl⟩) | (go_at_call 15; (with_reducible refine (awake_any _).mono ?_); rintro e w1 ⟨rfl, rfl⟩))
    go_ret
    exact ⟨rfl, rfl⟩
  | false =>
    have hk : sat32 ((a % 4294967296 - 2147483648) * 2 ^ (n % 31).toNat) / 2 ^ (n % 31).toNat = a % 4294967296 - 2147483648 := by
      have : sat32 ((a % 4294967296 - 2147483648) * 2 ^ (n % 31).toNat) = (a % 4294967296 - 2147483648) * 2 ^ (n % 31).toNat := by
        unfold over32 over at ho
        simp only [Bool.or_eq_false_iff, decide_eq_false_iff_not] at ho
        exact sat32_in (by omega)
      rw [this, Int.mul_ediv_cancel _ (by have := two_pos (n % 31).toNat; omega)]
    go_enter Try.func5, Try.ntmps5
    go_wp2_with (first | (go_at_call 18; (with_reducible refine (s32_any _ _).mono ?_); rintro e w1 ⟨rfl, rfl⟩) | (go_at_call 19; (with_reducible refine (spot_any _ _ _ (by omega) (by omega)).mono ?_); rintro e w1 ⟨rfl, rfl⟩) | (go_at_call 20; (with_reducible refine (LShl_dn _ _ _ (by omega) (by omega) (by omega)).mono ?_); rintro e w1 ⟨rfl, rfl⟩) | (go_at_call 20; (with_reducible refine (LShl_up _ _ _ (by omega) (by omega) (by omega)).mono ?_); rintro e w1 ⟨rfl, rfl⟩) | (go_at_call 21; (with_reducible refine (LShr_dn _ _ _ (by omega) (by omega) (by omega)).mono ?_); rintro e w1 ⟨rfl, rfl⟩) | (go_at_call 15; (with_reducible refine (awake_any _).mono ?_); rintro e w1 ⟨rfl, rfl⟩))
    go_ret
    exact ⟨rfl, rfl⟩
end Go.Proofs.Ytkfaghcjahhlgaa
