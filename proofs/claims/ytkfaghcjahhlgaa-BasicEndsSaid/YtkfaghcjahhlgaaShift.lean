/-
  basic: numbers moved. Contracts of shift, Shl, Shr, LShl, LShr. No statement is proved here.
-/
import Derived.Test.YtkfaghcjahhlgaaSat
namespace Go.Proofs.Ytkfaghcjahhlgaa
open Go.RowKit

def moved (x n : Int) : Int := if n < 0 then x / 2 ^ (-n).toNat else x * 2 ^ (min n 32).toNat
theorem two_pos (a : Nat) : (0 : Int) < 2 ^ a := Int.pow_pos (by omega)
theorem two_le {a b : Nat} (h : a ≤ b) : (2 : Int) ^ a ≤ 2 ^ b := by
  obtain ⟨c, rfl⟩ := Nat.exists_eq_add_of_le h
  rw [Int.pow_add]
  have h1 := two_pos a
  have h2 := two_pos c
  have := Int.mul_le_mul_of_nonneg_left (show (1 : Int) ≤ 2 ^ c by omega) (show (0 : Int) ≤ 2 ^ a by omega)
  omega
theorem moved_bd (x n : Int) (hx : -2147483648 ≤ x ∧ x ≤ 2147483647) : -9223372036854775808 ≤ moved x n ∧ moved x n ≤ 9223372036854775807 := by
  unfold moved
  split
  · have hp := two_pos (-n).toNat
    generalize (2 : Int) ^ (-n).toNat = p at *
    have h3 := Int.emod_nonneg x (show p ≠ 0 by omega)
    have h4 := Int.emod_lt_of_pos x hp
    have h5 := Int.mul_ediv_add_emod x p
    generalize x / p = q at *
    generalize x % p = r at *
    by_cases h0 : 0 ≤ q
    · have := Int.mul_le_mul_of_nonneg_right (show (1 : Int) ≤ p by omega) h0
      omega
    · have := Int.mul_le_mul_of_nonneg_right (show (1 : Int) ≤ p by omega) (show 0 ≤ -q - 1 by omega)
      simp only [Int.one_mul, Int.mul_sub, Int.mul_neg, Int.mul_one] at this
      omega
  · have h1 := two_le (show (min n 32).toNat ≤ 32 by omega)
    have h2 := two_pos (min n 32).toNat
    rw [show (2 : Int) ^ 32 = 4294967296 from rfl] at h1
    generalize (2 : Int) ^ (min n 32).toNat = p at *
    have := mul_bd (x + 1) p 2147483648 4294967296
    by_cases h0 : 0 ≤ x
    · have a := mul_le_of x p 2147483647 4294967296 h0 hx.2 (by omega) h1
      omega
    · have a := mul_le_of (-x) p 2147483648 4294967296 (by omega) (by omega) (by omega) h1
      rw [Int.neg_mul] at a
      omega
theorem shift_any (x n : Int) (w : World) (hx : -2147483648 ≤ x ∧ x ≤ 2147483647) (hn : -40 ≤ n) : Calls Try.prog 34 #[.int .i64 x, .int .i64 n] w fun e w' => e = .returned (.int .i64 (moved x n)) ∧ w = w' := by
  have hb := moved_bd x n hx
  by_cases h : n < 0
  · have d := lt_yes h
    have s1 : IntKind.i64.wrap (-n) = -n := IntWalk.i64_in _ (by omega)
    have hm : moved x n = x / 2 ^ (-n).toNat := by simp [moved, h]
    rw [hm]
    clear hm hb
    go_enter Try.func34, Try.ntmps34
    go_wp2
    go_ret
    exact ⟨rfl, rfl⟩
  · have d := lt_no (show (0 : Int) ≤ n by omega)
    by_cases h1 : 31 < n
    · have d2 := lt_yes h1
      have hm : moved x n = x * 2147483648 * 2 := by
        have : min n 32 = 32 := by omega
        unfold moved
        rw [if_neg h, this, Int.mul_assoc]; rfl
      have HM := Lib.hid hm
      have HB := Lib.hid hb
      clear hb hm
      go_enter Try.func34, Try.ntmps34
      go_wp2
      go_ret
      have hm := HM.out
      have hb := HB.out
      refine ⟨?_, rfl⟩
      rw [hm]
      first | rfl | (rw [IntWalk.wrap64_in (x * 2147483648) (by omega), IntWalk.wrap64_in _ (by omega)]; rfl)
    · have d2 := lt_no (show n ≤ 31 by omega)
      have hm : moved x n = x * 2 ^ n.toNat := by
        have : min n 32 = n := by omega
        unfold moved
        rw [if_neg h, this]
      have HM := Lib.hid hm
      have HB := Lib.hid hb
      clear hb hm
      go_enter Try.func34, Try.ntmps34
      go_wp2
      go_ret
      have hm := HM.out
      have hb := HB.out
      refine ⟨?_, rfl⟩
      rw [hm] at hb
      rw [hm]
      first | rfl | (rw [IntWalk.wrap64_in _ hb]; rfl)

/-- 'max(n, -40)'. -/
def lim (n : Int) : Int := if n < -40 then -40 else n
theorem lim_bd (n : Int) : -40 ≤ lim n := by unfold lim; split <;> omega
theorem Shl_any (a n : Int) (w : World) : Calls Try.prog 25 #[.int .i64 a, .int .i64 n] w fun e w' => e = .returned (.tuple #[.int .i64 (sat16 (moved (sat16 a) (lim n))), .bool (over16 (moved (sat16 a) (lim n)))]) ∧ w = w' := by
  have h1 := sat16_bd a
  have h2 := lim_bd n
  by_cases hn : n < -40
  · have e : lim n = -40 := by simp [lim, hn]
    have d := lt_yes hn
    rw [e]
    clear h2
    go_enter Try.func25, Try.ntmps25
    go_wp2_with (first | (go_at_call 31; (with_reducible refine (in16_any _ _).mono ?_); rintro e w1 ⟨rfl, rfl⟩) | (go_at_call 30; (with_reducible refine (Sat16_any _ _).mono ?_); rintro e w1 ⟨rfl, rfl⟩) | (go_at_call 34; (with_reducible refine (shift_any _ _ _ (by omega) (by omega)).mono ?_); rintro e w1 ⟨rfl, rfl⟩))
    go_ret2
    exact ⟨rfl, rfl⟩
  · have e : lim n = n := by simp [lim, hn]
    have d := lt_no (show -40 ≤ n by omega)
    rw [e]
    clear h2
    go_enter Try.func25, Try.ntmps25
    go_wp2_with (first | (go_at_call 31; (with_reducible refine (in16_any _ _).mono ?_); rintro e w1 ⟨rfl, rfl⟩) | (go_at_call 30; (with_reducible refine (Sat16_any _ _).mono ?_); rintro e w1 ⟨rfl, rfl⟩) | (go_at_call 34; (with_reducible refine (shift_any _ _ _ (by omega) (by omega)).mono ?_); rintro e w1 ⟨rfl, rfl⟩))
    go_ret2
    exact ⟨rfl, rfl⟩
theorem LShl_any (a n : Int) (w : World) : Calls Try.prog 20 #[.int .i64 a, .int .i64 n] w fun e w' => e = .returned (.tuple #[.int .i64 (sat32 (moved (sat32 a) (lim n))), .bool (over32 (moved (sat32 a) (lim n)))]) ∧ w = w' := by
  have h1 := sat32_bd a
  have h2 := lim_bd n
  by_cases hn : n < -40
  · have e : lim n = -40 := by simp [lim, hn]
    have d := lt_yes hn
    rw [e]
    clear h2
    go_enter Try.func20, Try.ntmps20
    go_wp2_with (first | (go_at_call 33; (with_reducible refine (in32_any _ _).mono ?_); rintro e w1 ⟨rfl, rfl⟩) | (go_at_call 32; (with_reducible refine (Sat32_any _ _).mono ?_); rintro e w1 ⟨rfl, rfl⟩) | (go_at_call 34; (with_reducible refine (shift_any _ _ _ (by omega) (by omega)).mono ?_); rintro e w1 ⟨rfl, rfl⟩))
    go_ret2
    exact ⟨rfl, rfl⟩
  · have e : lim n = n := by simp [lim, hn]
    have d := lt_no (show -40 ≤ n by omega)
    rw [e]
    clear h2
    go_enter Try.func20, Try.ntmps20
    go_wp2_with (first | (go_at_call 33; (with_reducible refine (in32_any _ _).mono ?_); rintro e w1 ⟨rfl, rfl⟩) | (go_at_call 32; (with_reducible refine (Sat32_any _ _).mono ?_); rintro e w1 ⟨rfl, rfl⟩) | (go_at_call 34; (with_reducible refine (shift_any _ _ _ (by omega) (by omega)).mono ?_); rintro e w1 ⟨rfl, rfl⟩))
    go_ret2
    exact ⟨rfl, rfl⟩
theorem Shr_any (a n : Int) (w : World) (hx : n ≤ 9223372036854775807) : Calls Try.prog 26 #[.int .i64 a, .int .i64 n] w fun e w' => e = .returned (.tuple #[.int .i64 (sat16 (moved (sat16 a) (lim (-lim n)))), .bool (over16 (moved (sat16 a) (lim (-lim n))))]) ∧ w = w' := by
  by_cases hn : n < -40
  · have e : lim n = -40 := by simp [lim, hn]
    have d := lt_yes hn
    rw [e]
    go_enter Try.func26, Try.ntmps26
    go_wp2_with (first | (go_at_call 25; (with_reducible refine (Shl_any _ _ _).mono ?_); rintro e w1 ⟨rfl, rfl⟩))
    go_ret2
    exact ⟨rfl, rfl⟩
  · have e : lim n = n := by simp [lim, hn]
    have d := lt_no (show -40 ≤ n by omega)
    rw [e]
    have s1 : IntKind.i64.wrap (-n) = -n := IntWalk.i64_in _ (by omega)
    go_enter Try.func26, Try.ntmps26
    go_wp2_with (first | (go_at_call 25; (with_reducible refine (Shl_any _ _ _).mono ?_); rintro e w1 ⟨rfl, rfl⟩))
    go_ret2
    exact ⟨rfl, rfl⟩
theorem LShr_any (a n : Int) (w : World) (hx : n ≤ 9223372036854775807) : Calls Try.prog 21 #[.int .i64 a, .int .i64 n] w fun e w' => e = .returned (.tuple #[.int .i64 (sat32 (moved (sat32 a) (lim (-lim n)))), .bool (over32 (moved (sat32 a) (lim (-lim n))))]) ∧ w = w' := by
  by_cases hn : n < -40
  · have e : lim n = -40 := by simp [lim, hn]
    have d := lt_yes hn
    rw [e]
    go_enter Try.func21, Try.ntmps21
    go_wp2_with (first | (go_at_call 20; (with_reducible refine (LShl_any _ _ _).mono ?_); rintro e w1 ⟨rfl, rfl⟩))
    go_ret2
    exact ⟨rfl, rfl⟩
  · have e : lim n = n := by simp [lim, hn]
    have d := lt_no (show -40 ≤ n by omega)
    rw [e]
    have s1 : IntKind.i64.wrap (-n) = -n := IntWalk.i64_in _ (by omega)
    go_enter Try.func21, Try.ntmps21
    go_wp2_with (first | (go_at_call 20; (with_reducible refine (LShl_any _ _ _).mono ?_); rintro e w1 ⟨rfl, rfl⟩))
    go_ret2
    exact ⟨rfl, rfl⟩
end Go.Proofs.Ytkfaghcjahhlgaa
