/-
  dual.Div, half, and the walk of DivNear. No statement is proved here.
-/
import Derived.Test.YtdpnadcoehmhbaaDoorGen
import Derived.Test.YtdpnadcoehmhbaaDoorSpot
import Derived.Test.YtdpnadcoehmhbaaDoorHas
namespace Go.Proofs.YtdpnadcoehmhbaaDoor
open Go.RowKit

theorem still_below {w w' : World} (h : w = w') : Below w.heap.size w w' := by subst h; exact (Has.start w).below
theorem div_dbl_hi (x b : Int) (hb : 0 < b) (h : b ≤ 2 * (x % b)) : (2 * x) % b = 2 * (x % b) - b ∧ (2 * x) / b = 2 * (x / b) + 1 := by
  have h1 := Int.emod_lt_of_pos x hb
  have h2 := Int.mul_ediv_add_emod x b
  have h3 : 2 * x = (2 * (x % b) - b) + b * (2 * (x / b) + 1) := by rw [Int.mul_add, Int.mul_left_comm, Int.mul_one]; omega
  rw [h3, Int.add_mul_emod_self_left, Int.add_mul_ediv_left _ _ (show b ≠ 0 by omega), Int.emod_eq_of_lt (by omega) (by omega), Int.ediv_eq_zero_of_lt (by omega) (by omega)]
  exact ⟨rfl, by omega⟩
theorem div_dbl_lo (x b : Int) (hb : 0 < b) (h : 2 * (x % b) < b) : (2 * x) % b = 2 * (x % b) ∧ (2 * x) / b = 2 * (x / b) := by
  have h1 := Int.emod_nonneg x (show b ≠ 0 by omega)
  have h2 := Int.mul_ediv_add_emod x b
  have h3 : 2 * x = 2 * (x % b) + b * (2 * (x / b)) := by rw [Int.mul_left_comm]; omega
  rw [h3, Int.add_mul_emod_self_left, Int.add_mul_ediv_left _ _ (show b ≠ 0 by omega), Int.emod_eq_of_lt (by omega) (by omega), Int.ediv_eq_zero_of_lt (by omega) (by omega)]
  exact ⟨rfl, by omega⟩
theorem two_step (x : Int) (k : Nat) : x * 2 ^ (k + 1) = 2 * (x * 2 ^ k) := by rw [Int.pow_succ]; rw [← Int.mul_assoc, Int.mul_comm]
theorem frac_bd (a b : Int) (k : Nat) (ha : 0 ≤ a) (hab : a < b) (hk : k ≤ 15) : 0 ≤ a * 2 ^ k / b ∧ a * 2 ^ k / b < 32768 := by
  have hp : (0 : Int) < 2 ^ k := Int.pow_pos (by omega)
  have hp2 : (2 : Int) ^ k ≤ 32768 := by
    rcases (show k = 0 ∨ k = 1 ∨ k = 2 ∨ k = 3 ∨ k = 4 ∨ k = 5 ∨ k = 6 ∨ k = 7 ∨ k = 8 ∨ k = 9 ∨ k = 10 ∨ k = 11 ∨ k = 12 ∨ k = 13 ∨ k = 14 ∨ k = 15 by omega) with rfl | rfl | rfl | rfl | rfl | rfl | rfl | rfl | rfl | rfl | rfl | rfl | rfl | rfl | rfl | rfl <;> decide
  refine ⟨Int.ediv_nonneg (Int.mul_nonneg ha (by omega)) (by omega), Int.ediv_lt_of_lt_mul (by omega) ?_⟩
  have h1 := Int.mul_lt_mul_of_pos_right hab hp
  have h2 := Int.mul_le_mul_of_nonneg_left hp2 (show 0 ≤ b by omega)
  rw [Int.mul_comm 32768 b]
  omega

set_option maxHeartbeats 800000 in
theorem Div_any (a b : Int) (w : World) (ha : 0 ≤ a) (hab : a < b) (hb : b ≤ 32767) :
    Calls Tryd.prog 22 #[.int .i64 a, .int .i64 b] w fun e w' => e = .returned (.tuple #[.int .i64 (a * 2 ^ 15 / b), .int .i64 0]) ∧ w = w' := by
  have d1 : decide (b ≤ 0) = false := le_no (by omega)
  have d2 := lt_no hb
  have d3 := lt_no ha
  have d4 := lt_no (show a ≤ b by omega)
  have d5 : (a == b) = false := beq_false_of_ne (by omega)
  go_enter Tryd.func22, Tryd.ntmps22
  go_wp2
  go_loop [0, 6, 26] (fun x q i => ∃ k : Nat, k ≤ 15 ∧ i = .int .i64 k ∧ x = .int .i64 (a * 2 ^ k % b) ∧ q = .int .i64 (a * 2 ^ k / b)) (fun _ _ i => 15 - (intOf i).toNat)
  case atStart => exact ⟨0, by omega, rfl, by rw [Int.pow_zero, Int.mul_one, Int.emod_eq_of_lt ha hab], by rw [Int.pow_zero, Int.mul_one, Int.ediv_eq_zero_of_lt ha hab]⟩
  case round =>
    clear d1 d2 d3 d4 d5
    obtain ⟨k, hk, rfl, rfl, rfl⟩ := hrel
    by_cases hlt : k < 15
    · have q1 := frac_bd a b k ha hab hk
      have r1 := Int.emod_nonneg (a * 2 ^ k) (show b ≠ 0 by omega)
      have r2 := Int.emod_lt_of_pos (a * 2 ^ k) (show 0 < b by omega)
      by_cases hc : b ≤ 2 * (a * 2 ^ k % b)
      · have h := div_dbl_hi (a * 2 ^ k) b (by omega) hc
        rw [← two_step] at h
        have h1 := Lib.hid h.1
        have h2 := Lib.hid h.2
        have d := le_yes hc
        clear h
        generalize a * 2 ^ k / b = Q at *
        generalize a * 2 ^ k % b = R at *
        go_wp2
        go_round
        case rel => exact ⟨k + 1, by omega, by go_num, by rw [h1.out], by rw [h2.out]⟩
        case measure => simp [intOf]; omega
      · have h := div_dbl_lo (a * 2 ^ k) b (by omega) (by omega)
        rw [← two_step] at h
        have h1 := Lib.hid h.1
        have h2 := Lib.hid h.2
        have d := le_no (show 2 * (a * 2 ^ k % b) < b by omega)
        clear h
        generalize a * 2 ^ k / b = Q at *
        generalize a * 2 ^ k % b = R at *
        go_wp2
        go_round
        case rel => exact ⟨k + 1, by omega, by go_num, by rw [h1.out], by rw [h2.out]⟩
        case measure => simp [intOf]; omega
    · obtain rfl : k = 15 := by omega
      go_wp2
      go_ret2
      exact ⟨rfl, rfl⟩
theorem Div_half (w : World) : Calls Tryd.prog 22 #[.int .i64 1, .int .i64 2] w fun e w' => e = .returned (.tuple #[.int .i64 16384, .int .i64 0]) ∧ w = w' :=
  (Div_any 1 2 w (by omega) (by omega) (by omega)).mono (by rintro e w1 ⟨rfl, rfl⟩; exact ⟨rfl, rfl⟩)
theorem half_any (w : World) : Calls Tryd.prog 12 #[] w fun e w' => e = .returned (.bool true) ∧ w = w' := by
  go_enter Tryd.func12, Tryd.ntmps12
  go_wp2_with (first | (go_at_call 22; (with_reducible refine (Div_half _).mono ?_); rintro e w1 ⟨rfl, rfl⟩))
  go_ret
  exact ⟨rfl, rfl⟩

end Go.Proofs.YtdpnadcoehmhbaaDoor
