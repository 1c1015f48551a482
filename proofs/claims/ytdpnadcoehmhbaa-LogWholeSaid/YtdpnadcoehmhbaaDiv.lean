/-
  dual.Div, half, and the walk of DivNear. No statement is proved here.
-/
import Derived.Test.YtdpnadcoehmhbaaGen
import Derived.Test.YtdpnadcoehmhbaaSpot
import Derived.Test.YtdpnadcoehmhbaaHas
namespace Go.Proofs.Ytdpnadcoehmhbaa
open Go.RowKit

theorem still_below {w w' : World} (h : w = w') : Below w.heap.size w w' := by subst h; exact (Has.start w).below
theorem div_dbl_hi (x b : Int) (hb : 0 < b) (h : b ≤ 2 * (x % b)) : (2 * x) % b = 2 * (x % b) - b ∧ (2 * x) / b = 2 * (x / b) + 1 := by
  have h1 := Int.emod_lt_of_pos x hb
  have h2 := Int.mul_ediv_add_emod x b
  have h3 : 2 * x = (2 * (x % b) - b) + b * (2 * (x / b) + 1) := by rw [Int.mul_add, Int.mul_left_comm, Int.mul_one]; omega
  rw [h3, Int.add_mul_emod_self_left, Int.add_mul_ediv_left _ _ (show b ≠ 0 by omega), Int.emod_eq_of_lt (by omega) (by omega), Int.ediv_eq_zero_of_lt (by omega) (by omega)]
  exact ⟨rfl, by omega⟩
theorem div_dbl_lo (x b : Int) (hb : 0 < b) (h : 2 * (x % b) < b) : (2 * x) % b = 2 * (x % b) ∧ (2 * x) / b = 2 * (x / b) := by
  have h1 := Int.emod_nonneg x (show b ≠ 0 by omega)
  have h2 := Int.mul_ediv_add_emod x b
  have h3 : 2 * x = 2 * (x % b) + b * (2 * (x / b)) := by rw [Int.mul_left_comm]; omega
  rw [h3, Int.add_mul_emod_self_left, Int.add_mul_ediv_left _ _ (show b ≠ 0 by omega), Int.emod_eq_of_lt (by omega) (by omega), Int.ediv_eq_zero_of_lt (by omega) (by omega)]
  exact ⟨rfl, by omega⟩
theorem two_step (x : Int) (k : Nat) : x * 2 ^ (k + 1) = 2 * (x * 2 ^ k) := by rw [Int.pow_succ]; rw [← Int.mul_assoc, Int.mul_comm]
theorem frac_bd (a b : Int) (k : Nat) (ha : 0 ≤ a) (hab : a < b) (hk : k ≤ 15) : 0 ≤ a * 2 ^ k / b ∧ a * 2 ^ k / b < 32768 := by
  have hp : (0 : Int) < 2 ^ k := Int.pow_pos (by omega)
  have hp2 : (2 : Int) ^ k ≤ 32768 := by
    rcases (show k = 0 ∨ k = 1 ∨ k = 2 ∨ k = 3 ∨ k = 4 ∨ k = 5 ∨ k = 6 ∨ k = 7 ∨ k = 8 ∨ k = 9 ∨ k = 10 ∨ k = 11 ∨ k = 12 ∨ k = 13 ∨ k = 14 ∨ k = 15 by omega) with rfl | rfl | rfl | rfl | rfl | rfl | rfl | rfl | rfl | rfl | rfl | rfl | rfl | rfl | rfl | rfl <;> decide
  refine ⟨Int.ediv_nonneg (Int.mul_nonneg ha (by omega)) (by omega), Int.ediv_lt_of_lt_mul (by omega) ?_⟩
  have h1 := Int.mul_lt_mul_of_pos_right hab hp
  have h2 := Int.mul_le_mul_of_nonneg_left hp2 (show 0 ≤ b by omega)
  rw [Int.mul_comm 32768 b]
  omega

set_option maxHeartbeats 800000 in
theorem Div_any (a b : Int) (w : World) (ha : 0 ≤ a) (hab : a < b) (hb : b ≤ 32767) :
    Calls Try.prog 12 #[.int .i64 a, .int .i64 b] w fun e w' => e = .returned (.tuple #[.int .i64 (a * 2 ^ 15 / b), .int .i64 0]) ∧ w = w' := by
  have d1 : decide (b ≤ 0) = false := le_no (by omega)
  have d2 := lt_no hb
  have d3 := lt_no ha
  have d4 := lt_no (show a ≤ b by omega)
  have d5 : (a == b) = false := beq_false_of_ne (by omega)
  go_enter Try.func12, Try.ntmps12
  go_wp2
  go_loop [0, 6, 26] (fun x q i => ∃ k : Nat, k ≤ 15 ∧ i = .int .i64 k ∧ x = .int .i64 (a * 2 ^ k % b) ∧ q = .int .i64 (a * 2 ^ k / b)) (fun _ _ i => 15 - (intOf i).toNat)
  case atStart => exact ⟨0, by omega, rfl, by rw [Int.pow_zero, Int.mul_one, Int.emod_eq_of_lt ha hab], by rw [Int.pow_zero, Int.mul_one, Int.ediv_eq_zero_of_lt ha hab]⟩
  case round =>
    clear d1 d2 d3 d4 d5
    obtain ⟨k, hk, rfl, rfl, rfl⟩ := hrel
    by_cases hlt : k < 15
    · have q1 := frac_bd a b k ha hab hk
      have r1 := Int.emod_nonneg (a * 2 ^ k) (show b ≠ 0 by omega)
      have r2 := Int.emod_lt_of_pos (a * 2 ^ k) (show 0 < b by omega)
      by_cases hc : b ≤ 2 * (a * 2 ^ k % b)
      · have h := div_dbl_hi (a * 2 ^ k) b (by omega) hc
        rw [← two_step] at h
        have h1 := Lib.hid h.1
        have h2 := Lib.hid h.2
        have d := le_yes hc
        clear h
        generalize a * 2 ^ k / b = Q at *
        generalize a * 2 ^ k % b = R at *
        go_wp2
        go_round
        case rel => exact ⟨k + 1, by omega, by go_num, by rw [h1.out], by rw [h2.out]⟩
        case measure => simp [intOf]; omega
      · have h := div_dbl_lo (a * 2 ^ k) b (by omega) (by omega)
        rw [← two_step] at h
        have h1 := Lib.hid h.1
        have h2 := Lib.hid h.2
        have d := le_no (show 2 * (a * 2 ^ k % b) < b by omega)
        clear h
        generalize a * 2 ^ k / b = Q at *
        generalize a * 2 ^ k % b = R at *
        go_wp2
        go_round
        case rel => exact ⟨k + 1, by omega, by go_num, by rw [h1.out], by rw [h2.out]⟩
        case measure => simp [intOf]; omega
    · obtain rfl : k = 15 := by omega
      go_wp2
      go_ret2
      exact ⟨rfl, rfl⟩
theorem Div_half (w : World) : Calls Try.prog 12 #[.int .i64 1, .int .i64 2] w fun e w' => e = .returned (.tuple #[.int .i64 16384, .int .i64 0]) ∧ w = w' :=
  (Div_any 1 2 w (by omega) (by omega) (by omega)).mono (by rintro e w1 ⟨rfl, rfl⟩; exact ⟨rfl, rfl⟩)
theorem half_any (w : World) : Calls Try.prog 13 #[] w fun e w' => e = .returned (.bool true) ∧ w = w' := by
  go_enter Try.func13, Try.ntmps13
  go_wp2_with (first | (go_at_call 12; (with_reducible refine (Div_half _).mono ?_); rintro e w1 ⟨rfl, rfl⟩))
  go_ret
  exact ⟨rfl, rfl⟩

set_option maxHeartbeats 800000 in
theorem divNear_in (A B Q a b : Int) (w : World) (hA : 0 ≤ A) (hAB : A < B) (hB : B ≤ 32767) (q1 : 0 ≤ Q) (q2 : Q ≤ 32767) (q3 : Q * B ≤ A * 32768) (q4 : A * 32768 < (Q + 1) * B)
    (c1 : Calls Try.prog 11 #[.int .i64 b, .int .i64 32767] w fun e w' => e = .returned (.int .i64 (B - 1)) ∧ w = w')
    (c2 : Calls Try.prog 11 #[.int .i64 a, .int .i64 B] w fun e w' => e = .returned (.int .i64 A) ∧ w = w')
    (c3 : Calls Try.prog 12 #[.int .i64 A, .int .i64 B] w fun e w' => e = .returned (.tuple #[.int .i64 Q, .int .i64 0]) ∧ w = w') :
    Calls Try.prog 4 #[.int .i64 a, .int .i64 b] w fun e w' => e = .returned (.bool true) ∧ w = w' := by
  have m1 := mul_le_of Q B 32767 32767 q1 q2 (by omega) hB
  have m2 := mul_le_of (Q + 1) B 32768 32767 (by omega) (by omega) (by omega) hB
  have m3 := Int.mul_nonneg q1 (show 0 ≤ B by omega)
  have m4 := Int.mul_nonneg (show 0 ≤ Q + 1 by omega) (show 0 ≤ B by omega)
  have s0 : B - 1 + 1 = B := by omega
  have d1 := le_yes q3
  have d2 := lt_yes q4
  have d3 := le_yes q1
  have d4 := le_yes q2
  have s1 : IntKind.i64.wrap (Q * B) = Q * B := IntWalk.i64_in _ (by omega)
  have s2 : IntKind.i64.wrap ((Q + 1) * B) = (Q + 1) * B := IntWalk.i64_in _ (by omega)
  have s3 : IntKind.i64.wrap (A * 32768) = A * 32768 := IntWalk.i64_in _ (by omega)
  clear m1 m2 m3 m4 q3 q4
  go_enter Try.func4, Try.ntmps4
  go_wp2_with (first | (go_at_call 11; (with_reducible refine (c1).mono ?_); rintro e w1 ⟨rfl, rfl⟩) | (go_at_call 11; (with_reducible refine (c2).mono ?_); rintro e w1 ⟨rfl, rfl⟩) | (go_at_call 12; (with_reducible refine (c3).mono ?_); rintro e w1 ⟨rfl, rfl⟩) | (go_at_call 13; (with_reducible refine (half_any _).mono ?_); rintro e w1 ⟨rfl, rfl⟩))
  go_ret
  exact ⟨rfl, rfl⟩
theorem divNear_walk (a b : Int) (w : World) :
    Calls Try.prog 4 #[.int .i64 a, .int .i64 b] w fun e w' => e = .returned (.bool true) ∧ w = w' := by
  have b1 := Int.emod_nonneg b (show (32767 : Int) ≠ 0 by omega)
  have b2 := Int.emod_lt_of_pos b (show (0 : Int) < 32767 by omega)
  have c1 := spot_any b 32767 w (by omega) (by omega)
  generalize b % 32767 = B at *
  have a1 := Int.emod_nonneg a (show B + 1 ≠ 0 by omega)
  have a2 := Int.emod_lt_of_pos a (show 0 < B + 1 by omega)
  have c2 := spot_any a (B + 1) w (by omega) (by omega)
  generalize a % (B + 1) = A at *
  have q := frac_bd _ _ 15 a1 a2 (by omega)
  have h1 := Int.mul_ediv_add_emod (A * 2 ^ 15) (B + 1)
  have h2 := Int.emod_nonneg (A * 2 ^ 15) (show B + 1 ≠ 0 by omega)
  have h3 := Int.emod_lt_of_pos (A * 2 ^ 15) (show 0 < B + 1 by omega)
  have c3 := Div_any A (B + 1) w a1 a2 (by omega)
  rw [Int.mul_comm] at h1
  refine divNear_in A (B + 1) (A * 2 ^ 15 / (B + 1)) a b w a1 a2 (by omega) q.1 (by omega) (by omega) ?_ (by rw [show B + 1 - 1 = B by omega]; exact c1) c2 c3
  rw [Int.add_mul, Int.one_mul]
  omega
end Go.Proofs.Ytdpnadcoehmhbaa
