/-
  dual.Log. No statement is proved here.
-/
import Derived.Test.YtdpnadcoehmhbaaDual
import Derived.Test.YtdpnadcoehmhbaaNorm
import Derived.OwnWalk
namespace Go.Proofs.Ytdpnadcoehmhbaa
open Go.RowKit
/-- One round: x squared in thirty bits; the digit; what is left. -/
def logX (x : Int) : Int := if 2147483648 ≤ x * x / 1073741824 then x * x / 1073741824 / 2 else x * x / 1073741824
def logD (x : Int) : Int := if 2147483648 ≤ x * x / 1073741824 then 1 else 0
/-- x and the digits behind k rounds. -/
def logS (x : Int) : Nat → Int × Int
  | 0 => (x, 0)
  | k + 1 => (logX (logS x k).1, (logS x k).2 * 2 + logD (logS x k).1)
theorem sq_bd (x : Int) (h : 1073741824 ≤ x ∧ x < 2147483648) : 1073741824 ≤ x * x / 1073741824 ∧ x * x / 1073741824 < 4294967296 ∧ 0 ≤ x * x ∧ x * x < 4611686018427387904 := by
  have h1 := Int.mul_le_mul h.1 h.1 (by omega) (by omega)
  have h2 := mul_le_of x x 2147483647 2147483647 (by omega) (by omega) (by omega) (by omega)
  omega
theorem logX_bd (x : Int) (h : 1073741824 ≤ x ∧ x < 2147483648) : 1073741824 ≤ logX x ∧ logX x < 2147483648 := by
  have := sq_bd x h
  unfold logX
  split <;> omega
theorem logD_bd (x : Int) : 0 ≤ logD x ∧ logD x ≤ 1 := by unfold logD; split <;> omega
theorem logS_bd (x : Int) (h : 1073741824 ≤ x ∧ x < 2147483648) : ∀ k : Nat, (1073741824 ≤ (logS x k).1 ∧ (logS x k).1 < 2147483648) ∧ 0 ≤ (logS x k).2 ∧ (logS x k).2 < 2 ^ k
  | 0 => ⟨h, by simp [logS], by simp [logS]⟩
  | k + 1 => by
    obtain ⟨h1, h2, h3⟩ := logS_bd x h k
    have := logD_bd (logS x k).1
    refine ⟨logX_bd _ h1, ?_, ?_⟩
    · simp only [logS]; omega
    · simp only [logS]; rw [Int.pow_succ]; omega
theorem logX_le {x y : Int} (hx : 1073741824 ≤ x) (h : x ≤ y) : logD x ≤ logD y ∧ (logD x = logD y → logX x ≤ logX y) := by
  have h1 := Int.mul_le_mul h h (by omega) (by omega)
  unfold logD logX
  split <;> split <;> omega
/-- The digits rise with x. -/
theorem logS_le {x y : Int} (hx : 1073741824 ≤ x ∧ x < 2147483648) (hy : 1073741824 ≤ y ∧ y < 2147483648) (h : x ≤ y) : ∀ k : Nat, (logS x k).2 < (logS y k).2 ∨ ((logS x k).2 = (logS y k).2 ∧ (logS x k).1 ≤ (logS y k).1)
  | 0 => .inr ⟨rfl, h⟩
  | k + 1 => by
    have bx := logD_bd (logS x k).1
    have by_ := logD_bd (logS y k).1
    simp only [logS]
    rcases logS_le hx hy h k with h1 | ⟨h1, h2⟩
    · omega
    · obtain ⟨h3, h4⟩ := logX_le (logS_bd x hx k).1.1 h2
      by_cases h5 : logD (logS x k).1 = logD (logS y k).1
      · exact .inr ⟨by omega, h4 h5⟩
      · omega
/-- A whole power of two has no digits. -/
theorem logS_one : ∀ k : Nat, logS 1073741824 k = (1073741824, 0)
  | 0 => rfl
  | k + 1 => by simp only [logS, logS_one k]; rfl

set_option maxHeartbeats 800000 in
theorem Log_any (a : Int) (w : World) (ha : 1 ≤ a) (ha2 : a ≤ 2147483647) :
    Calls Try.prog 15 #[.int .i64 a] w fun e w' => e = .returned (.tuple #[.int .i64 (30 - nrm a), .int .i64 (logS (a * 2 ^ (nrm a).toNat) 15).2, .int .i64 0]) ∧ w = w' := by
  obtain ⟨n1, n2, n3⟩ := nrm_of a (by omega)
  have hp := two_pos (nrm a).toNat
  have hpos : 0 ≤ a * 2 ^ (nrm a).toNat := Int.mul_nonneg (by omega) (by omega)
  have hX : 1073741824 ≤ a * 2 ^ (nrm a).toNat ∧ a * 2 ^ (nrm a).toNat < 2147483648 := by omega
  clear n3 hp hpos
  have d1 := lt_no ha
  have d2 := lt_no ha2
  have e2 : IntKind.u64.wrap (nrm a) = nrm a := by rw [IntKind.wrap_u64]; omega
  go_enter Try.func15, Try.ntmps15
  go_wp2_with (first | (go_at_call 18; (with_reducible refine (Norm_fn_in a _ (by omega)).mono ?_); rintro e w1 ⟨rfl, rfl⟩))
  generalize hXe : a * 2 ^ (nrm a).toNat = X at *
  go_loop [6, 7, 20] (fun x f i => ∃ k : Nat, k ≤ 15 ∧ i = .int .i64 k ∧ x = .int .i64 (logS X k).1 ∧ f = .int .i64 (logS X k).2) (fun _ _ i => 15 - (intOf i).toNat)
  case atStart => exact ⟨0, by omega, rfl, rfl, rfl⟩
  case round =>
    clear d1 d2 e2
    obtain ⟨k, hk, rfl, rfl, rfl⟩ := hrel
    by_cases hlt : k < 15
    · obtain ⟨b1, b2, b3⟩ := logS_bd X hX k
      have b4 := two_le (show k ≤ 15 by omega)
      rw [show (2 : Int) ^ 15 = 32768 from rfl] at b4
      have b5 := sq_bd _ b1
      have HS : Hid (logS X (k + 1) = (logX (logS X k).1, (logS X k).2 * 2 + logD (logS X k).1)) := rfl
      generalize (logS X k).1 = x at *
      generalize (logS X k).2 = f at *
      generalize (2 : Int) ^ k = p at *
      have s1 : IntKind.i64.wrap (x * x) = x * x := IntWalk.i64_in _ (by omega)
      by_cases hc : 2147483648 ≤ x * x / 1073741824
      · have HX : Hid (logX x = x * x / 1073741824 / 2) := if_pos hc
        have HD : Hid (logD x = 1) := if_pos hc
        have d := le_yes hc
        go_wp2
        go_round
        case rel => exact ⟨k + 1, by omega, by go_num, by rw [HS.out, HX.out], by rw [HS.out, HD.out]⟩
        case measure => simp [intOf]; omega
      · have HX : Hid (logX x = x * x / 1073741824) := if_neg hc
        have HD : Hid (logD x = 0) := if_neg hc
        have d := le_no (show x * x / 1073741824 < 2147483648 by omega)
        go_wp2
        go_round
        case rel => exact ⟨k + 1, by omega, by go_num, by rw [HS.out, HX.out], by rw [HS.out, HD.out, Int.add_zero]⟩
        case measure => simp [intOf]; omega
    · obtain rfl : k = 15 := by omega
      go_wp2
      go_ret3
      exact ⟨rfl, rfl⟩
theorem log_lt {a b : Int} (ha : 1 ≤ a) (hb2 : b ≤ 2147483647) (h : a ≤ b) : nrm b ≤ nrm a := by
  obtain ⟨n1, n2, n3⟩ := nrm_of a (by omega)
  obtain ⟨m1, m2, m3⟩ := nrm_of b (by omega)
  by_cases hc : nrm b ≤ nrm a
  · exact hc
  · exfalso
    have h3 := two_le (show (nrm a).toNat + 1 ≤ (nrm b).toNat by omega)
    have hp := two_pos (nrm a).toNat
    have h4 := Int.mul_le_mul h h3 (by rw [Int.pow_succ]; omega) (by omega)
    rw [pow_step] at h4
    have hpos : 0 ≤ a * 2 ^ (nrm a).toNat := Int.mul_nonneg (by omega) (by omega)
    omega
/-- The logarithm as a pair, ordered. -/
theorem log_le {a b : Int} (ha : 1 ≤ a) (hb2 : b ≤ 2147483647) (h : a ≤ b) :
    30 - nrm a < 30 - nrm b ∨ (nrm a = nrm b ∧ (logS (a * 2 ^ (nrm a).toNat) 15).2 ≤ (logS (b * 2 ^ (nrm b).toNat) 15).2) := by
  have h1 := log_lt ha hb2 h
  by_cases hc : nrm a = nrm b
  · right
    refine ⟨hc, ?_⟩
    obtain ⟨n1, n2, n3⟩ := nrm_of a (by omega)
    obtain ⟨m1, m2, m3⟩ := nrm_of b (by omega)
    have hp := two_pos (nrm a).toNat
    have hpos : 0 ≤ a * 2 ^ (nrm a).toNat := Int.mul_nonneg (by omega) (by omega)
    have hposb : 0 ≤ b * 2 ^ (nrm b).toNat := Int.mul_nonneg (by omega) (by have := two_pos (nrm b).toNat; omega)
    have h2 : a * 2 ^ (nrm a).toNat ≤ b * 2 ^ (nrm b).toNat := by
      rw [← hc]; exact Int.mul_le_mul_of_nonneg_right h (by omega)
    rcases logS_le (by omega) (by omega) h2 15 with h | h <;> omega
  · left; omega
end Go.Proofs.Ytdpnadcoehmhbaa
