/-
  The walk of LogWhole. No statement is proved here.
-/
import Derived.Test.YtdpnadcoehmhbaaLogRises
namespace Go.Proofs.Ytdpnadcoehmhbaa
open Go.RowKit
/-- The whole part m of a: 2^m ≤ a < 2^(m+1), and a power of two has no digits. -/
theorem log_whole {a : Int} (ha : 1 ≤ a) (ha2 : a ≤ 2147483647) : 2 ^ (30 - nrm a).toNat ≤ a ∧ a < 2 * 2 ^ (30 - nrm a).toNat ∧ (a = 2 ^ (30 - nrm a).toNat → (logS (a * 2 ^ (nrm a).toNat) 15).2 = 0) := by
  obtain ⟨n1, n2⟩ := nrm_top ha ha2
  obtain ⟨_, _, n3⟩ := nrm_of a (by omega)
  have hp := two_pos (nrm a).toNat
  have hpos : 0 ≤ a * 2 ^ (nrm a).toNat := Int.mul_nonneg (by omega) (by omega)
  have hX : 1073741824 ≤ a * 2 ^ (nrm a).toNat ∧ a * 2 ^ (nrm a).toNat < 2147483648 := by omega
  have hq : (2 : Int) ^ (30 - nrm a).toNat * 2 ^ (nrm a).toNat = 1073741824 := by
    rw [← Int.pow_add, show (30 - nrm a).toNat + (nrm a).toNat = 30 by omega]; rfl
  refine ⟨?_, ?_, fun h => ?_⟩
  · by_cases h : 2 ^ (30 - nrm a).toNat ≤ a
    · exact h
    · exfalso
      have := Int.mul_lt_mul_of_pos_right (show a < 2 ^ (30 - nrm a).toNat by omega) hp
      omega
  · by_cases h : a < 2 * 2 ^ (30 - nrm a).toNat
    · exact h
    · exfalso
      have := Int.mul_le_mul_of_nonneg_right (show 2 * 2 ^ (30 - nrm a).toNat ≤ a by omega) (show 0 ≤ (2 : Int) ^ (nrm a).toNat by omega)
      rw [Int.mul_assoc, hq] at this
      omega
  · have : a * 2 ^ (nrm a).toNat = 1073741824 := by rw [← hq]; exact congrArg (· * (2 : Int) ^ (nrm a).toNat) h
    rw [this, logS_one]
set_option maxHeartbeats 1600000 in
theorem whole_in (a A m f : Int) (w : World) (hA : 0 ≤ A ∧ A ≤ 2147483646) (hm : 0 ≤ m ∧ m ≤ 30) (h1 : 2 ^ m.toNat ≤ 1 + A) (h2 : 1 + A < 2 * 2 ^ m.toNat) (h3 : 1 + A = 2 ^ m.toNat → f = 0)
    (c1 : Calls Try.prog 11 #[.int .i64 a, .int .i64 2147483647] w fun e w' => e = .returned (.int .i64 A) ∧ w = w')
    (e1 : Calls Try.prog 15 #[.int .i64 (1 + A)] w fun e w' => e = .returned (.tuple #[.int .i64 m, .int .i64 f, .int .i64 0]) ∧ w = w') :
    Calls Try.prog 7 #[.int .i64 a] w fun e w' => e = .returned (.bool true) ∧ w = w' := by
  have hp2 := two_pos m.toNat
  have s0 : IntKind.u64.wrap m = m := by rw [IntKind.wrap_u64]; omega
  have s1 : wrap64 (2 ^ m.toNat) = 2 ^ m.toNat := IntWalk.wrap64_in _ (by omega)
  have s2 : wrap64 (2 * 2 ^ m.toNat) = 2 * 2 ^ m.toNat := IntWalk.wrap64_in _ (by omega)
  have d1 := le_yes h1
  have d2 := lt_yes h2
  by_cases hx : 1 + A = 2 ^ m.toNat
  · have d3 : (1 + A == 2 ^ m.toNat) = true := beq_iff_eq.2 hx
    have hf := h3 hx
    subst hf
    clear h1 h2 h3 hx
    go_enter Try.func7, Try.ntmps7
    go_wp2_with (first | (go_at_call 11; (with_reducible refine (c1).mono ?_); rintro e w1 ⟨rfl, rfl⟩) | (go_at_call 13; (with_reducible refine (half_any _).mono ?_); rintro e w1 ⟨rfl, rfl⟩) | (go_at_call 15; (with_reducible refine (e1).mono ?_); rintro e w1 ⟨rfl, rfl⟩))
    go_ret
    exact ⟨rfl, rfl⟩
  · have d3 : (1 + A == 2 ^ m.toNat) = false := beq_false_of_ne hx
    clear h1 h2 h3 hx
    go_enter Try.func7, Try.ntmps7
    go_wp2_with (first | (go_at_call 11; (with_reducible refine (c1).mono ?_); rintro e w1 ⟨rfl, rfl⟩) | (go_at_call 13; (with_reducible refine (half_any _).mono ?_); rintro e w1 ⟨rfl, rfl⟩) | (go_at_call 15; (with_reducible refine (e1).mono ?_); rintro e w1 ⟨rfl, rfl⟩))
    go_ret
    exact ⟨rfl, rfl⟩
theorem logWhole_walk (a : Int) (w : World) :
    Calls Try.prog 7 #[.int .i64 a] w fun e w' => e = .returned (.bool true) ∧ w = w' := by
  have c1 := spot_any a 2147483647 w (by omega) (by omega)
  have hA : 0 ≤ a % 2147483647 ∧ a % 2147483647 ≤ 2147483646 := by omega
  generalize a % 2147483647 = A at *
  have hm := nrm_top (a := 1 + A) (by omega) (by omega)
  obtain ⟨h1, h2, h3⟩ := log_whole (a := 1 + A) (by omega) (by omega)
  exact whole_in a A _ _ w hA (by omega) h1 h2 h3 c1 (Log_any (1 + A) w (by omega) (by omega))
end Go.Proofs.Ytdpnadcoehmhbaa
