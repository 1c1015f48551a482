/-
  The walk of BasicOrder. No statement is proved here.
-/
import Derived.Test.YtkfaghcjahhlgaaAwake
import Derived.Test.YtkfaghcjahhlgaaShift
namespace Go.Proofs.Ytkfaghcjahhlgaa
open Go.RowKit

theorem sat16_le {x y : Int} (h : x ≤ y) : sat16 x ≤ sat16 y := by unfold sat16 clamp; split <;> (try split) <;> (try split) <;> (try split) <;> omega
theorem sat32_le {x y : Int} (h : x ≤ y) : sat32 x ≤ sat32 y := by unfold sat32 clamp; split <;> (try split) <;> (try split) <;> (try split) <;> omega
theorem moved_le {x y : Int} (h : x ≤ y) (n : Int) : moved x n ≤ moved y n := by
  unfold moved
  split
  · exact Int.ediv_le_ediv (two_pos _) h
  · exact Int.mul_le_mul_of_nonneg_right h (by have := two_pos (min n 32).toNat; omega)

set_option maxRecDepth 100000 in
set_option maxHeartbeats 800000 in
theorem basicOrder_walk (a b c : Int) (w : World) :
    Calls Try.prog 8 #[.int .i64 a, .int .i64 b, .int .i64 c] w fun e w' => e = .returned (.bool true) ∧ w = w' := by
  have sp := Int.emod_nonneg c (show (40 : Int) ≠ 0 by omega)
  have sp' := Int.emod_lt_of_pos c (show (0 : Int) < 40 by omega)
  by_cases hab : b < a
  · have d := lt_yes hab
    go_enter Try.func8, Try.ntmps8
    go_wp2_with (first | (go_at_call 11; (with_reducible refine (Add_any _ _ _).mono ?_); rintro e w1 ⟨rfl, rfl⟩) | (go_at_call 23; (with_reducible refine (LSub_any _ _ _).mono ?_); rintro e w1 ⟨rfl, rfl⟩) | (go_at_call 24; (with_reducible refine (Round_any _ _).mono ?_); rintro e w1 ⟨rfl, rfl⟩) | (go_at_call 21; (with_reducible refine (LShr_any _ _ _ (by omega)).mono ?_); rintro e w1 ⟨rfl, rfl⟩) | (go_at_call 19; (with_reducible refine (spot_any _ _ _ (by omega) (by omega)).mono ?_); rintro e w1 ⟨rfl, rfl⟩) | (go_at_call 15; (with_reducible refine (awake_any _).mono ?_); rintro e w1 ⟨rfl, rfl⟩))
    go_ret
    exact ⟨rfl, rfl⟩
  · have d := lt_no (show a ≤ b by omega)
    have d1 : decide (sat16 (sat16 a + sat16 c) ≤ sat16 (sat16 b + sat16 c)) = true := le_yes (sat16_le (by have := sat16_le (show a ≤ b by omega); omega))
    have d2 : decide (sat32 (sat32 a - sat32 c) ≤ sat32 (sat32 b - sat32 c)) = true := le_yes (sat32_le (by have := sat32_le (show a ≤ b by omega); omega))
    have d3 : decide (sat32 (sat32 a + sat32 32768) / 65536 ≤ sat32 (sat32 b + sat32 32768) / 65536) = true := le_yes (Int.ediv_le_ediv (by omega) (sat32_le (by have := sat32_le (show a ≤ b by omega); omega)))
    have d4 : decide (sat32 (moved (sat32 a) (lim (-lim (c % 40)))) ≤ sat32 (moved (sat32 b) (lim (-lim (c % 40))))) = true := le_yes (sat32_le (moved_le (sat32_le (by omega)) _))
    go_enter Try.func8, Try.ntmps8
    go_wp2_with (first | (go_at_call 11; (with_reducible refine (Add_any _ _ _).mono ?_); rintro e w1 ⟨rfl, rfl⟩) | (go_at_call 23; (with_reducible refine (LSub_any _ _ _).mono ?_); rintro e w1 ⟨rfl, rfl⟩) | (go_at_call 24; (with_reducible refine (Round_any _ _).mono ?_); rintro e w1 ⟨rfl, rfl⟩) | (go_at_call 21; (with_reducible refine (LShr_any _ _ _ (by omega)).mono ?_); rintro e w1 ⟨rfl, rfl⟩) | (go_at_call 19; (with_reducible refine (spot_any _ _ _ (by omega) (by omega)).mono ?_); rintro e w1 ⟨rfl, rfl⟩) | (go_at_call 15; (with_reducible refine (awake_any _).mono ?_); rintro e w1 ⟨rfl, rfl⟩))
    go_ret
    exact ⟨rfl, rfl⟩
end Go.Proofs.Ytkfaghcjahhlgaa
