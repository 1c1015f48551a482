/-
  The walk of BasicNormal. No statement is proved here.
-/
import Derived.Test.YtkfaghcjahhlgaaAwake
import Derived.Test.YtkfaghcjahhlgaaNorm
import Derived.Test.YtkfaghcjahhlgaaBasicShifts
namespace Go.Proofs.Ytkfaghcjahhlgaa
open Go.RowKit

theorem over32_yes {x : Int} (h : x < -2147483648 ∨ 2147483647 < x) : over32 x = true := by
  unfold over32 over
  rcases h with h | h <;> simp [h]
/-- What the law asks of one number b of 32 bits and the places n that Norm answers. -/
theorem normal_fact {b n : Int} (h : NormOf b n) : 0 ≤ n ∧ n ≤ 31 ∧ over32 (b * 2 ^ n.toNat) = false ∧ sat32 (b * 2 ^ n.toNat) = b * 2 ^ n.toNat ∧ ((b = 0 ∧ b * 2 ^ n.toNat = 0) ∨ (b ≠ 0 ∧ over32 (b * 2 ^ (n + 1).toNat) = true ∧ (1073741824 ≤ b * 2 ^ n.toNat ∨ b * 2 ^ n.toNat < -1073741824))) := by
  obtain ⟨h1, h2, h3⟩ := h
  refine ⟨h1, h2, ?_⟩
  rcases h3 with ⟨h3, h4⟩ | ⟨h3, h4, h5, h6⟩
  · subst h3
    rw [Int.zero_mul]
    exact ⟨rfl, rfl, .inl ⟨rfl, rfl⟩⟩
  · refine ⟨over32_in ⟨h5, h6⟩, sat32_in ⟨h5, h6⟩, .inr ⟨h3, ?_, h4⟩⟩
    rw [show (n + 1).toNat = n.toNat + 1 by omega, pow_step]
    exact over32_yes (by omega)

set_option maxRecDepth 100000 in
set_option maxHeartbeats 3200000 in
theorem normal_in (a b : Int) (w : World) (hb : -2147483648 ≤ b ∧ b ≤ 2147483647) (c1 : Calls Try.prog 18 #[.int .i64 a] w fun e w' => e = .returned (.int .i64 b) ∧ w = w') :
    Calls Try.prog 10 #[.int .i64 a] w fun e w' => e = .returned (.bool true) ∧ w = w' := by
  obtain ⟨n1, n2, _⟩ := nrm_of _ (sat32_bd a)
  obtain ⟨m1, m2, m3, m4, m5⟩ := normal_fact (nrm_of b hb)
  have d1 := le_yes n1
  have d2 := le_yes n2
  rcases m5 with ⟨m5, m6⟩ | ⟨m5, m6, m7⟩
  · have d3 : (b == 0) = true := beq_iff_eq.2 m5
    have d4 : (b != 0) = false := by simp [bne, d3]
    have d5 : (b * 2 ^ (nrm b).toNat == 0) = true := beq_iff_eq.2 m6
    clear m5 m6
    go_enter Try.func10, Try.ntmps10
    go_wp2_with (first | (go_at_call 18; (with_reducible refine (c1).mono ?_); rintro e w1 ⟨rfl, rfl⟩) | (go_at_call 20; (with_reducible refine (LShl_up _ _ _ (by omega) (by omega) (by omega)).mono ?_); rintro e w1 ⟨rfl, rfl⟩) | (go_at_call 15; (with_reducible refine (awake_any _).mono ?_); rintro e w1 ⟨rfl, rfl⟩) | (go_at_call 29; (with_reducible refine (Norm_fn_in b _ hb).mono ?_); rintro e w1 ⟨rfl, rfl⟩) | (go_at_call 29; (with_reducible refine (Norm_fn _ _).mono ?_); rintro e w1 ⟨rfl, rfl⟩))
    go_ret
    exact ⟨rfl, rfl⟩
  · have d3 : (b == 0) = false := beq_false_of_ne m5
    have d6 : (b != 0) = true := by simp [bne, d3]
    rcases m7 with m7 | m7
    · have d4 := le_yes m7
      go_enter Try.func10, Try.ntmps10
      go_wp2_with (first | (go_at_call 18; (with_reducible refine (c1).mono ?_); rintro e w1 ⟨rfl, rfl⟩) | (go_at_call 20; (with_reducible refine (LShl_up _ _ _ (by omega) (by omega) (by omega)).mono ?_); rintro e w1 ⟨rfl, rfl⟩) | (go_at_call 15; (with_reducible refine (awake_any _).mono ?_); rintro e w1 ⟨rfl, rfl⟩) | (go_at_call 29; (with_reducible refine (Norm_fn_in b _ hb).mono ?_); rintro e w1 ⟨rfl, rfl⟩) | (go_at_call 29; (with_reducible refine (Norm_fn _ _).mono ?_); rintro e w1 ⟨rfl, rfl⟩))
      go_ret
      exact ⟨rfl, rfl⟩
    · by_cases m8 : 1073741824 ≤ b * 2 ^ (nrm b).toNat
      · omega
      · have d4 : decide (1073741824 ≤ b * 2 ^ (nrm b).toNat) = false := le_no (by omega)
        have d5 := lt_yes m7
        go_enter Try.func10, Try.ntmps10
        go_wp2_with (first | (go_at_call 18; (with_reducible refine (c1).mono ?_); rintro e w1 ⟨rfl, rfl⟩) | (go_at_call 20; (with_reducible refine (LShl_up _ _ _ (by omega) (by omega) (by omega)).mono ?_); rintro e w1 ⟨rfl, rfl⟩) | (go_at_call 15; (with_reducible refine (awake_any _).mono ?_); rintro e w1 ⟨rfl, rfl⟩) | (go_at_call 29; (with_reducible refine (Norm_fn_in b _ hb).mono ?_); rintro e w1 ⟨rfl, rfl⟩) | (go_at_call 29; (with_reducible refine (Norm_fn _ _).mono ?_); rintro e w1 ⟨rfl, rfl⟩))
        go_ret
        exact ⟨rfl, rfl⟩
theorem basicNormal_walk (a : Int) (w : World) :
    Calls Try.prog 10 #[.int .i64 a] w fun e w' => e = .returned (.bool true) ∧ w = w' :=
  normal_in a (a % 4294967296 - 2147483648) w (by omega) (s32_any a w)
end Go.Proofs.Ytkfaghcjahhlgaa
