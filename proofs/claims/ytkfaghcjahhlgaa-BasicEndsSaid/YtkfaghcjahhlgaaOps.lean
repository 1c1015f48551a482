/-
  basic: sums, differences, products. Contracts. No statement is proved here.
-/
import Derived.Test.YtkfaghcjahhlgaaSat
namespace Go.Proofs.Ytkfaghcjahhlgaa
open Go.RowKit

theorem Add_any (a b : Int) (w : World) : Calls Try.prog 11 #[.int .i64 a, .int .i64 b] w fun e w' => e = .returned (.tuple #[.int .i64 (sat16 (sat16 a + sat16 b)), .bool (over16 (sat16 a + sat16 b))]) ∧ w = w' := by
  have h1 := sat16_bd a
  have h2 := sat16_bd b
  go_enter Try.func11, Try.ntmps11
  go_wp2_with (first | (go_at_call 31; (with_reducible refine (in16_any _ _).mono ?_); rintro e w1 ⟨rfl, rfl⟩) | (go_at_call 30; (with_reducible refine (Sat16_any _ _).mono ?_); rintro e w1 ⟨rfl, rfl⟩))
  go_ret2
  exact ⟨rfl, rfl⟩

theorem Sub_any (a b : Int) (w : World) : Calls Try.prog 17 #[.int .i64 a, .int .i64 b] w fun e w' => e = .returned (.tuple #[.int .i64 (sat16 (sat16 a - sat16 b)), .bool (over16 (sat16 a - sat16 b))]) ∧ w = w' := by
  have h1 := sat16_bd a
  have h2 := sat16_bd b
  go_enter Try.func17, Try.ntmps17
  go_wp2_with (first | (go_at_call 31; (with_reducible refine (in16_any _ _).mono ?_); rintro e w1 ⟨rfl, rfl⟩) | (go_at_call 30; (with_reducible refine (Sat16_any _ _).mono ?_); rintro e w1 ⟨rfl, rfl⟩))
  go_ret2
  exact ⟨rfl, rfl⟩

theorem LAdd_any (a b : Int) (w : World) : Calls Try.prog 12 #[.int .i64 a, .int .i64 b] w fun e w' => e = .returned (.tuple #[.int .i64 (sat32 (sat32 a + sat32 b)), .bool (over32 (sat32 a + sat32 b))]) ∧ w = w' := by
  have h1 := sat32_bd a
  have h2 := sat32_bd b
  go_enter Try.func12, Try.ntmps12
  go_wp2_with (first | (go_at_call 33; (with_reducible refine (in32_any _ _).mono ?_); rintro e w1 ⟨rfl, rfl⟩) | (go_at_call 32; (with_reducible refine (Sat32_any _ _).mono ?_); rintro e w1 ⟨rfl, rfl⟩))
  go_ret2
  exact ⟨rfl, rfl⟩

theorem LSub_any (a b : Int) (w : World) : Calls Try.prog 23 #[.int .i64 a, .int .i64 b] w fun e w' => e = .returned (.tuple #[.int .i64 (sat32 (sat32 a - sat32 b)), .bool (over32 (sat32 a - sat32 b))]) ∧ w = w' := by
  have h1 := sat32_bd a
  have h2 := sat32_bd b
  go_enter Try.func23, Try.ntmps23
  go_wp2_with (first | (go_at_call 33; (with_reducible refine (in32_any _ _).mono ?_); rintro e w1 ⟨rfl, rfl⟩) | (go_at_call 32; (with_reducible refine (Sat32_any _ _).mono ?_); rintro e w1 ⟨rfl, rfl⟩))
  go_ret2
  exact ⟨rfl, rfl⟩

theorem Mult_any (a b : Int) (w : World) : Calls Try.prog 13 #[.int .i64 a, .int .i64 b] w fun e w' => e = .returned (.tuple #[.int .i64 (sat16 (sat16 a * sat16 b / 32768)), .bool (over16 (sat16 a * sat16 b / 32768))]) ∧ w = w' := by
  have h1 := sat16_bd a
  have h2 := sat16_bd b
  obtain ⟨m1, m2⟩ := mul_bd (sat16 a) (sat16 b) 32768 32768 (by omega) (by omega) (by omega) (by omega)
  go_enter Try.func13, Try.ntmps13
  go_wp2_with (first | (go_at_call 31; (with_reducible refine (in16_any _ _).mono ?_); rintro e w1 ⟨rfl, rfl⟩) | (go_at_call 30; (with_reducible refine (Sat16_any _ _).mono ?_); rintro e w1 ⟨rfl, rfl⟩))
  go_ret2
  exact ⟨rfl, rfl⟩

theorem LMult_any (a b : Int) (w : World) : Calls Try.prog 14 #[.int .i64 a, .int .i64 b] w fun e w' => e = .returned (.tuple #[.int .i64 (sat32 (2 * sat16 a * sat16 b)), .bool (over32 (2 * sat16 a * sat16 b))]) ∧ w = w' := by
  have h1 := sat16_bd a
  have h2 := sat16_bd b
  obtain ⟨m1, m2⟩ := mul_bd (2 * sat16 a) (sat16 b) 65536 32768 (by omega) (by omega) (by omega) (by omega)
  go_enter Try.func14, Try.ntmps14
  go_wp2_with (first | (go_at_call 31; (with_reducible refine (in16_any _ _).mono ?_); rintro e w1 ⟨rfl, rfl⟩) | (go_at_call 32; (with_reducible refine (Sat32_any _ _).mono ?_); rintro e w1 ⟨rfl, rfl⟩))
  go_ret2
  exact ⟨rfl, rfl⟩

theorem both_LAdd (acc a b : Int) (w : World) : Calls Try.prog 36 #[.int .i64 acc, .int .i64 a, .int .i64 b, .func (.func 12) #[] #[]] w fun e w' => e = .returned (.tuple #[.int .i64 (sat32 (sat32 acc + sat32 (sat32 (2 * sat16 a * sat16 b)))), .bool (over32 (2 * sat16 a * sat16 b) || over32 (sat32 acc + sat32 (sat32 (2 * sat16 a * sat16 b))))]) ∧ w = w' := by
  cases ho : over32 (2 * sat16 a * sat16 b)
  · go_enter Try.func36, Try.ntmps36
    go_wp2_with (first | (go_at_call 14; (with_reducible refine (LMult_any _ _ _).mono ?_); rintro e w1 ⟨rfl, rfl⟩) | (go_at_call 12; (with_reducible refine (LAdd_any _ _ _).mono ?_); rintro e w1 ⟨rfl, rfl⟩))
    go_ret2
    exact ⟨rfl, rfl⟩
  · go_enter Try.func36, Try.ntmps36
    go_wp2_with (first | (go_at_call 14; (with_reducible refine (LMult_any _ _ _).mono ?_); rintro e w1 ⟨rfl, rfl⟩) | (go_at_call 12; (with_reducible refine (LAdd_any _ _ _).mono ?_); rintro e w1 ⟨rfl, rfl⟩))
    go_ret2
    exact ⟨rfl, rfl⟩
theorem LMac_any (acc a b : Int) (w : World) : Calls Try.prog 27 #[.int .i64 acc, .int .i64 a, .int .i64 b] w fun e w' => e = .returned (.tuple #[.int .i64 (sat32 (sat32 acc + sat32 (sat32 (2 * sat16 a * sat16 b)))), .bool (over32 (2 * sat16 a * sat16 b) || over32 (sat32 acc + sat32 (sat32 (2 * sat16 a * sat16 b))))]) ∧ w = w' := by
  go_enter Try.func27, Try.ntmps27
  go_wp2_with (go_at_call 36; (with_reducible refine (both_LAdd _ _ _ _).mono ?_); rintro e w1 ⟨rfl, rfl⟩)
  go_ret2
  exact ⟨rfl, rfl⟩

theorem both_LSub (acc a b : Int) (w : World) : Calls Try.prog 36 #[.int .i64 acc, .int .i64 a, .int .i64 b, .func (.func 23) #[] #[]] w fun e w' => e = .returned (.tuple #[.int .i64 (sat32 (sat32 acc - sat32 (sat32 (2 * sat16 a * sat16 b)))), .bool (over32 (2 * sat16 a * sat16 b) || over32 (sat32 acc - sat32 (sat32 (2 * sat16 a * sat16 b))))]) ∧ w = w' := by
  cases ho : over32 (2 * sat16 a * sat16 b)
  · go_enter Try.func36, Try.ntmps36
    go_wp2_with (first | (go_at_call 14; (with_reducible refine (LMult_any _ _ _).mono ?_); rintro e w1 ⟨rfl, rfl⟩) | (go_at_call 23; (with_reducible refine (LSub_any _ _ _).mono ?_); rintro e w1 ⟨rfl, rfl⟩))
    go_ret2
    exact ⟨rfl, rfl⟩
  · go_enter Try.func36, Try.ntmps36
    go_wp2_with (first | (go_at_call 14; (with_reducible refine (LMult_any _ _ _).mono ?_); rintro e w1 ⟨rfl, rfl⟩) | (go_at_call 23; (with_reducible refine (LSub_any _ _ _).mono ?_); rintro e w1 ⟨rfl, rfl⟩))
    go_ret2
    exact ⟨rfl, rfl⟩
theorem LMsu_any (acc a b : Int) (w : World) : Calls Try.prog 28 #[.int .i64 acc, .int .i64 a, .int .i64 b] w fun e w' => e = .returned (.tuple #[.int .i64 (sat32 (sat32 acc - sat32 (sat32 (2 * sat16 a * sat16 b)))), .bool (over32 (2 * sat16 a * sat16 b) || over32 (sat32 acc - sat32 (sat32 (2 * sat16 a * sat16 b))))]) ∧ w = w' := by
  go_enter Try.func28, Try.ntmps28
  go_wp2_with (go_at_call 36; (with_reducible refine (both_LSub _ _ _ _).mono ?_); rintro e w1 ⟨rfl, rfl⟩)
  go_ret2
  exact ⟨rfl, rfl⟩

theorem Round_any (a : Int) (w : World) : Calls Try.prog 24 #[.int .i64 a] w fun e w' => e = .returned (.tuple #[.int .i64 (sat32 (sat32 a + sat32 32768) / 65536), .bool (over32 (sat32 a + sat32 32768))]) ∧ w = w' := by
  have h1 := sat32_bd (sat32 a + sat32 32768)
  go_enter Try.func24, Try.ntmps24
  go_wp2_with (go_at_call 12; (with_reducible refine (LAdd_any _ _ _).mono ?_); rintro e w1 ⟨rfl, rfl⟩)
  go_ret2
  exact ⟨rfl, rfl⟩
end Go.Proofs.Ytkfaghcjahhlgaa
