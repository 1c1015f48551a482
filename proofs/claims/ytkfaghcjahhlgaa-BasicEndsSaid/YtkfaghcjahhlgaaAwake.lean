/-
  basic is awake: awake answers true. No statement is proved here.
-/
import Derived.Test.YtkfaghcjahhlgaaOps
import Derived.Test.YtkfaghcjahhlgaaHas
import Derived.Test.YtkfaghcjahhlgaaSpot
namespace Go.Proofs.Ytkfaghcjahhlgaa
open Go.RowKit

theorem still_below {w w' : World} (h : w = w') : Below w.heap.size w w' := by subst h; exact (Has.start w).below

theorem Add_one (w : World) : Calls Try.prog 11 #[.int .i64 32767, .int .i64 1] w fun e w' => e = .returned (.tuple #[.int .i64 32767, .bool true]) ∧ w = w' :=
  (Add_any 32767 1 w).mono (by rintro e w1 ⟨rfl, rfl⟩; exact ⟨rfl, rfl⟩)
theorem Mult_one (w : World) : Calls Try.prog 13 #[.int .i64 16384, .int .i64 2] w fun e w' => e = .returned (.tuple #[.int .i64 1, .bool false]) ∧ w = w' :=
  (Mult_any 16384 2 w).mono (by rintro e w1 ⟨rfl, rfl⟩; exact ⟨rfl, rfl⟩)
theorem LMac_one (w : World) : Calls Try.prog 27 #[.int .i64 5, .int .i64 3, .int .i64 4] w fun e w' => e = .returned (.tuple #[.int .i64 29, .bool false]) ∧ w = w' :=
  (LMac_any 5 3 4 w).mono (by rintro e w1 ⟨rfl, rfl⟩; exact ⟨rfl, rfl⟩)
theorem awake_any (w : World) : Calls Try.prog 15 #[] w fun e w' => e = .returned (.bool true) ∧ w = w' := by
  go_enter Try.func15, Try.ntmps15
  go_wp2_with (first | (go_at_call 11; (with_reducible refine (Add_one _).mono ?_); rintro e w1 ⟨rfl, rfl⟩) | (go_at_call 13; (with_reducible refine (Mult_one _).mono ?_); rintro e w1 ⟨rfl, rfl⟩) | (go_at_call 27; (with_reducible refine (LMac_one _).mono ?_); rintro e w1 ⟨rfl, rfl⟩))
  go_ret
  exact ⟨rfl, rfl⟩
theorem s16_any (v : Int) (w : World) : Calls Try.prog 16 #[.int .i64 v] w fun e w' => e = .returned (.int .i64 (v % 65536 - 32768)) ∧ w = w' := by
  have h1 := Int.emod_nonneg v (show (65536 : Int) ≠ 0 by omega)
  have h2 := Int.emod_lt_of_pos v (show (0 : Int) < 65536 by omega)
  go_enter Try.func16, Try.ntmps16
  go_wp2_with (go_at_call 19; refine (spot_any _ _ _ (by omega) (by omega)).mono ?_; rintro e w1 ⟨rfl, rfl⟩)
  go_ret
  exact ⟨rfl, rfl⟩
theorem s32_any (v : Int) (w : World) : Calls Try.prog 18 #[.int .i64 v] w fun e w' => e = .returned (.int .i64 (v % 4294967296 - 2147483648)) ∧ w = w' := by
  have h1 := Int.emod_nonneg v (show (4294967296 : Int) ≠ 0 by omega)
  have h2 := Int.emod_lt_of_pos v (show (0 : Int) < 4294967296 by omega)
  go_enter Try.func18, Try.ntmps18
  go_wp2_with (go_at_call 19; refine (spot_any _ _ _ (by omega) (by omega)).mono ?_; rintro e w1 ⟨rfl, rfl⟩)
  go_ret
  exact ⟨rfl, rfl⟩
end Go.Proofs.Ytkfaghcjahhlgaa
