/-
  basic: numbers that stop at their ends. Contracts of stop, Sat16, Sat32, in16, in32. No statement is proved here.
-/
import Derived.Test.YtcoicmbjoaonoaaGen
namespace Go.Proofs.Ytcoicmbjoaonoaa
open Go.RowKit

/-- A number between two ends; was it stopped? -/
def clamp (lo hi x : Int) : Int := if x < lo then lo else if hi < x then hi else x
def over (lo hi x : Int) : Bool := decide (x < lo) || decide (hi < x)
theorem clamp_lo {lo hi x : Int} (h : x < lo) : clamp lo hi x = lo := by simp [clamp, h]
theorem clamp_hi {lo hi x : Int} (h0 : ¬ x < lo) (h : hi < x) : clamp lo hi x = hi := by simp [clamp, h0, h]
theorem clamp_in {lo hi x : Int} (h0 : ¬ x < lo) (h : ¬ hi < x) : clamp lo hi x = x := by simp [clamp, h0, h]
theorem over_lo {lo hi x : Int} (h : x < lo) : over lo hi x = true := by simp [over, h]
theorem over_hi {lo hi x : Int} (h : hi < x) : over lo hi x = true := by simp [over, h]
theorem over_in {lo hi x : Int} (h0 : ¬ x < lo) (h : ¬ hi < x) : over lo hi x = false := by simp [over, h0, h]
def sat16 (x : Int) : Int := clamp (-32768) 32767 x
def over16 (x : Int) : Bool := over (-32768) 32767 x
def sat32 (x : Int) : Int := clamp (-2147483648) 2147483647 x
def over32 (x : Int) : Bool := over (-2147483648) 2147483647 x
theorem sat16_bd (x : Int) : -32768 ≤ sat16 x ∧ sat16 x ≤ 32767 := by unfold sat16 clamp; split <;> (try split) <;> omega
theorem sat32_bd (x : Int) : -2147483648 ≤ sat32 x ∧ sat32 x ≤ 2147483647 := by unfold sat32 clamp; split <;> (try split) <;> omega
theorem sat16_in {x : Int} (h : -32768 ≤ x ∧ x ≤ 32767) : sat16 x = x := clamp_in (by omega) (by omega)
theorem sat32_in {x : Int} (h : -2147483648 ≤ x ∧ x ≤ 2147483647) : sat32 x = x := clamp_in (by omega) (by omega)
theorem over16_in {x : Int} (h : -32768 ≤ x ∧ x ≤ 32767) : over16 x = false := over_in (by omega) (by omega)
theorem over32_in {x : Int} (h : -2147483648 ≤ x ∧ x ≤ 2147483647) : over32 x = false := over_in (by omega) (by omega)

theorem stop_any (x lo hi : Int) (w : World) : Calls Try.prog 53 #[.int .i64 x, .int .i64 lo, .int .i64 hi] w fun e w' => e = .returned (.tuple #[.int .i64 (clamp lo hi x), .bool (over lo hi x)]) ∧ w = w' := by
  by_cases h0 : x < lo
  · rw [clamp_lo h0, over_lo h0]
    have d := lt_yes h0
    go_enter Try.func53, Try.ntmps53
    go_wp2
    go_ret2
    exact ⟨rfl, rfl⟩
  · by_cases h1 : hi < x
    · rw [clamp_hi h0 h1, over_hi h1]
      have d := lt_no (show lo ≤ x by omega)
      have d2 := lt_yes h1
      go_enter Try.func53, Try.ntmps53
      go_wp2
      go_ret2
      exact ⟨rfl, rfl⟩
    · rw [clamp_in h0 h1, over_in h0 h1]
      have d := lt_no (show lo ≤ x by omega)
      have d2 := lt_no (show x ≤ hi by omega)
      go_enter Try.func53, Try.ntmps53
      go_wp2
      go_ret2
      exact ⟨rfl, rfl⟩
theorem Sat16_any (x : Int) (w : World) : Calls Try.prog 47 #[.int .i64 x] w fun e w' => e = .returned (.tuple #[.int .i64 (sat16 x), .bool (over16 x)]) ∧ w = w' := by
  go_enter Try.func47, Try.ntmps47
  go_wp2_with (go_at_call 53; (with_reducible refine (stop_any _ _ _ _).mono ?_); rintro e w1 ⟨rfl, rfl⟩)
  go_ret2
  exact ⟨rfl, rfl⟩
end Go.Proofs.Ytcoicmbjoaonoaa
