/-
  synth.sat walked. No statement is proved here.
-/
import Derived.Test.YtcoicmbjoaonoaaSynthLaw
import Derived.WalkKit
import Derived.Test.YtcoicmbjoaonoaaParts
namespace Go.Proofs.Ytcoicmbjoaonoaa
open Go.RowKit
theorem synthSat_any (x : Int) (w : World) : Calls Try.prog 29 #[.int .i64 x] w fun e w' => e = .returned (.int .i64 (sat16 x)) ∧ w = w' := by
  go_enter Try.func29, Try.ntmps29
  go_wp2_with (go_at_call 47; (with_reducible refine (Sat16_any _ _).mono ?_); rintro e w1 ⟨rfl, rfl⟩)
  go_ret
  exact ⟨rfl, rfl⟩
theorem synthSat_in (x : Int) (w : World) (h : In16 x) : Calls Try.prog 29 #[.int .i64 x] w fun e w' => e = .returned (.int .i64 x) ∧ w = w' := by
  have := synthSat_any x w
  rw [sat16_in h] at this; exact this
theorem In16.bd {x : Int} (h : In16 x) : -32768 ≤ x ∧ x ≤ 32767 := h
end Go.Proofs.Ytcoicmbjoaonoaa
