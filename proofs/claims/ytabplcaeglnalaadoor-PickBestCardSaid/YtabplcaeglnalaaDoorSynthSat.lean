/-
  synth.sat walked. No statement is proved here.
-/
import Derived.Test.YtabplcaeglnalaaDoorSynthLaw
import Derived.WalkKit
import Derived.Test.YtabplcaeglnalaaDoorParts
namespace Go.Proofs.YtabplcaeglnalaaDoor
open Go.RowKit
theorem synthSat_any (x : Int) (w : World) : Calls Tryd.prog 22 #[.int .i64 x] w fun e w' => e = .returned (.int .i64 (sat16 x)) ∧ w = w' := by
  go_enter Tryd.func22, Tryd.ntmps22
  go_wp2_with (go_at_call 26; (with_reducible refine (Sat16_any _ _).mono ?_); rintro e w1 ⟨rfl, rfl⟩)
  go_ret
  exact ⟨rfl, rfl⟩
theorem synthSat_in (x : Int) (w : World) (h : In16 x) : Calls Tryd.prog 22 #[.int .i64 x] w fun e w' => e = .returned (.int .i64 x) ∧ w = w' := by
  have := synthSat_any x w
  rw [sat16_in h] at this; exact this
theorem In16.bd {x : Int} (h : In16 x) : -32768 ≤ x ∧ x ≤ 32767 := h
end Go.Proofs.YtabplcaeglnalaaDoor
