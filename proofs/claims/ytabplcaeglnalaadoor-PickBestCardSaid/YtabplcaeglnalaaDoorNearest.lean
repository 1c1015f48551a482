/-
  hears; the walk of NearestGain. No statement is proved here.
-/
import Derived.Test.YtabplcaeglnalaaDoorPitch
namespace Go.Proofs.YtabplcaeglnalaaDoor
open Go.RowKit
theorem gain_6 : gainI 6 = 16384 := by decide
theorem near_11 : bestN gainF 1 32768 7 = 6 := by decide
theorem Gain_6 (w : World) (hT : Gains w) : Calls Tryd.prog 19 #[.int .i64 6] w fun e w' => e = .returned (.tuple #[.int .i64 16384, .int .i64 0]) ∧ w = w' := by
  have h := PGain_any 6 w hT (by omega) (by omega)
  rw [gain_6] at h; exact h
theorem Nearest_11 (w : World) (hT : Gains w) : Calls Tryd.prog 20 #[.int .i64 1, .int .i64 1] w fun e w' => e = .returned (.int .i64 6) ∧ Below w.heap.size w w' := by
  have h := Nearest_any 1 1 w hT (by omega) (by omega) (by omega) (by omega)
  rw [show (32768 : Int) * 1 = 32768 from rfl, near_11] at h; exact h
theorem hears_any (w : World) (hT : Gains w) : Calls Tryd.prog 7 #[] w fun e w' => e = .returned (.bool true) ∧ Below w.heap.size w w' := by
  have H := Has.start w
  go_enter Tryd.func7, Tryd.ntmps7
  go_wp2_with (first | (go_at_call 19; (with_reducible refine (Gain_6 _ hT).mono ?_); rintro e w1 ⟨rfl, rfl⟩) | (go_at_call 20; (with_reducible refine (Nearest_11 _ hT).mono ?_); rintro e w1 ⟨rfl, hb⟩; replace H := H.callee hb; clear hb))
  go_ret
  exact ⟨rfl, H.below⟩
end Go.Proofs.YtabplcaeglnalaaDoor
