/-
  rings, index walked. No statement is proved here.
-/
import Derived.Test.YtcoicmbjoaonoaaEnergy
namespace Go.Proofs.Ytcoicmbjoaonoaa
open Go.RowKit
def ringX (i : Nat) : Int := if i = 0 then 9 else 0
theorem ring_X : (#[.int .i64 9, .int .i64 0, .int .i64 0, .int .i64 0] : Array Value) = row 4 ringX := rfl
theorem ring_36 : buildS ringX 1 7 4 36 = 7 := by decide
theorem ring_1 : buildS ringX 1 7 4 1 = -7 := by decide
theorem Build_ex (w : World) : Calls Try.prog 46 #[.agg #[.int .i64 9, .int .i64 0, .int .i64 0, .int .i64 0], .int .i64 1, .int .i64 7] w (BuildPost ringX 1 7 w) := by
  rw [ring_X]
  exact Build_any ringX 1 7 w (fun i hi => by unfold ringX; split <;> omega) (by omega) (by omega) (by omega) (by omega)
set_option maxHeartbeats 1600000 in
theorem rings_any (w : World) : Calls Try.prog 25 #[] w fun e w' => e = .returned (.bool true) ∧ Below w.heap.size w w' := by
  have H := Has.start w
  have E1 := ring_36
  have E2 := ring_1
  go_enter Try.func25, Try.ntmps25
  go_wp2_with (first | (go_at_call 46; (with_reducible refine (Build_ex _).mono ?_); rintro e w1 ⟨g, rfl, hb⟩; replace H := H.join hb; clear hb; try simp only [Value.cells, List.cons_append, List.nil_append] at H) | ((refine wpList_on (o := ⟨_, .load 3 _, _, _, _, _⟩) rfl (fun K hK => ?_)); refine wp_load_one H 3 _ rfl rfl (by repeat (first | exact List.mem_cons_self | apply List.mem_cons_of_mem | apply List.mem_append_right)) (by kernel_rfl) (row_get _ (by omega)) ?_; refine hK _ _ ?_; clear hK K))
  go_ret
  exact ⟨rfl, H.below⟩
end Go.Proofs.Ytcoicmbjoaonoaa
