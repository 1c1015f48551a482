/-
  The walk of BasicSwaps. No statement is proved here.
-/
import Derived.Test.YtkfaghcjahhlgaaAwake
import Derived.Test.YtkfaghcjahhlgaaMade
namespace Go.Proofs.Ytkfaghcjahhlgaa
open Go.RowKit
theorem Add_swap (a b : Int) : sat16 (sat16 b + sat16 a) = sat16 (sat16 a + sat16 b) := by rw [Int.add_comm]
set_option maxRecDepth 100000 in
set_option maxHeartbeats 1600000 in
theorem basicSwaps_walk (a b : Int) (w : World) :
    Calls Try.prog 3 #[.int .i64 a, .int .i64 b] w fun e w' => e = .returned (.bool true) ∧ Below w.heap.size w w' := by
  have H := Has.start w
  go_enter Try.func3, Try.ntmps3
  go_wp2_with (first | ((refine wpList_on (o := ⟨some 11, .buildSlice _ _ _, _, _, _, _⟩) rfl (fun K hK => ?_)); refine wp_made H (elem := 22) (n := 4) (cs := #[.func (.func 11) #[] #[], .func (.func 12) #[] #[], .func (.func 13) #[] #[], .func (.func 14) #[] #[]]) (by kernel_rfl) ?_; clear H; intro u ga H; refine hK _ _ ?_; clear hK K))
  go_outline
  go_loop [13] (fun i => ∃ k : Nat, k ≤ 4 ∧ i = .int .i64 k) (fun i => 4 - (intOf i).toNat)
  case atStart => exact ⟨0, by omega, rfl⟩
  case round =>
    obtain ⟨k, hk, rfl⟩ := hrel
    rcases (show k = 0 ∨ k = 1 ∨ k = 2 ∨ k = 3 ∨ k = 4 by omega) with rfl | rfl | rfl | rfl | rfl
    · have e1 : sat16 (sat16 b + sat16 a) = sat16 (sat16 a + sat16 b) := by rw [Int.add_comm]
      have e2 : over16 (sat16 b + sat16 a) = over16 (sat16 a + sat16 b) := by rw [Int.add_comm]
      go_wp2_with (first | ((refine wpList_on (o := ⟨_, .load 22 _, _, _, _, _⟩) rfl (fun K hK => ?_)); refine wp_load_one H 22 _ rfl rfl (by repeat (first | exact List.mem_cons_self | apply List.mem_cons_of_mem)) (by kernel_rfl) rfl ?_; refine hK _ _ ?_; clear hK K) | (go_at_call 11; (with_reducible refine (Add_any _ _ _).mono ?_); rintro e w1 ⟨rfl, rfl⟩))
      go_round
      case rel => exact ⟨1, by omega, rfl⟩
      case measure => simp [intOf]
    · have e1 : sat32 (sat32 b + sat32 a) = sat32 (sat32 a + sat32 b) := by rw [Int.add_comm]
      have e2 : over32 (sat32 b + sat32 a) = over32 (sat32 a + sat32 b) := by rw [Int.add_comm]
      go_wp2_with (first | ((refine wpList_on (o := ⟨_, .load 22 _, _, _, _, _⟩) rfl (fun K hK => ?_)); refine wp_load_one H 22 _ rfl rfl (by repeat (first | exact List.mem_cons_self | apply List.mem_cons_of_mem)) (by kernel_rfl) rfl ?_; refine hK _ _ ?_; clear hK K) | (go_at_call 12; (with_reducible refine (LAdd_any _ _ _).mono ?_); rintro e w1 ⟨rfl, rfl⟩))
      go_round
      case rel => exact ⟨2, by omega, rfl⟩
      case measure => simp [intOf]
    · have e1 : sat16 (sat16 b * sat16 a / 32768) = sat16 (sat16 a * sat16 b / 32768) := by rw [Int.mul_comm]
      have e2 : over16 (sat16 b * sat16 a / 32768) = over16 (sat16 a * sat16 b / 32768) := by rw [Int.mul_comm]
      go_wp2_with (first | ((refine wpList_on (o := ⟨_, .load 22 _, _, _, _, _⟩) rfl (fun K hK => ?_)); refine wp_load_one H 22 _ rfl rfl (by repeat (first | exact List.mem_cons_self | apply List.mem_cons_of_mem)) (by kernel_rfl) rfl ?_; refine hK _ _ ?_; clear hK K) | (go_at_call 13; (with_reducible refine (Mult_any _ _ _).mono ?_); rintro e w1 ⟨rfl, rfl⟩))
      go_round
      case rel => exact ⟨3, by omega, rfl⟩
      case measure => simp [intOf]
    · have e1 : sat32 (2 * sat16 b * sat16 a) = sat32 (2 * sat16 a * sat16 b) := by rw [Int.mul_assoc, Int.mul_comm (sat16 b), Int.mul_assoc]
      have e2 : over32 (2 * sat16 b * sat16 a) = over32 (2 * sat16 a * sat16 b) := by rw [Int.mul_assoc, Int.mul_comm (sat16 b), Int.mul_assoc]
      go_wp2_with (first | ((refine wpList_on (o := ⟨_, .load 22 _, _, _, _, _⟩) rfl (fun K hK => ?_)); refine wp_load_one H 22 _ rfl rfl (by repeat (first | exact List.mem_cons_self | apply List.mem_cons_of_mem)) (by kernel_rfl) rfl ?_; refine hK _ _ ?_; clear hK K) | (go_at_call 14; (with_reducible refine (LMult_any _ _ _).mono ?_); rintro e w1 ⟨rfl, rfl⟩))
      go_round
      case rel => exact ⟨4, by omega, rfl⟩
      case measure => simp [intOf]
    · go_wp2_with (first | (go_at_call 15; (with_reducible refine (awake_any _).mono ?_); rintro e w1 ⟨rfl, rfl⟩))
      go_ret
      exact ⟨rfl, H.below⟩
end Go.Proofs.Ytkfaghcjahhlgaa
