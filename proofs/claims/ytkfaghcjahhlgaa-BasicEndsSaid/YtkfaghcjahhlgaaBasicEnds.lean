/-
  The walk of BasicEnds. No statement is proved here.
-/
import Derived.Test.YtkfaghcjahhlgaaAwake
import Derived.Test.YtkfaghcjahhlgaaShift
import Derived.Test.YtkfaghcjahhlgaaMade
namespace Go.Proofs.Ytkfaghcjahhlgaa
open Go.RowKit
theorem sat16_no (x : Int) : decide (sat16 x < -32768) = false ∧ decide (32767 < sat16 x) = false := by
  have := sat16_bd x
  exact ⟨lt_no this.1, lt_no this.2⟩
theorem sat32_no (x : Int) : decide (sat32 x < -2147483648) = false ∧ decide (2147483647 < sat32 x) = false := by
  have := sat32_bd x
  exact ⟨lt_no this.1, lt_no this.2⟩
theorem sat32_yes (x : Int) : decide (-2147483648 ≤ sat32 x) = true ∧ decide (sat32 x ≤ 2147483647) = true := by
  have := sat32_bd x
  exact ⟨le_yes this.1, le_yes this.2⟩
theorem half_yes (x : Int) : decide (-32768 ≤ sat32 x / 65536) = true ∧ decide (sat32 x / 65536 ≤ 32767) = true := by
  have := sat32_bd x
  exact ⟨le_yes (by omega), le_yes (by omega)⟩
set_option maxRecDepth 100000 in
set_option maxHeartbeats 3200000 in
theorem basicEnds_walk (a b : Int) (hb : -9223372036854775808 ≤ b ∧ b ≤ 9223372036854775807) (c : Int) (w : World) :
    Calls Try.prog 9 #[.int .i64 a, .int .i64 b, .int .i64 c] w fun e w' => e = .returned (.bool true) ∧ Below w.heap.size w w' := by
  have H := Has.start w
  go_enter Try.func9, Try.ntmps9
  go_wp2_with (first | ((refine wpList_on (o := ⟨some 21, .buildSlice _ _ _, _, _, _, _⟩) rfl (fun K hK => ?_)); refine wp_made H (elem := 22) (n := 5) (cs := #[.func (.func 11) #[] #[], .func (.func 17) #[] #[], .func (.func 13) #[] #[], .func (.func 25) #[] #[], .func (.func 26) #[] #[]]) (by kernel_rfl) ?_; clear H; intro u ga H; refine hK _ _ ?_; clear hK K))
  go_loop [23] (fun i => ∃ k : Nat, k ≤ 5 ∧ i = .int .i64 k) (fun i => 5 - (intOf i).toNat)
  case atStart => exact ⟨0, by omega, rfl⟩
  case round =>
    obtain ⟨k, hk, rfl⟩ := hrel
    rcases (show k = 0 ∨ k = 1 ∨ k = 2 ∨ k = 3 ∨ k = 4 ∨ k = 5 by omega) with rfl | rfl | rfl | rfl | rfl | rfl
    · obtain ⟨d1, d2⟩ := sat16_no (sat16 a + sat16 b)
      go_wp2_with (first | ((refine wpList_on (o := ⟨_, .load 22 _, _, _, _, _⟩) rfl (fun K hK => ?_)); refine wp_load_one H 22 _ rfl rfl (by repeat (first | exact List.mem_cons_self | apply List.mem_cons_of_mem)) (by kernel_rfl) rfl ?_; refine hK _ _ ?_; clear hK K) | (go_at_call 11; (with_reducible refine (Add_any _ _ _).mono ?_); rintro e w1 ⟨rfl, rfl⟩))
      go_round
      case rel => exact ⟨1, by omega, rfl⟩
      case measure => simp [intOf]
    · obtain ⟨d1, d2⟩ := sat16_no (sat16 a - sat16 b)
      go_wp2_with (first | ((refine wpList_on (o := ⟨_, .load 22 _, _, _, _, _⟩) rfl (fun K hK => ?_)); refine wp_load_one H 22 _ rfl rfl (by repeat (first | exact List.mem_cons_self | apply List.mem_cons_of_mem)) (by kernel_rfl) rfl ?_; refine hK _ _ ?_; clear hK K) | (go_at_call 17; (with_reducible refine (Sub_any _ _ _).mono ?_); rintro e w1 ⟨rfl, rfl⟩))
      go_round
      case rel => exact ⟨2, by omega, rfl⟩
      case measure => simp [intOf]
    · obtain ⟨d1, d2⟩ := sat16_no (sat16 a * sat16 b / 32768)
      go_wp2_with (first | ((refine wpList_on (o := ⟨_, .load 22 _, _, _, _, _⟩) rfl (fun K hK => ?_)); refine wp_load_one H 22 _ rfl rfl (by repeat (first | exact List.mem_cons_self | apply List.mem_cons_of_mem)) (by kernel_rfl) rfl ?_; refine hK _ _ ?_; clear hK K) | (go_at_call 13; (with_reducible refine (Mult_any _ _ _).mono ?_); rintro e w1 ⟨rfl, rfl⟩))
      go_round
      case rel => exact ⟨3, by omega, rfl⟩
      case measure => simp [intOf]
    · obtain ⟨d1, d2⟩ := sat16_no (moved (sat16 a) (lim b))
      go_wp2_with (first | ((refine wpList_on (o := ⟨_, .load 22 _, _, _, _, _⟩) rfl (fun K hK => ?_)); refine wp_load_one H 22 _ rfl rfl (by repeat (first | exact List.mem_cons_self | apply List.mem_cons_of_mem)) (by kernel_rfl) rfl ?_; refine hK _ _ ?_; clear hK K) | (go_at_call 25; (with_reducible refine (Shl_any _ _ _).mono ?_); rintro e w1 ⟨rfl, rfl⟩))
      go_round
      case rel => exact ⟨4, by omega, rfl⟩
      case measure => simp [intOf]
    · obtain ⟨d1, d2⟩ := sat16_no (moved (sat16 a) (lim (-lim b)))
      go_wp2_with (first | ((refine wpList_on (o := ⟨_, .load 22 _, _, _, _, _⟩) rfl (fun K hK => ?_)); refine wp_load_one H 22 _ rfl rfl (by repeat (first | exact List.mem_cons_self | apply List.mem_cons_of_mem)) (by kernel_rfl) rfl ?_; refine hK _ _ ?_; clear hK K) | (go_at_call 26; (with_reducible refine (Shr_any _ _ _ hb.2).mono ?_); rintro e w1 ⟨rfl, rfl⟩))
      go_round
      case rel => exact ⟨5, by omega, rfl⟩
      case measure => simp [intOf]
    · go_wp2_with (first | ((refine wpList_on (o := ⟨some 41, .buildSlice _ _ _, _, _, _, _⟩) rfl (fun K hK => ?_)); refine wp_made H (elem := 22) (n := 5) (cs := #[.func (.func 12) #[] #[], .func (.func 23) #[] #[], .func (.func 14) #[] #[], .func (.func 20) #[] #[], .func (.func 21) #[] #[]]) (by kernel_rfl) ?_; clear H; intro u gb H; refine hK _ _ ?_; clear hK K))
      go_loop [43] (fun i => ∃ k : Nat, k ≤ 5 ∧ i = .int .i64 k) (fun i => 5 - (intOf i).toNat)
      case atStart => exact ⟨0, by omega, rfl⟩
      case round =>
        obtain ⟨k, hk, rfl⟩ := hrel
        rcases (show k = 0 ∨ k = 1 ∨ k = 2 ∨ k = 3 ∨ k = 4 ∨ k = 5 by omega) with rfl | rfl | rfl | rfl | rfl | rfl
        · obtain ⟨d1, d2⟩ := sat32_no (sat32 a + sat32 b)
          go_wp2_with (first | ((refine wpList_on (o := ⟨_, .load 22 _, _, _, _, _⟩) rfl (fun K hK => ?_)); refine wp_load_one H 22 _ rfl rfl (by repeat (first | exact List.mem_cons_self | apply List.mem_cons_of_mem)) (by kernel_rfl) rfl ?_; refine hK _ _ ?_; clear hK K) | (go_at_call 12; (with_reducible refine (LAdd_any _ _ _).mono ?_); rintro e w1 ⟨rfl, rfl⟩))
          go_round
          case rel => exact ⟨1, by omega, rfl⟩
          case measure => simp [intOf]
        · obtain ⟨d1, d2⟩ := sat32_no (sat32 a - sat32 b)
          go_wp2_with (first | ((refine wpList_on (o := ⟨_, .load 22 _, _, _, _, _⟩) rfl (fun K hK => ?_)); refine wp_load_one H 22 _ rfl rfl (by repeat (first | exact List.mem_cons_self | apply List.mem_cons_of_mem)) (by kernel_rfl) rfl ?_; refine hK _ _ ?_; clear hK K) | (go_at_call 23; (with_reducible refine (LSub_any _ _ _).mono ?_); rintro e w1 ⟨rfl, rfl⟩))
          go_round
          case rel => exact ⟨2, by omega, rfl⟩
          case measure => simp [intOf]
        · obtain ⟨d1, d2⟩ := sat32_no (2 * sat16 a * sat16 b)
          go_wp2_with (first | ((refine wpList_on (o := ⟨_, .load 22 _, _, _, _, _⟩) rfl (fun K hK => ?_)); refine wp_load_one H 22 _ rfl rfl (by repeat (first | exact List.mem_cons_self | apply List.mem_cons_of_mem)) (by kernel_rfl) rfl ?_; refine hK _ _ ?_; clear hK K) | (go_at_call 14; (with_reducible refine (LMult_any _ _ _).mono ?_); rintro e w1 ⟨rfl, rfl⟩))
          go_round
          case rel => exact ⟨3, by omega, rfl⟩
          case measure => simp [intOf]
        · obtain ⟨d1, d2⟩ := sat32_no (moved (sat32 a) (lim b))
          go_wp2_with (first | ((refine wpList_on (o := ⟨_, .load 22 _, _, _, _, _⟩) rfl (fun K hK => ?_)); refine wp_load_one H 22 _ rfl rfl (by repeat (first | exact List.mem_cons_self | apply List.mem_cons_of_mem)) (by kernel_rfl) rfl ?_; refine hK _ _ ?_; clear hK K) | (go_at_call 20; (with_reducible refine (LShl_any _ _ _).mono ?_); rintro e w1 ⟨rfl, rfl⟩))
          go_round
          case rel => exact ⟨4, by omega, rfl⟩
          case measure => simp [intOf]
        · obtain ⟨d1, d2⟩ := sat32_no (moved (sat32 a) (lim (-lim b)))
          go_wp2_with (first | ((refine wpList_on (o := ⟨_, .load 22 _, _, _, _, _⟩) rfl (fun K hK => ?_)); refine wp_load_one H 22 _ rfl rfl (by repeat (first | exact List.mem_cons_self | apply List.mem_cons_of_mem)) (by kernel_rfl) rfl ?_; refine hK _ _ ?_; clear hK K) | (go_at_call 21; (with_reducible refine (LShr_any _ _ _ hb.2).mono ?_); rintro e w1 ⟨rfl, rfl⟩))
          go_round
          case rel => exact ⟨5, by omega, rfl⟩
          case measure => simp [intOf]
        · obtain ⟨d1, d2⟩ := sat32_yes (sat32 a + sat32 (sat32 (2 * sat16 b * sat16 c)))
          obtain ⟨d3, d4⟩ := sat32_yes (sat32 a - sat32 (sat32 (2 * sat16 b * sat16 c)))
          obtain ⟨d5, d6⟩ := half_yes (sat32 a + sat32 32768)
          go_wp2_with (first | (go_at_call 27; (with_reducible refine (LMac_any _ _ _ _).mono ?_); rintro e w1 ⟨rfl, rfl⟩) | (go_at_call 28; (with_reducible refine (LMsu_any _ _ _ _).mono ?_); rintro e w1 ⟨rfl, rfl⟩) | (go_at_call 24; (with_reducible refine (Round_any _ _).mono ?_); rintro e w1 ⟨rfl, rfl⟩) | (go_at_call 15; (with_reducible refine (awake_any _).mono ?_); rintro e w1 ⟨rfl, rfl⟩))
          go_ret
          exact ⟨rfl, H.below⟩
end Go.Proofs.Ytkfaghcjahhlgaa
