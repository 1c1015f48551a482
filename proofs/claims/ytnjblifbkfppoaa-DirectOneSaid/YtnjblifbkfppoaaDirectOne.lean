import Derived.Test.YtnjblifbkfppoaaSpot
import Derived.Test.YtnjblifbkfppoaaDirect
namespace Go.Proofs.Ytnjblifbkfppoaa
open Go.RowKit

def unit (v : Int) : Int := v % 65535 - 32767
theorem unit_bd (v : Int) : -32768 < unit v ∧ unit v < 32768 := by unfold unit; omega
def unitTo (a : Nat → Int) (k : Nat) : Nat → Int := fun i => if i < k then unit (a i) else a i
theorem unitTo_step (a : Nat → Int) (k : Nat) : (fun j => if j = k then a k % 65535 - 32767 else unitTo a k j) = unitTo a (k + 1) := by
  funext j
  unfold unitTo unit
  by_cases e : j = k
  · subst e; simp
  · have : j < k + 1 ↔ j < k := by omega
    simp [e, this]
theorem unitTo_all (a : Nat → Int) : row 8 (unitTo a 8) = row 8 fun i => unit (a i) := row_congr fun i hi => by simp [unitTo, hi]
theorem unitTo_zero (a : Nat → Int) : unitTo a 0 = a := by funext i; simp [unitTo]
theorem dirM_head (k : Nat → Int) : ∀ m, dirM k m 0 = 16777216
  | 0 => rfl
  | m + 1 => by rw [dirM_succ, if_neg (by omega)]; exact dirM_head k m
theorem dirOut_head (k : Nat → Int) : dirOut k 0 = 4096 := by unfold dirOut; rw [dirM_head]; rfl
theorem dirOut_bd (k : Nat → Int) (hk : ∀ i, i < 8 → -32768 < k i ∧ k i < 32768) (i : Nat) (hi : i < 9) : -524288 ≤ dirOut k i ∧ dirOut k i ≤ 524288 := by
  have := dirM_70 k hk (m := 8) (by omega) hi
  unfold dirOut; omega
theorem dirOut_zero : rowEq 9 (dirOut fun _ => 0) (fun i => if i = 0 then 4096 else 0) = true := by decide +kernel

theorem zero_any (w : World) : Calls Try.prog 11 #[.agg #[.int .i64 0, .int .i64 0, .int .i64 0, .int .i64 0, .int .i64 0, .int .i64 0, .int .i64 0, .int .i64 0]] w fun e w' => e = .returned (.tuple #[.agg (row 9 (dirOut fun _ => 0)), .int .i64 0]) ∧ Below w.heap.size w w' :=
  direct_any (fun _ => 0) w (fun i _ => by omega)

set_option maxRecDepth 100000 in
set_option maxHeartbeats 800000 in
theorem directOne_walk (a : Nat → Int) (w : World) :
    Calls Try.prog 5 #[.agg (row 8 a)] w fun e w' => e = .returned (.bool true) ∧ Below w.heap.size w w' := by
  have H := Has.start w
  go_enter Try.func5, Try.ntmps5
  go_wp2_with (first | ((refine wpList_on (o := ⟨_, .box _ (.tmp 0), _, _, _, _⟩) rfl (fun K hK => ?_)); refine wp_box H _ (.tmp 0) rfl (v := .agg _) rfl ?_; clear H; intro u ga H; refine hK _ _ ?_; clear hK K; try simp only [Value.cells, List.cons_append, List.nil_append] at H))
  go_loopw [10] (fun i wr => ∃ k : Nat, k ≤ 8 ∧ i = .int .i64 k ∧ Has w wr [(ga, 22, row 8 (unitTo a k))]) (fun i _ => 8 - (intOf i).toNat)
  case atStart => exact ⟨0, by omega, rfl, by rw [unitTo_zero]; exact H⟩
  clear H
  case round =>
    obtain ⟨k, hk, rfl, H⟩ := hrel
    by_cases hlt : k < 8
    · have ea : unitTo a k k = a k := by simp [unitTo]
      have h1 := Int.emod_nonneg (a k) (show (65535 : Int) ≠ 0 by omega)
      have h2 := Int.emod_lt_of_pos (a k) (show (0 : Int) < 65535 by omega)
      go_wp2_with (first | ((refine wpList_on (o := ⟨_, .load 3 _, _, _, _, _⟩) rfl (fun K hK => ?_)); refine wp_load_one H 3 _ rfl rfl (by repeat (first | exact List.mem_cons_self | apply List.mem_cons_of_mem)) (by kernel_rfl) (row_get _ (by omega)) ?_; refine hK _ _ ?_; clear hK K) | ((refine wpList_on (o := ⟨_, .store 3 _ _, _, _, _, _⟩) rfl (fun K hK => ?_)); refine wp_store_row_ (l1 := []) H 3 _ _ rfl rfl rfl (by kernel_rfl) (by omega) ?_; clear H; intro u H; refine hK _ _ ?_; clear hK K; try simp only [Value.cells, List.cons_append, List.nil_append] at H) | (go_at_call 7; refine (spot_any _ _ _ (by omega) (by omega)).mono ?_; rintro e w1 ⟨rfl, rfl⟩))
      go_roundw
      case rel =>
        refine ⟨k + 1, by omega, by go_num, ?_⟩
        rw [unitTo_step] at H
        exact H
      case measure => simp [intOf]; omega
    · obtain rfl : k = 8 := by omega
      rw [unitTo_all] at H
      have HU : Hid (∀ i, i < 8 → -32768 < unit (a i) ∧ unit (a i) < 32768) := fun i _ => unit_bd (a i)
      have HZ := Lib.hid (zero_any)
      go_wp2_with (first | ((refine wpList_on (o := ⟨_, .load 22 _, _, _, _, _⟩) rfl (fun K hK => ?_)); refine wp_load_all H 22 _ rfl rfl (by repeat (first | exact List.mem_cons_self | apply List.mem_cons_of_mem)) (by kernel_rfl) ?_; refine hK _ _ ?_; clear hK K) | ((refine wpList_on (o := ⟨_, .load 28 _, _, _, _, _⟩) rfl (fun K hK => ?_)); refine wp_load_all H 28 _ rfl rfl (by repeat (first | exact List.mem_cons_self | apply List.mem_cons_of_mem)) (by kernel_rfl) ?_; refine hK _ _ ?_; clear hK K) | ((refine wpList_on (o := ⟨_, .store 28 _ _, _, _, _, _⟩) rfl (fun K hK => ?_)); refine wp_store_all (l1 := []) H 28 _ _ rfl rfl rfl (by kernel_rfl) (by simp [row_size]) (row_one _ _) ?_; clear H; intro u H; refine hK _ _ ?_; clear hK K; try simp only [Value.cells, List.cons_append, List.nil_append] at H) | (refine wpList_on (o := ⟨some 4, .alloc 28, _, _, _, _⟩) rfl (fun K hK => ?_); refine wp_alloc H 28 rfl (z := (.agg (row 9 fun _ => 0))) (by kernel_rfl) ?_; clear H; intro u gx H; refine hK _ _ ?_; clear hK K; try simp only [Value.cells, List.cons_append, List.nil_append] at H) | (refine wpList_on (o := ⟨some 6, .alloc 28, _, _, _, _⟩) rfl (fun K hK => ?_); refine wp_alloc H 28 rfl (z := (.agg (row 9 fun _ => 0))) (by kernel_rfl) ?_; clear H; intro u gy H; refine hK _ _ ?_; clear hK K; try simp only [Value.cells, List.cons_append, List.nil_append] at H) | (go_at_call 11; (with_reducible refine (direct_any (fun i => unit (a i)) _ HU.out).mono ?_); rintro e u ⟨rfl, hb⟩; replace H := H.callee hb; clear hb) | (go_at_call 11; (with_reducible refine (HZ.out _).mono ?_); rintro e u ⟨rfl, hb⟩; replace H := H.callee hb; clear hb))
      try simp only [show ((8 : Nat) : Int) = 8 from rfl]
      go_loop [32] (fun c => ∃ i : Nat, i ≤ 9 ∧ c = .int .i64 i) (fun c => 9 - (intOf c).toNat)
      case atStart => exact ⟨0, by omega, rfl⟩
      case round =>
        obtain ⟨i, hi, rfl⟩ := hrel
        by_cases hli : i < 9
        · have hix := fun w => run_index_row (P := Try.prog) (n := 9) (i := i) Try.underlying28 Try.underlying3 (by kernel_rfl) (by kernel_rfl) (dirOut fun i => unit (a i)) hli w
          obtain ⟨x1, x2⟩ := dirOut_bd _ HU.out i hli
          have d1 := lt_no x1
          have d2 := lt_no x2
          go_wp2
          go_round
          case rel => exact ⟨i + 1, by omega, by go_num⟩
          case measure => simp [intOf]; omega
        · obtain rfl : i = 9 := by omega
          have heq := fun w f g => run_eql_row (P := Try.prog) (n := 9) Try.underlying28 Try.underlying3 (info_some (by kernel_rfl)) (by kernel_rfl) w f g
          have heq2 : ∀ (w : World) (f : Nat → Int), (binOp .eql 28 (.agg (row 9 f)) (.agg #[.int .i64 4096, .int .i64 0, .int .i64 0, .int .i64 0, .int .i64 0, .int .i64 0, .int .i64 0, .int .i64 0, .int .i64 0])).run Try.prog w = .ok (.bool (rowEq 9 f (fun i => if i = 0 then 4096 else 0))) w := fun w f => heq w f (fun i => if i = 0 then 4096 else 0)
          have e1 := dirOut_zero
          have e2 := dirOut_head (fun i => unit (a i))
          go_wp2_with (first | ((refine wpList_on (o := ⟨_, .load 28 _, _, _, _, _⟩) rfl (fun K hK => ?_)); refine wp_load_all H 28 _ rfl rfl (by repeat (first | exact List.mem_cons_self | apply List.mem_cons_of_mem)) (by kernel_rfl) ?_; refine hK _ _ ?_; clear hK K) | ((refine wpList_on (o := ⟨_, .load 3 _, _, _, _, _⟩) rfl (fun K hK => ?_)); refine wp_load_one H 3 _ rfl rfl (by repeat (first | exact List.mem_cons_self | apply List.mem_cons_of_mem)) (by kernel_rfl) (row_get _ (by omega)) ?_; refine hK _ _ ?_; clear hK K))
          go_ret
          exact ⟨rfl, H.below⟩
end Go.Proofs.Ytnjblifbkfppoaa
