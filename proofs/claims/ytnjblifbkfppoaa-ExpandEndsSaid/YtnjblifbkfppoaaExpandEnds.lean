import Derived.Test.YtnjblifbkfppoaaSpot
import Derived.Test.YtnjblifbkfppoaaExpand
namespace Go.Proofs.Ytnjblifbkfppoaa
open Go.RowKit

theorem s32_any (v : Int) (w : World) : Calls Try.prog 9 #[.int .i64 v] w fun e w' => e = .returned (.int .i64 (v % 4294967296 - 2147483648)) ∧ w = w' := by
  have h1 := Int.emod_nonneg v (show (4294967296 : Int) ≠ 0 by omega)
  have h2 := Int.emod_lt_of_pos v (show (0 : Int) < 4294967296 by omega)
  go_enter Try.func9, Try.ntmps9
  go_wp2_with (go_at_call 7; refine (spot_any _ _ _ (by omega) (by omega)).mono ?_; rintro e w1 ⟨rfl, rfl⟩)
  go_ret
  exact ⟨rfl, rfl⟩

def q32 (v : Int) : Int := (v % 4294967296 - 2147483648).tdiv 4
theorem q32_bd (v : Int) : -536870912 ≤ q32 v ∧ q32 v ≤ 536870912 := by
  unfold q32
  rw [tdiv_eq_if]
  split <;> omega
def q32To (a : Nat → Int) (k : Nat) : Nat → Int := fun i => if i < k then q32 (a i) else a i
theorem q32To_step (a : Nat → Int) (k : Nat) : (fun j => if j = k then (a k % 4294967296 - 2147483648).tdiv 4 else q32To a k j) = q32To a (k + 1) := by
  funext j
  unfold q32To q32
  by_cases e : j = k
  · subst e; simp
  · have : j < k + 1 ↔ j < k := by omega
    simp [e, this]
theorem q32To_all (a : Nat → Int) : row 9 (q32To a 9) = row 9 fun i => q32 (a i) := row_congr fun i hi => by simp [q32To, hi]
theorem q32To_zero (a : Nat → Int) : q32To a 0 = a := by funext i; simp [q32To]

theorem expF_one : ∀ i, expF 32768 i = 32768
  | 0 => rfl
  | i + 1 => by unfold expF; rw [expF_one i]; rfl
theorem expF_nought : ∀ i, expF 0 (i + 1) = 0 := fun i => by unfold expF; omega
theorem exp_one (x : Int) (i : Nat) : (x * expF 32768 i + 16384) / 32768 = x := by rw [expF_one]; omega
theorem exp_nought (f : Nat → Int) (i : Nat) : (f i * expF 0 i + 16384) / 32768 = if i = 0 then f 0 else 0 := by
  cases i with
  | zero => simp [expF]; omega
  | succ i => rw [expF_nought]; simp

set_option maxRecDepth 100000 in
set_option maxHeartbeats 800000 in
theorem expandEnds_walk (a : Nat → Int) (w : World) :
    Calls Try.prog 4 #[.agg (row 9 a)] w fun e w' => e = .returned (.bool true) ∧ Below w.heap.size w w' := by
  have H := Has.start w
  go_enter Try.func4, Try.ntmps4
  go_wp2_with (first | ((refine wpList_on (o := ⟨_, .box _ (.tmp 0), _, _, _, _⟩) rfl (fun K hK => ?_)); refine wp_box H _ (.tmp 0) rfl (v := .agg _) rfl ?_; clear H; intro u ga H; refine hK _ _ ?_; clear hK K; try simp only [Value.cells, List.cons_append, List.nil_append] at H))
  go_loopw [8] (fun i wr => ∃ k : Nat, k ≤ 9 ∧ i = .int .i64 k ∧ Has w wr [(ga, 28, row 9 (q32To a k))]) (fun i _ => 9 - (intOf i).toNat)
  case atStart => exact ⟨0, by omega, rfl, by rw [q32To_zero]; exact H⟩
  clear H
  case round =>
    obtain ⟨k, hk, rfl, H⟩ := hrel
    by_cases hlt : k < 9
    · have ea : q32To a k k = a k := by simp [q32To]
      have h1 := Int.emod_nonneg (a k) (show (4294967296 : Int) ≠ 0 by omega)
      have h2 := Int.emod_lt_of_pos (a k) (show (0 : Int) < 4294967296 by omega)
      go_wp2_with (first | ((refine wpList_on (o := ⟨_, .load 3 _, _, _, _, _⟩) rfl (fun K hK => ?_)); refine wp_load_one H 3 _ rfl rfl (by repeat (first | exact List.mem_cons_self | apply List.mem_cons_of_mem)) (by kernel_rfl) (row_get _ (by omega)) ?_; refine hK _ _ ?_; clear hK K) | ((refine wpList_on (o := ⟨_, .store 3 _ _, _, _, _, _⟩) rfl (fun K hK => ?_)); refine wp_store_row_ (l1 := []) H 3 _ _ rfl rfl rfl (by kernel_rfl) (by omega) ?_; clear H; intro u H; refine hK _ _ ?_; clear hK K; try simp only [Value.cells, List.cons_append, List.nil_append] at H) | (go_at_call 9; refine (s32_any _ _).mono ?_; rintro e w1 ⟨rfl, rfl⟩))
      go_roundw
      case rel =>
        refine ⟨k + 1, by omega, by go_num, ?_⟩
        rw [q32To_step] at H
        exact H
      case measure => simp [intOf]; omega
    · obtain rfl : k = 9 := by omega
      rw [q32To_all] at H
      have HB : Hid (∀ i, i < 9 → -1073741824 ≤ q32 (a i) ∧ q32 (a i) ≤ 1073741824) := fun i _ => by have := q32_bd (a i); omega
      have heq := fun w f g => run_eql_row (P := Try.prog) (n := 9) Try.underlying28 Try.underlying3 (info_some (by kernel_rfl)) (by kernel_rfl) w f g
      have heq2 : ∀ (w : World) (f : Nat → Int) (x : Int), (binOp .eql 28 (.agg (row 9 f)) (.agg #[.int .i64 x, .int .i64 0, .int .i64 0, .int .i64 0, .int .i64 0, .int .i64 0, .int .i64 0, .int .i64 0, .int .i64 0])).run Try.prog w = .ok (.bool (rowEq 9 f (fun i => if i = 0 then x else 0))) w := fun w f x => heq w f (fun i => if i = 0 then x else 0)
      have e1 : rowEq 9 (fun i => (q32 (a i) * expF 32768 i + 16384) / 32768) (fun i => q32 (a i)) = true := rowEq_of fun i _ => exp_one _ _
      have e2 : rowEq 9 (fun i => (q32 (a i) * expF 0 i + 16384) / 32768) (fun i => if i = 0 then q32 (a 0) else 0) = true := rowEq_of fun i _ => exp_nought (fun i => q32 (a i)) i
      go_wp2_with (first | ((refine wpList_on (o := ⟨_, .load 28 _, _, _, _, _⟩) rfl (fun K hK => ?_)); refine wp_load_all H 28 _ rfl rfl (by repeat (first | exact List.mem_cons_self | apply List.mem_cons_of_mem)) (by kernel_rfl) ?_; refine hK _ _ ?_; clear hK K) | ((refine wpList_on (o := ⟨_, .load 3 _, _, _, _, _⟩) rfl (fun K hK => ?_)); refine wp_load_one H 3 _ rfl rfl (by repeat (first | exact List.mem_cons_self | apply List.mem_cons_of_mem)) (by kernel_rfl) (row_get _ (by omega)) ?_; refine hK _ _ ?_; clear hK K) | ((refine wpList_on (o := ⟨_, .store 28 _ _, _, _, _, _⟩) rfl (fun K hK => ?_)); refine wp_store_all (l1 := []) H 28 _ _ rfl rfl rfl (by kernel_rfl) (by simp [row_size]) (row_one _ _) ?_; clear H; intro u H; refine hK _ _ ?_; clear hK K; try simp only [Value.cells, List.cons_append, List.nil_append] at H) | (refine wpList_on (o := ⟨some 4, .alloc 28, _, _, _, _⟩) rfl (fun K hK => ?_); refine wp_alloc H 28 rfl (z := (.agg (row 9 fun _ => 0))) (by kernel_rfl) ?_; clear H; intro u gx H; refine hK _ _ ?_; clear hK K; try simp only [Value.cells, List.cons_append, List.nil_append] at H) | (refine wpList_on (o := ⟨some 6, .alloc 28, _, _, _, _⟩) rfl (fun K hK => ?_); refine wp_alloc H 28 rfl (z := (.agg (row 9 fun _ => 0))) (by kernel_rfl) ?_; clear H; intro u gy H; refine hK _ _ ?_; clear hK K; try simp only [Value.cells, List.cons_append, List.nil_append] at H) | (go_at_call 10; refine (expand_any _ _ _ (by omega) (by omega) HB.out).mono ?_; rintro e u ⟨rfl, hb⟩; replace H := H.callee hb; clear hb))
      go_ret
      exact ⟨rfl, H.below⟩
end Go.Proofs.Ytnjblifbkfppoaa
