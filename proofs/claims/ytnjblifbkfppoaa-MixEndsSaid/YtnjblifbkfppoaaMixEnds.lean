import Derived.Test.YtnjblifbkfppoaaSpot
import Derived.Test.YtnjblifbkfppoaaMix
import Derived.Test.YtnjblifbkfppoaaHas
namespace Go.Proofs.Ytnjblifbkfppoaa
open Go.RowKit

def refl (v : Int) : Int := v % 65535 - 32767
theorem refl_bd (v : Int) : -32767 ≤ refl v ∧ refl v ≤ 32767 := by unfold refl; omega
def reflTo (a : Nat → Int) (k : Nat) : Nat → Int := fun i => if i < k then refl (a i) else a i
theorem reflTo_step (a : Nat → Int) (k : Nat) : (fun j => if j = k then a k % 65535 - 32767 else reflTo a k j) = reflTo a (k + 1) := by
  funext j
  unfold reflTo refl
  by_cases e : j = k
  · subst e; simp
  · have : j < k + 1 ↔ j < k := by omega
    simp [e, this]
theorem reflTo_at (a : Nat → Int) (k : Nat) : reflTo a k k = a k := by simp [reflTo]
theorem reflTo_zero (a : Nat → Int) : reflTo a 0 = a := by funext i; simp [reflTo]
theorem reflTo_all (a : Nat → Int) : row 8 (reflTo a 8) = row 8 fun i => refl (a i) := row_congr fun i hi => by simp [reflTo, hi]

theorem mixOne_between (a b n : Int) (h0 : 0 ≤ n) (h5 : n < 5) : (a ≤ b → a ≤ mixOne a b n ∧ mixOne a b n ≤ b) ∧ (b ≤ a → b ≤ mixOne a b n ∧ mixOne a b n ≤ a) := by
  have : n = 0 ∨ n = 1 ∨ n = 2 ∨ n = 3 ∨ n = 4 := by omega
  unfold mixOne
  rw [tdiv_eq_if]
  rcases this with rfl | rfl | rfl | rfl | rfl <;> split <;> omega
theorem mixOne_min (a b n : Int) (h0 : 0 ≤ n) (h5 : n < 5) : decide (mixOne a b n < (if b < a then b else a)) = false := by
  have := mixOne_between a b n h0 h5
  rw [decide_eq_false_iff_not]
  split <;> omega
theorem mixOne_max (a b n : Int) (h0 : 0 ≤ n) (h5 : n < 5) : decide ((if a < b then b else a) < mixOne a b n) = false := by
  have := mixOne_between a b n h0 h5
  rw [decide_eq_false_iff_not]
  split <;> omega
theorem mixOne_0 (a b : Int) : mixOne a b 0 = a := by
  unfold mixOne
  rw [tdiv_eq_if]
  split <;> omega
theorem mixOne_4 (a b : Int) : mixOne a b 4 = b := by
  unfold mixOne
  rw [tdiv_eq_if]
  split <;> omega
theorem mixOne_self (a n : Int) : mixOne a a n = a := by
  unfold mixOne
  have : a * (4 - n) + a * n = a * 4 := by rw [← Int.mul_add]; congr 1; omega
  rw [this, tdiv_eq_if]
  split <;> omega

set_option maxRecDepth 100000 in
set_option maxHeartbeats 1600000 in
theorem mixEnds_walk (a b : Nat → Int) (n : Int) (w : World) :
    Calls Try.prog 3 #[.agg (row 8 a), .agg (row 8 b), .int .i64 n] w fun e w' => e = .returned (.bool true) ∧ Below w.heap.size w w' := by
  have H := Has.start w
  go_enter Try.func3, Try.ntmps3
  go_wp2_with (first | ((refine wpList_on (o := ⟨_, .box _ (.tmp 0), _, _, _, _⟩) rfl (fun K hK => ?_)); refine wp_box H _ (.tmp 0) rfl (v := .agg _) rfl ?_; clear H; intro u ga H; refine hK _ _ ?_; clear hK K; try simp only [Value.cells, List.cons_append, List.nil_append] at H) | ((refine wpList_on (o := ⟨_, .box _ (.tmp 1), _, _, _, _⟩) rfl (fun K hK => ?_)); refine wp_box H _ (.tmp 1) rfl (v := .agg _) rfl ?_; clear H; intro u gb H; refine hK _ _ ?_; clear hK K; try simp only [Value.cells, List.cons_append, List.nil_append] at H))
  go_loopw [17] (fun i wr => ∃ k : Nat, k ≤ 8 ∧ i = .int .i64 k ∧ Has w wr [(gb, 22, row 8 (reflTo b k)), (ga, 22, row 8 (reflTo a k))]) (fun i _ => 8 - (intOf i).toNat)
  case atStart => exact ⟨0, by omega, rfl, by rw [reflTo_zero, reflTo_zero]; exact H⟩
  clear H
  case round =>
    obtain ⟨k, hk, rfl, H⟩ := hrel
    by_cases hlt : k < 8
    · have ra := refl_bd (a k)
      have rb := refl_bd (b k)
      unfold refl at ra rb
      have wa : IntKind.i64.wrap (a k % 65535 - 32767) = a k % 65535 - 32767 := IntWalk.i64_in _ (by omega)
      have wb : IntKind.i64.wrap (b k % 65535 - 32767) = b k % 65535 - 32767 := IntWalk.i64_in _ (by omega)
      have ea := reflTo_at a k
      have eb := reflTo_at b k
      go_wp2_with fail
      refine wp_region_text [7] (by kernel_rfl) (by kernel_rfl) (by kernel_rfl) ?_; replace H := H.drew; generalize World.drew _ = u at *
      repeat (first | (refine ones_load_one (o := ⟨_, .load 3 _, _, _, _, _⟩) H 3 _ rfl rfl rfl rfl (by repeat (first | exact List.mem_cons_self | apply List.mem_cons_of_mem)) (by kernel_rfl) (row_get _ (by omega)) ?_; simp only [Act.put, List.setIfInBounds_toArray, List.set_cons_zero, List.set_cons_succ]) | (refine ones_free (v := ?_) rfl rfl ?_ ?_; rotate_left; (intro w'; go_simp; try with_reducible rfl); simp only [Act.put, List.setIfInBounds_toArray, List.set_cons_zero, List.set_cons_succ]) | (refine' ones_call (o := ⟨_, .call _, _, _, _, _⟩) rfl rfl _ _; rotate_left; (unfold CallOf; go_simp; exact spot_any _ _ _ (by omega) (by omega)); simp only [Act.put, List.setIfInBounds_toArray, List.set_cons_zero, List.set_cons_succ]) | (refine ones_eff (o := ⟨_, .store 3 _ _, _, _, _, _⟩) rfl rfl (fun K hK => ?_); refine wp_store_row_ (l1 := []) H 3 _ _ rfl rfl rfl (by kernel_rfl) (by omega) ?_; clear H; intro u H; refine hK _ _ ?_; clear hK K; simp only [Act.put, List.setIfInBounds_toArray, List.set_cons_zero, List.set_cons_succ]; try simp only [Value.cells, List.cons_append, List.nil_append] at H) | (refine ones_eff (o := ⟨_, .store 3 _ _, _, _, _, _⟩) rfl rfl (fun K hK => ?_); refine wp_store_row_ (l1 := [_]) H 3 _ _ rfl rfl rfl (by kernel_rfl) (by omega) ?_; clear H; intro u H; refine hK _ _ ?_; clear hK K; simp only [Act.put, List.setIfInBounds_toArray, List.set_cons_zero, List.set_cons_succ]; try simp only [Value.cells, List.cons_append, List.nil_append] at H))
      refine ones_nil ?_
      rw [reflTo_step, reflTo_step] at H
      go_wp2
      go_roundw
      case rel => exact ⟨k + 1, by omega, by go_num, H⟩
      case measure => simp [intOf]; omega
    · obtain rfl : k = 8 := by omega
      rw [reflTo_all, reflTo_all] at H
      have sp := Int.emod_nonneg n (show (5 : Int) ≠ 0 by omega)
      have sp' := Int.emod_lt_of_pos n (show (0 : Int) < 5 by omega)
      have HRA : Hid (∀ i, i < 8 → -32768 < refl (a i) ∧ refl (a i) < 32768) := fun i _ => by have := refl_bd (a i); omega
      have HRB : Hid (∀ i, i < 8 → -32768 < refl (b i) ∧ refl (b i) < 32768) := fun i _ => by have := refl_bd (b i); omega
      go_wp2_with (first | ((refine wpList_on (o := ⟨_, .load 22 _, _, _, _, _⟩) rfl (fun K hK => ?_)); refine wp_load_all H 22 _ rfl rfl (by repeat (first | exact List.mem_cons_self | apply List.mem_cons_of_mem)) (by kernel_rfl) ?_; refine hK _ _ ?_; clear hK K) | (go_at_call 8; refine (mix_any _ _ _ _ (by omega) (by omega) HRA.out HRB.out).mono ?_; rintro e u ⟨rfl, hb⟩; replace H := H.callee hb; clear hb) | ((refine wpList_on (o := ⟨_, .store 22 _ _, _, _, _, _⟩) rfl (fun K hK => ?_)); refine wp_store_all (l1 := []) H 22 _ _ rfl rfl rfl (by kernel_rfl) (by simp [row_size]) (row_one _ _) ?_; clear H; intro u H; refine hK _ _ ?_; clear hK K; try simp only [Value.cells, List.cons_append, List.nil_append] at H) | (refine wpList_on (o := ⟨some 8, .alloc 22, _, _, _, _⟩) rfl (fun K hK => ?_); refine wp_alloc H 22 rfl (z := (.agg (row 8 fun _ => 0))) (by kernel_rfl) ?_; clear H; intro u gx H; refine hK _ _ ?_; clear hK K; try simp only [Value.cells, List.cons_append, List.nil_append] at H) | (refine wpList_on (o := ⟨some 10, .alloc 22, _, _, _, _⟩) rfl (fun K hK => ?_); refine wp_alloc H 22 rfl (z := (.agg (row 8 fun _ => 0))) (by kernel_rfl) ?_; clear H; intro u gy H; refine hK _ _ ?_; clear hK K; try simp only [Value.cells, List.cons_append, List.nil_append] at H))
      refine' cut_ _ (fun hcut => _) _; rotate_left
      · refine wp_region_ordB [7] [] (fun w' => Has w w' [(gy, 22, row 8 fun i => mixOne (refl (a i)) (refl (b i)) 4), (gx, 22, row 8 fun i => mixOne (refl (a i)) (refl (b i)) 0), (gb, 22, row 8 fun i => refl (b i)), (ga, 22, row 8 fun i => refl (a i))]) [(4, 8)] [[0, 1, 2, 3, 4, 5, 6, 7, 8, 9, 10], [0, 1, 2, 3, 8, 4, 5, 6, 7, 9, 10]] (by kernel_rfl) (by kernel_rfl) (by kernel_rfl) ?_; replace H := H.drew; generalize World.drew _ = u at *; simp only [List.forall_mem_cons, List.not_mem_nil, false_imp_iff, implies_true, and_true]; (repeat' refine And.intro ?_ ?_)
        all_goals repeat (first | (refine sq_load_all (o := ⟨_, .load 22 _, _, _, _, _⟩) 22 _ rfl rfl rfl rfl rfl (H.sub (by repeat (first | exact List.Sublist.refl _ | apply List.Sublist.cons))) (by repeat (first | exact List.mem_cons_self | apply List.mem_cons_of_mem)) (by kernel_rfl) ?_; simp only [Act.put, List.setIfInBounds_toArray, List.set_cons_zero, List.set_cons_succ]) | (refine sq_free (o := ⟨_, _, _, _, _, _⟩) (v := ?_) rfl rfl rfl ?_ ?_; rotate_left; (intro w'; go_simp; try with_reducible rfl); simp only [Act.put, List.setIfInBounds_toArray, List.set_cons_zero, List.set_cons_succ]) | (refine' sq_call (o := ⟨_, .call _, _, _, _, _⟩) rfl rfl rfl _ _; rotate_left; (intro w'; unfold CallOf; go_simp; exact spot_any _ _ _ (by omega) (by omega)); simp only [Act.put, List.setIfInBounds_toArray, List.set_cons_zero, List.set_cons_succ]) | (refine sq_keep (o := ⟨_, .call _, _, _, _, _⟩) rfl rfl rfl (fun K hK => ?_); go_simp; refine (mix_any _ _ _ _ (by omega) (by omega) HRA.out HRA.out).mono ?_; rintro e u ⟨rfl, hb⟩; replace H := H.callee hb; clear hb; refine hK _ _ (H.sub (by repeat (first | exact List.Sublist.refl _ | apply List.Sublist.cons))) ?_; clear hK K; try simp only [Act.put, List.setIfInBounds_toArray, List.set_cons_zero, List.set_cons_succ]) | (refine sq_keep (o := ⟨some 12, .alloc 22, _, _, _, _⟩) rfl rfl rfl (fun K hK => ?_); refine wp_alloc H 22 rfl (z := (.agg (row 8 fun _ => 0))) (by kernel_rfl) ?_; clear H; intro u gz H; (try simp only [Value.cells, List.cons_append, List.nil_append] at H); refine hK _ _ (H.sub (by repeat (first | exact List.Sublist.refl _ | apply List.Sublist.cons))) ?_; clear hK K; simp only [Act.put, List.setIfInBounds_toArray, List.set_cons_zero, List.set_cons_succ]) | (refine sq_eff (o := ⟨_, .store 22 _ _, _, _, _, _⟩) rfl rfl rfl (fun K hK => ?_); refine wp_store_all (l1 := []) H 22 _ _ rfl rfl rfl (by kernel_rfl) (by simp [row_size]) (row_one _ _) ?_; clear H; intro u H; (try simp only [Value.cells, List.cons_append, List.nil_append] at H); refine hK _ _ ?_; clear hK K; simp only [Act.put, List.setIfInBounds_toArray, List.set_cons_zero, List.set_cons_succ]))
        all_goals refine sq_nil ?_
        · revert H
          revert gz u
          exact hcut.out
        · exact hcut.out _ _ H
      clear H
      intro gz u H
      go_wp2_with fail
      refine' cut_ _ (fun hcut => _) _; rotate_left
      · refine wp_region_ordB [7] [] (fun w' => Has w w' [(gz, 22, row 8 fun i => mixOne (refl (a i)) (refl (a i)) (n % 5)), (gy, 22, row 8 fun i => mixOne (refl (a i)) (refl (b i)) 4), (gx, 22, row 8 fun i => mixOne (refl (a i)) (refl (b i)) 0), (gb, 22, row 8 fun i => refl (b i)), (ga, 22, row 8 fun i => refl (a i))]) [(4, 8)] [[0, 1, 2, 3, 4, 5, 6, 7, 8, 9, 10], [0, 1, 2, 3, 8, 4, 5, 6, 7, 9, 10]] (by kernel_rfl) (by kernel_rfl) (by kernel_rfl) ?_; replace H := H.drew; generalize World.drew _ = u at *; simp only [List.forall_mem_cons, List.not_mem_nil, false_imp_iff, implies_true, and_true]; (repeat' refine And.intro ?_ ?_)
        all_goals repeat (first | (refine sq_load_all (o := ⟨_, .load 22 _, _, _, _, _⟩) 22 _ rfl rfl rfl rfl rfl (H.sub (by repeat (first | exact List.Sublist.refl _ | apply List.Sublist.cons))) (by repeat (first | exact List.mem_cons_self | apply List.mem_cons_of_mem)) (by kernel_rfl) ?_; simp only [Act.put, List.setIfInBounds_toArray, List.set_cons_zero, List.set_cons_succ]) | (refine sq_free (o := ⟨_, _, _, _, _, _⟩) (v := ?_) rfl rfl rfl ?_ ?_; rotate_left; (intro w'; go_simp; try with_reducible rfl); simp only [Act.put, List.setIfInBounds_toArray, List.set_cons_zero, List.set_cons_succ]) | (refine' sq_call (o := ⟨_, .call _, _, _, _, _⟩) rfl rfl rfl _ _; rotate_left; (intro w'; unfold CallOf; go_simp; exact spot_any _ _ _ (by omega) (by omega)); simp only [Act.put, List.setIfInBounds_toArray, List.set_cons_zero, List.set_cons_succ]) | (refine sq_keep (o := ⟨_, .call _, _, _, _, _⟩) rfl rfl rfl (fun K hK => ?_); go_simp; refine (mix_any _ _ _ _ (by omega) (by omega) HRA.out HRB.out).mono ?_; rintro e u ⟨rfl, hb⟩; replace H := H.callee hb; clear hb; refine hK _ _ (H.sub (by repeat (first | exact List.Sublist.refl _ | apply List.Sublist.cons))) ?_; clear hK K; try simp only [Act.put, List.setIfInBounds_toArray, List.set_cons_zero, List.set_cons_succ]) | (refine sq_keep (o := ⟨some 14, .alloc 22, _, _, _, _⟩) rfl rfl rfl (fun K hK => ?_); refine wp_alloc H 22 rfl (z := (.agg (row 8 fun _ => 0))) (by kernel_rfl) ?_; clear H; intro u gm H; (try simp only [Value.cells, List.cons_append, List.nil_append] at H); refine hK _ _ (H.sub (by repeat (first | exact List.Sublist.refl _ | apply List.Sublist.cons))) ?_; clear hK K; simp only [Act.put, List.setIfInBounds_toArray, List.set_cons_zero, List.set_cons_succ]) | (refine sq_eff (o := ⟨_, .store 22 _ _, _, _, _, _⟩) rfl rfl rfl (fun K hK => ?_); refine wp_store_all (l1 := []) H 22 _ _ rfl rfl rfl (by kernel_rfl) (by simp [row_size]) (row_one _ _) ?_; clear H; intro u H; (try simp only [Value.cells, List.cons_append, List.nil_append] at H); refine hK _ _ ?_; clear hK K; simp only [Act.put, List.setIfInBounds_toArray, List.set_cons_zero, List.set_cons_succ]))
        all_goals refine sq_nil ?_
        · revert H
          revert gm u
          exact hcut.out
        · exact hcut.out _ _ H
      clear H
      intro gm u H
      go_wp2_with fail
      go_loopw [63] (fun i wr => ∃ k : Nat, k ≤ 8 ∧ i = .int .i64 k ∧ Has w wr [(gm, 22, row 8 fun i => mixOne (refl (a i)) (refl (b i)) (n % 5)), (gz, 22, row 8 fun i => mixOne (refl (a i)) (refl (a i)) (n % 5)), (gy, 22, row 8 fun i => mixOne (refl (a i)) (refl (b i)) 4), (gx, 22, row 8 fun i => mixOne (refl (a i)) (refl (b i)) 0), (gb, 22, row 8 fun i => refl (b i)), (ga, 22, row 8 fun i => refl (a i))]) (fun i _ => 8 - (intOf i).toNat)
      case atStart => exact ⟨0, by omega, rfl, H⟩
      clear H
      case round =>
        obtain ⟨k, hk, rfl, H⟩ := hrel
        by_cases hlt : k < 8
        · have hmn := mixOne_min (refl (a k)) (refl (b k)) (n % 5) sp sp'
          have hmx := mixOne_max (refl (a k)) (refl (b k)) (n % 5) sp sp'
          go_wp2_with fail
          refine wp_region_ordB [] [] (fun w' => Has w w' [(gm, 22, row 8 fun i => mixOne (refl (a i)) (refl (b i)) (n % 5)), (gz, 22, row 8 fun i => mixOne (refl (a i)) (refl (a i)) (n % 5)), (gy, 22, row 8 fun i => mixOne (refl (a i)) (refl (b i)) 4), (gx, 22, row 8 fun i => mixOne (refl (a i)) (refl (b i)) 0), (gb, 22, row 8 fun i => refl (b i)), (ga, 22, row 8 fun i => refl (a i))]) [] [List.range 24] (by kernel_rfl) (by kernel_rfl) (by kernel_rfl) ?_; replace H := H.drew; generalize World.drew _ = u at *; simp only [List.forall_mem_cons, List.not_mem_nil, false_imp_iff, implies_true, and_true]; (repeat' refine And.intro ?_ ?_)
          simp only [List.range, List.range.loop]
          repeat (first | (refine sq_load_one (o := ⟨_, .load 3 _, _, _, _, _⟩) 3 _ rfl rfl rfl rfl rfl (H.sub (by repeat (first | exact List.Sublist.refl _ | apply List.Sublist.cons))) (by repeat (first | exact List.mem_cons_self | apply List.mem_cons_of_mem)) (by kernel_rfl) (row_get _ (by omega)) ?_; simp only [Act.put, List.setIfInBounds_toArray, List.set_cons_zero, List.set_cons_succ]) | (refine sq_free (o := ⟨_, _, _, _, _, _⟩) (v := ?_) rfl rfl rfl ?_ ?_; rotate_left; (intro w'; go_simp; try with_reducible rfl); simp only [Act.put, List.setIfInBounds_toArray, List.set_cons_zero, List.set_cons_succ]))
          refine sq_nil ?_
          go_wp2
          go_roundw
          case rel => exact ⟨k + 1, by omega, by go_num, H⟩
          case measure => simp [intOf]; omega
        · obtain rfl : k = 8 := by omega
          have heq := fun w f g => run_eql_row (P := Try.prog) (n := 8) Try.underlying22 Try.underlying3 (info_some (by kernel_rfl)) (by kernel_rfl) w f g
          have e1 : rowEq 8 (fun i => mixOne (refl (a i)) (refl (b i)) 0) (fun i => refl (a i)) = true := rowEq_of fun i _ => mixOne_0 _ _
          have e2 : rowEq 8 (fun i => mixOne (refl (a i)) (refl (b i)) 4) (fun i => refl (b i)) = true := rowEq_of fun i _ => mixOne_4 _ _
          have e3 : rowEq 8 (fun i => mixOne (refl (a i)) (refl (a i)) (n % 5)) (fun i => refl (a i)) = true := rowEq_of fun i _ => mixOne_self _ _
          go_wp2_with ((refine wpList_on (o := ⟨_, .load 22 _, _, _, _, _⟩) rfl (fun K hK => ?_)); refine wp_load_all H 22 _ rfl rfl (by repeat (first | exact List.mem_cons_self | apply List.mem_cons_of_mem)) (by kernel_rfl) ?_; refine hK _ _ ?_; clear hK K)
          go_ret
          exact ⟨rfl, H.below⟩
end Go.Proofs.Ytnjblifbkfppoaa
