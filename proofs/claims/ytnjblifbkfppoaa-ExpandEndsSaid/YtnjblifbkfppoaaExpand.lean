import Derived.Test.YtnjblifbkfppoaaHas
namespace Go.Proofs.Ytnjblifbkfppoaa
open Go.RowKit

/-- The factor at place i. -/
def expF (g : Int) : Nat → Int
  | 0 => 32768
  | i + 1 => (expF g i * g + 16384) / 32768
theorem expF_bd (g : Int) (h0 : 0 ≤ g) (h1 : g ≤ 32768) : ∀ i, 0 ≤ expF g i ∧ expF g i ≤ 32768
  | 0 => by unfold expF; omega
  | i + 1 => by
    have ih := expF_bd g h0 h1 i
    have hm := mul_le_of (expF g i) g 32768 32768 ih.1 ih.2 h0 h1
    unfold expF; omega
def expTo (a : Nat → Int) (g : Int) (k : Nat) : Nat → Int := fun i => if i < k then (a i * expF g i + 16384) / 32768 else a i

theorem expTo_step (a : Nat → Int) (g : Int) (k : Nat) : (fun j => if j = k then (a k * expF g k + 16384) / 32768 else expTo a g k j) = expTo a g (k + 1) := by
  funext j
  unfold expTo
  by_cases e : j = k
  · subst e; simp
  · have : j < k + 1 ↔ j < k := by omega
    simp [e, this]
theorem expTo_all (a : Nat → Int) (g : Int) : row 9 (expTo a g 9) = row 9 fun i => (a i * expF g i + 16384) / 32768 := row_congr fun i hi => by simp [expTo, hi]

set_option maxRecDepth 100000 in
theorem expand_any (a : Nat → Int) (g : Int) (w : World) (h0 : 0 ≤ g) (h1 : g ≤ 32768) (ha : ∀ i, i < 9 → -1073741824 ≤ a i ∧ a i ≤ 1073741824) :
    Calls Try.prog 10 #[.agg (row 9 a), .int .i64 g] w fun e w' => e = .returned (.tuple #[.agg (row 9 fun i => (a i * expF g i + 16384) / 32768), .int .i64 0]) ∧ Below w.heap.size w w' := by
  have HA := Lib.hid ha
  clear ha
  have H := Has.start w
  go_enter Try.func10, Try.ntmps10
  go_wp2_with (first | ((refine wpList_on (o := ⟨_, .box _ (.tmp 0), _, _, _, _⟩) rfl (fun K hK => ?_)); refine wp_box H _ (.tmp 0) rfl (v := .agg _) rfl ?_; clear H; intro u ga H; refine hK _ _ ?_; clear hK K; try simp only [Value.cells, List.cons_append, List.nil_append] at H) | (refine wpList_on (o := ⟨some 4, .alloc 28, _, _, _, _⟩) rfl (fun K hK => ?_); refine wp_alloc H 28 rfl (z := (.agg (row 9 fun _ => 0))) (by kernel_rfl) ?_; clear H; intro u gr H; refine hK _ _ ?_; clear hK K; try simp only [Value.cells, List.cons_append, List.nil_append] at H))
  go_loopw [6, 15] (fun f i wr => ∃ k : Nat, k ≤ 9 ∧ i = .int .i64 k ∧ f = .int .i64 (expF g k) ∧ Has w wr [(gr, 28, row 9 fun _ => 0), (ga, 28, row 9 (expTo a g k))]) (fun _ i _ => 9 - (intOf i).toNat)
  case atStart => exact ⟨0, by omega, rfl, rfl, H⟩
  clear H
  case round =>
    obtain ⟨k, hk, rfl, rfl, H⟩ := hrel
    by_cases hlt : k < 9
    · obtain ⟨ba1, ba2⟩ := HA.out k hlt
      have ea : expTo a g k k = a k := by simp [expTo]
      obtain ⟨bf1, bf2⟩ := expF_bd g h0 h1 k
      have hd1 := lt_no ba1
      have hd2 := lt_no ba2
      obtain ⟨bm1, bm2⟩ := mul_bd (a k) (expF g k) 1073741824 32768 (by omega) (by omega) (by omega) (by omega)
      obtain ⟨bn1, bn2⟩ := mul_le_of (expF g k) g 32768 32768 bf1 bf2 h0 h1
      go_wp2_with (first | ((refine wpList_on (o := ⟨_, .load 3 _, _, _, _, _⟩) rfl (fun K hK => ?_)); refine wp_load_one H 3 _ rfl rfl (by repeat (first | exact List.mem_cons_self | apply List.mem_cons_of_mem)) (by kernel_rfl) (row_get _ (by omega)) ?_; refine hK _ _ ?_; clear hK K) | ((refine wpList_on (o := ⟨_, .store 3 _ _, _, _, _, _⟩) rfl (fun K hK => ?_)); refine wp_store_row_ (l1 := [_]) H 3 _ _ rfl rfl rfl (by kernel_rfl) (by omega) ?_; clear H; intro u H; refine hK _ _ ?_; clear hK K; try simp only [Value.cells, List.cons_append, List.nil_append] at H))
      go_roundw
      case rel =>
        refine ⟨k + 1, by omega, by go_num, rfl, ?_⟩
        rw [expTo_step] at H
        exact H
      case measure => simp [intOf]; omega
    · obtain rfl : k = 9 := by omega
      rw [expTo_all] at H
      go_wp2_with (first | ((refine wpList_on (o := ⟨_, .load 28 _, _, _, _, _⟩) rfl (fun K hK => ?_)); refine wp_load_all H 28 _ rfl rfl (by repeat (first | exact List.mem_cons_self | apply List.mem_cons_of_mem)) (by kernel_rfl) ?_; refine hK _ _ ?_; clear hK K) | ((refine wpList_on (o := ⟨_, .store 28 _ _, _, _, _, _⟩) rfl (fun K hK => ?_)); refine wp_store_all (l1 := []) H 28 _ _ rfl rfl rfl (by kernel_rfl) (by simp [row_size]) (row_one _ _) ?_; clear H; intro u H; refine hK _ _ ?_; clear hK K; try simp only [Value.cells, List.cons_append, List.nil_append] at H))
      refine bodyPost_ret (results_has rfl _ H rfl (by repeat (first | exact List.mem_cons_self | apply List.mem_cons_of_mem)) (by kernel_rfl)) rfl ⟨rfl, H.below⟩
end Go.Proofs.Ytnjblifbkfppoaa
