import Derived.Test.YtnjblifbkfppoaaLevinson
namespace Go.Proofs.Ytnjblifbkfppoaa
open Go.RowKit

def oneRow : Nat → Int := fun i => if i = 0 then 1073741824 else 0
theorem one_any (w : World) : Calls Try.prog 12 #[.agg #[.int .i64 1073741824, .int .i64 0, .int .i64 0, .int .i64 0, .int .i64 0, .int .i64 0, .int .i64 0, .int .i64 0, .int .i64 0]] w fun e w' => ∃ (k : Nat → Int) (x : Int), e = .returned (.tuple #[.agg (row 8 k), .int .i64 x, .bool true]) ∧ Below w.heap.size w w' := by
  have h : Calls Try.prog 12 #[.agg (row 9 oneRow)] w _ := levinson_any oneRow w
  refine h.mono ?_
  rintro e w' ⟨k, x, ok, rfl, _, _, h2, hb⟩
  have hok : ok = true := h2 ⟨rfl, fun i h1 _ => by unfold oneRow; rw [if_neg (by omega)]⟩
  subst hok
  exact ⟨k, x, rfl, hb⟩

set_option maxRecDepth 100000 in
set_option maxHeartbeats 800000 in
theorem levinsonBounds_walk (r : Nat → Int) (w : World) :
    Calls Try.prog 6 #[.agg (row 9 r)] w fun e w' => e = .returned (.bool true) ∧ Below w.heap.size w w' := by
  have H := Has.start w
  go_enter Try.func6, Try.ntmps6
  go_wp2_with (first | ((refine wpList_on (o := ⟨_, .box _ (.tmp 0), _, _, _, _⟩) rfl (fun K hK => ?_)); refine wp_box H _ (.tmp 0) rfl (v := .agg _) rfl ?_; clear H; intro u ga H; refine hK _ _ ?_; clear hK K; try simp only [Value.cells, List.cons_append, List.nil_append] at H) | ((refine wpList_on (o := ⟨_, .load 28 _, _, _, _, _⟩) rfl (fun K hK => ?_)); refine wp_load_all H 28 _ rfl rfl (by repeat (first | exact List.mem_cons_self | apply List.mem_cons_of_mem)) (by kernel_rfl) ?_; refine hK _ _ ?_; clear hK K))
  refine (levinson_any r _).mono ?_
  rintro e u ⟨k, x, ok, rfl, hk, h1, _, hb⟩
  replace H := H.callee hb
  clear hb
  have HK := Lib.hid hk
  clear hk
  have H1 := Lib.hid h1
  clear h1
  have HZ := Lib.hid one_any
  go_wp2_with (first | (refine wpList_on (o := ⟨some 3, .alloc 22, _, _, _, _⟩) rfl (fun K hK => ?_); refine wp_alloc H 22 rfl (z := (.agg (row 8 fun _ => 0))) (by kernel_rfl) ?_; clear H; intro u gx H; refine hK _ _ ?_; clear hK K; try simp only [Value.cells, List.cons_append, List.nil_append] at H) | (refine wpList_on (o := ⟨some 6, .alloc 22, _, _, _, _⟩) rfl (fun K hK => ?_); refine wp_alloc H 22 rfl (z := (.agg (row 8 fun _ => 0))) (by kernel_rfl) ?_; clear H; intro u gy H; refine hK _ _ ?_; clear hK K; try simp only [Value.cells, List.cons_append, List.nil_append] at H) | ((refine wpList_on (o := ⟨_, .store 22 _ _, _, _, _, _⟩) rfl (fun K hK => ?_)); refine wp_store_all (l1 := []) H 22 _ _ rfl rfl rfl (by kernel_rfl) (by simp [row_size]) (row_one _ _) ?_; clear H; intro u H; refine hK _ _ ?_; clear hK K; try simp only [Value.cells, List.cons_append, List.nil_append] at H) | ((refine wpList_on (o := ⟨_, .load 22 _, _, _, _, _⟩) rfl (fun K hK => ?_)); refine wp_load_all H 22 _ rfl rfl (by repeat (first | exact List.mem_cons_self | apply List.mem_cons_of_mem)) (by kernel_rfl) ?_; refine hK _ _ ?_; clear hK K) | (go_at_call 12; (with_reducible refine (HZ.out _).mono ?_); rintro e u ⟨k2, x2, rfl, hb⟩; replace H := H.callee hb; clear hb))
  go_loop [24] (fun c => ∃ i : Nat, i ≤ 8 ∧ c = .int .i64 i) (fun c => 8 - (intOf c).toNat)
  case atStart => exact ⟨0, by omega, rfl⟩
  case round =>
    obtain ⟨i, hi, rfl⟩ := hrel
    by_cases hli : i < 8
    · have hix := fun w => run_index_row (P := Try.prog) (n := 8) (i := i) Try.underlying22 Try.underlying3 (by kernel_rfl) (by kernel_rfl) k hli w
      obtain ⟨x1, x2⟩ := HK.out i hli
      have d1 := le_no x1
      have d2 := le_no x2
      go_wp2
      go_round
      case rel => exact ⟨i + 1, by omega, by go_num⟩
      case measure => simp [intOf]; omega
    · obtain rfl : i = 8 := by omega
      cases ok
      · go_wp2_with (first | ((refine wpList_on (o := ⟨_, .load 3 _, _, _, _, _⟩) rfl (fun K hK => ?_)); refine wp_load_one H 3 _ rfl rfl (by repeat (first | exact List.mem_cons_self | apply List.mem_cons_of_mem)) (by kernel_rfl) (row_get _ (by omega)) ?_; refine hK _ _ ?_; clear hK K))
        go_ret
        exact ⟨rfl, H.below⟩
      · obtain ⟨y1, y2⟩ := H1.out rfl
        have d1 := lt_yes y1
        have d2 := le_yes y2
        go_wp2_with (first | ((refine wpList_on (o := ⟨_, .load 3 _, _, _, _, _⟩) rfl (fun K hK => ?_)); refine wp_load_one H 3 _ rfl rfl (by repeat (first | exact List.mem_cons_self | apply List.mem_cons_of_mem)) (by kernel_rfl) (row_get _ (by omega)) ?_; refine hK _ _ ?_; clear hK K))
        go_ret
        exact ⟨rfl, H.below⟩
end Go.Proofs.Ytnjblifbkfppoaa
