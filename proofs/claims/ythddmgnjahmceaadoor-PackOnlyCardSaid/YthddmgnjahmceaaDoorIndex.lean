/-
  index walked. No statement is proved here.
-/
import Derived.Test.YthddmgnjahmceaaDoorParts
import Derived.Test.YthddmgnjahmceaaDoorSpot
namespace Go.Proofs.YthddmgnjahmceaaDoor
open Go.RowKit
def indexI (x : Nat → Int) (i : Nat) : Int := x i % 10
theorem indexI_bd (x : Nat → Int) (i : Nat) : 0 ≤ indexI x i ∧ indexI x i ≤ 9 := by unfold indexI; omega
set_option maxHeartbeats 1600000 in
theorem index_any (x : Nat → Int) (w : World) :
    Calls Tryd.prog 12 #[.agg (row 4 x)] w fun e w' => e = .returned (.agg (row 4 (indexI x))) ∧ Below w.heap.size w w' := by
  have H := Has.start w
  go_enter Tryd.func12, Tryd.ntmps12
  go_wp2_with (first | ((refine wpList_on (o := ⟨_, .box _ (.tmp 0), _, _, _, _⟩) rfl (fun K hK => ?_)); refine wp_box H _ (.tmp 0) rfl (v := .agg _) rfl ?_; clear H; intro u gp H; refine hK _ _ ?_; clear hK K; try simp only [Value.cells, List.cons_append, List.nil_append] at H) | (refine wpList_on (o := ⟨some 2, .alloc 23, _, _, _, _⟩) rfl (fun K hK => ?_); refine wp_alloc H 23 rfl (z := (.agg (row 4 fun _ => 0))) (by kernel_rfl) ?_; clear H; intro u gr H; refine hK _ _ ?_; clear hK K; try simp only [Value.cells, List.cons_append, List.nil_append] at H))
  go_loopw [4] (fun c wr => ∃ k : Nat, k ≤ 4 ∧ c = .int .i64 k ∧ Has w wr [(gr, 23, row 4 fun _ => 0), (gp, 23, row 4 fun i => if i < k then indexI x i else x i)]) (fun c _ => 4 - (intOf c).toNat)
  case atStart => exact ⟨0, by omega, rfl, H⟩
  clear H
  case round =>
    obtain ⟨k, hk, rfl, H⟩ := hrel
    by_cases hlt : k < 4
    · have HE : Hid ((fun i => if i < k + 1 then indexI x i else x i) = fun j => if j = k then indexI x k else if j < k then indexI x j else x j) := by
        show (fun i => if i < k + 1 then indexI x i else x i) = _
        funext i
        by_cases e : i = k
        · subst e; simp
        · have : i < k + 1 ↔ i < k := by omega
          simp [e, this]
      have c1 : ∀ w : World, Calls Tryd.prog 11 #[.int .i64 (x k), .int .i64 10] w fun e w' => e = .returned (.int .i64 (indexI x k)) ∧ w = w' := fun w => spot_any _ _ w (by omega) (by omega)
      have C1 := Lib.hid c1
      have e0 : (if k < k then indexI x k else x k) = x k := by simp
      clear c1
      go_wp2_with (first | ((refine wpList_on (o := ⟨_, .load 3 _, _, _, _, _⟩) rfl (fun K hK => ?_)); refine wp_load_one H 3 _ rfl rfl (by repeat (first | exact List.mem_cons_self | apply List.mem_cons_of_mem | apply List.mem_append_right)) (by kernel_rfl) (row_get _ (by omega)) ?_; refine hK _ _ ?_; clear hK K) | (go_at_call 11; (with_reducible refine (C1.out _).mono ?_); rintro e w1 ⟨rfl, rfl⟩) | ((refine wpList_on (o := ⟨_, .store 3 _ _, _, _, _, _⟩) rfl (fun K hK => ?_)); refine wp_store_row_ (l1 := [_]) H 3 _ _ rfl rfl rfl (by kernel_rfl) (by omega) ?_; clear H; intro u H; refine hK _ _ ?_; clear hK K; try simp only [Value.cells, List.cons_append, List.nil_append] at H))
      go_roundw
      case rel => exact ⟨k + 1, by omega, by go_num, by rw [HE.out]; simpa using H⟩
      case measure => simp [intOf]; omega
    · obtain rfl : k = 4 := by omega
      have HE : Hid (row 4 (fun i => if i < 4 then indexI x i else x i) = row 4 (indexI x)) := row_congr fun i hi => if_pos hi
      go_wp2_with (first | ((refine wpList_on (o := ⟨_, .load 23 _, _, _, _, _⟩) rfl (fun K hK => ?_)); refine wp_load_all H 23 _ rfl rfl (by repeat (first | exact List.mem_cons_self | apply List.mem_cons_of_mem | apply List.mem_append_right)) (by kernel_rfl) ?_; refine hK _ _ ?_; clear hK K) | ((refine wpList_on (o := ⟨_, .store 23 _ _, _, _, _, _⟩) rfl (fun K hK => ?_)); refine wp_store_all (l1 := []) H 23 _ _ rfl rfl rfl (by kernel_rfl) (by simp [row_size]) (row_one _ _) ?_; clear H; intro u H; refine hK _ _ ?_; clear hK K; try simp only [Value.cells, List.cons_append, List.nil_append] at H))
      refine bodyPost_ret (results_one rfl _ H rfl (by repeat (first | exact List.mem_cons_self | apply List.mem_cons_of_mem | apply List.mem_append_right)) (by kernel_rfl)) rfl ⟨by rw [HE.out], H.below⟩
end Go.Proofs.YthddmgnjahmceaaDoor
