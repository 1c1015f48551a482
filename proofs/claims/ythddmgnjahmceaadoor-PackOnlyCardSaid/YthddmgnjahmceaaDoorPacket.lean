/-
  packet (a packet made good) walked. No statement is proved here.
-/
import Derived.Test.YthddmgnjahmceaaDoorUnpack
import Derived.Test.YthddmgnjahmceaaDoorIndex
import Derived.Test.YthddmgnjahmceaaDoorOpenT
namespace Go.Proofs.YthddmgnjahmceaaDoor
open Go.RowKit
/-- A packet made good. -/
def packF (q : Nat → Int) (j : Nat) : Nat := (q j % ((mostF j + 1 : Nat) : Int)).toNat
theorem packF_le (q : Nat → Int) (j : Nat) : packF q j ≤ mostF j := by
  have h1 := Int.emod_nonneg (q j) (show ((mostF j + 1 : Nat) : Int) ≠ 0 by omega)
  have h2 := Int.emod_lt_of_pos (q j) (show (0 : Int) < ((mostF j + 1 : Nat) : Int) by omega)
  unfold packF
  omega
theorem packF_is (q : Nat → Int) (j : Nat) : packI (packF q) j = q j % ((mostF j + 1 : Nat) : Int) := by
  have h1 := Int.emod_nonneg (q j) (show ((mostF j + 1 : Nat) : Int) ≠ 0 by omega)
  unfold packI packF
  omega
def packM (q : Nat → Int) (k j : Nat) : Int := if j < k then packI (packF q) j else q j
theorem packM_at (q : Nat → Int) {k j : Nat} (h : k ≤ j) : packM q k j = q j := by unfold packM; rw [if_neg (by omega)]
theorem packM_zero (q : Nat → Int) : row 25 (packM q 0) = row 25 q := row_congr fun i _ => packM_at q (Nat.zero_le _)
theorem packM_one (q : Nat → Int) : (row 25 fun j => if j = 0 then packI (packF q) 0 else q j) = row 25 (packM q 1) := row_congr fun i _ => by
  unfold packM
  by_cases e : i = 0
  · rw [if_pos e, if_pos (by omega), e]
  · rw [if_neg e, if_neg (by omega)]
theorem packM_all (q : Nat → Int) : row 25 (packM q 25) = row 25 (packI (packF q)) := row_congr fun i hi => by unfold packM; rw [if_pos hi]
theorem packM_next (q : Nat → Int) (k : Nat) : row 25 (packM q (k + 1)) = row 25 fun j => if j = k then packI (packF q) k else packM q k j := row_congr fun i _ => by
  unfold packM
  by_cases e : i = k
  · rw [if_pos e, if_pos (by omega), e]
  · rw [if_neg e]
    by_cases h : i < k
    · rw [if_pos h, if_pos (by omega)]
    · rw [if_neg h, if_neg (by omega)]
def roomL (i : Nat) : Int := ((mostF (i + 1) + 1 : Nat) : Int)
theorem packM_sub (q : Nat → Int) (o : Nat) (ho : o + 8 ≤ 25) : patch (row 25 (packM q o)) o (row 8 fun i => packI (packF q) (o + i)).toList = row 25 (packM q (o + 8)) := by
  rw [row_patch _ _ ho]
  refine row_congr fun i _ => ?_
  unfold packM
  by_cases h : o ≤ i ∧ i < o + 8
  · rw [if_pos h, if_pos (by omega), show o + (i - o) = i by omega]
  · rw [if_neg h]
    by_cases h1 : i < o
    · rw [if_pos h1, if_pos (by omega)]
    · rw [if_neg h1, if_neg (by omega)]
theorem packM_part (q : Nat → Int) (o : Nat) (ho : o + 8 ≤ 25) : (row 25 (packM q o)).extract o (o + 8) = row 8 fun i => q (o + i) := by
  rw [row_extract _ ho]
  exact row_congr fun i _ => packM_at q (by omega)
theorem packC (q : Nat → Int) (j : Nat) (n : Int) (hn : ((mostF j + 1 : Nat) : Int) = n) (h0 : 0 < n ∧ n ≤ 100) (w : World) : Calls Tryd.prog 11 #[.int .i64 (q j), .int .i64 n] w fun e w' => e = .returned (.int .i64 (packI (packF q) j)) ∧ w = w' := by
  rw [packF_is, hn]
  exact spot_any _ _ w (by omega) (by omega)
theorem packX (q : Nat → Int) (o : Nat) (h0 : mostF (o + 2 + 0) = 9) (h1 : mostF (o + 2 + 1) = 9) (h2 : mostF (o + 2 + 2) = 9) (h3 : mostF (o + 2 + 3) = 9) (w : World) : Calls Tryd.prog 12 #[.agg (row 4 fun i => q (o + 2 + i))] w fun e w' => e = .returned (.agg (row 4 fun i => packI (packF q) (o + 2 + i))) ∧ Below w.heap.size w w' := by
  have e : row 4 (fun i => packI (packF q) (o + 2 + i)) = row 4 (indexI fun i => q (o + 2 + i)) := row_congr fun i hi => by
    have hm : mostF (o + 2 + i) = 9 := by
      have : i = 0 ∨ i = 1 ∨ i = 2 ∨ i = 3 := by omega
      rcases this with rfl | rfl | rfl | rfl <;> assumption
    rw [packF_is, hm]; rfl
  rw [e]
  exact index_any _ w
set_option maxHeartbeats 6400000 in
set_option maxRecDepth 100000 in
theorem packet_any (q : Nat → Int) (w : World) : Calls Tryd.prog 6 #[.agg (row 25 q)] w fun e w' => e = .returned (.agg (row 25 (packI (packF q)))) ∧ Below w.heap.size w w' := by
  have H := Has.start w
  have c0 : ∀ w : World, Calls Tryd.prog 11 #[.int .i64 (q 0), .int .i64 3] w fun e w' => e = .returned (.int .i64 (packI (packF q) 0)) ∧ w = w' := fun w => by rw [packF_is]; exact spot_any _ _ w (by omega) (by omega)
  have C0 := Lib.hid c0
  clear c0
  go_enter Tryd.func6, Tryd.ntmps6
  go_wp2_with (first | ((refine wpList_on (o := ⟨_, .box _ (.tmp 0), _, _, _, _⟩) rfl (fun K hK => ?_)); refine wp_box H _ (.tmp 0) rfl (v := .agg _) rfl ?_; clear H; intro u gp H; refine hK _ _ ?_; clear hK K; try simp only [Value.cells, List.cons_append, List.nil_append] at H) | (refine wpList_on (o := ⟨some 2, .alloc 28, _, _, _, _⟩) rfl (fun K hK => ?_); refine wp_alloc H 28 rfl (z := (.agg (row 25 fun _ => 0))) (by kernel_rfl) ?_; clear H; intro u gr H; refine hK _ _ ?_; clear hK K; try simp only [Value.cells, List.cons_append, List.nil_append] at H) | ((refine wpList_on (o := ⟨_, .load 3 _, _, _, _, _⟩) rfl (fun K hK => ?_)); refine wp_load_one H 3 _ rfl rfl (by repeat (first | exact List.mem_cons_self | apply List.mem_cons_of_mem | apply List.mem_append_right)) (by kernel_rfl) (row_get _ (by omega)) ?_; refine hK _ _ ?_; clear hK K) | (go_at_call 11; (with_reducible refine (C0.out _).mono ?_); rintro e w1 ⟨rfl, rfl⟩) | ((refine wpList_on (o := ⟨_, .store 3 _ _, _, _, _, _⟩) rfl (fun K hK => ?_)); refine wp_store_row_ (l1 := [_]) H 3 _ _ rfl rfl rfl (by kernel_rfl) (by omega) ?_; clear H; intro u H; refine hK _ _ ?_; clear hK K; try simp only [Value.cells, List.cons_append, List.nil_append] at H))
  rw [packM_one] at H
  have hA : #[Value.int .i64 64, .int .i64 64, .int .i64 32, .int .i64 32, .int .i64 16, .int .i64 16, .int .i64 8, .int .i64 8] = row 8 roomL := rfl
  rw [hA]
  clear hA C0
  go_loopw [12] (fun c wr => ∃ k : Nat, k ≤ 8 ∧ c = .int .i64 k ∧ Has w wr [(gr, 28, row 25 fun _ => 0), (gp, 28, row 25 (packM q (1 + k)))]) (fun c _ => 8 - (intOf c).toNat)
  case atStart => exact ⟨0, by omega, rfl, H⟩
  clear H
  case round =>
    obtain ⟨k, hk, rfl, H⟩ := hrel
    by_cases hlt : k < 8
    · have hix := fun w => run_index_row (P := Tryd.prog) (n := 8) (i := k) Tryd.underlying22 Tryd.underlying3 (by kernel_rfl) (by kernel_rfl) roomL hlt w
      have hm := packM_at q (Nat.le_refl (1 + k))
      have c1 : ∀ w : World, Calls Tryd.prog 11 #[.int .i64 (packM q (1 + k) (1 + k)), .int .i64 (roomL k)] w fun e w' => e = .returned (.int .i64 (packI (packF q) (1 + k))) ∧ w = w' := fun w => by
        have h1 : mostF (k + 1) ≤ 63 := by
          have : ∀ k < 8, mostF (k + 1) ≤ 63 := by decide
          exact this k hlt
        rw [packF_is, hm, Nat.add_comm 1 k]; exact spot_any _ _ w (by unfold roomL; omega) (by unfold roomL; omega)
      have C1 := Lib.hid c1
      clear c1 hm
      generalize roomL k = rk at *
      generalize hpk : packM q (1 + k) (1 + k) = pk at *
      go_wp2_with (first | ((refine wpList_on (o := ⟨_, .load 3 _, _, _, _, _⟩) rfl (fun K hK => ?_)); refine wp_load_one (v := .int .i64 pk) H 3 _ rfl rfl (by repeat (first | exact List.mem_cons_self | apply List.mem_cons_of_mem | apply List.mem_append_right)) (by kernel_rfl) (by rw [← hpk]; exact row_get _ (by omega)) ?_; refine hK _ _ ?_; clear hK K) | (go_at_call 11; (with_reducible refine (C1.out _).mono ?_); rintro e w1 ⟨rfl, rfl⟩) | ((refine wpList_on (o := ⟨_, .store 3 _ _, _, _, _, _⟩) rfl (fun K hK => ?_)); refine wp_store_row_ (l1 := [_]) H 3 _ _ rfl rfl rfl (by kernel_rfl) (by omega) ?_; clear H; intro u H; refine hK _ _ ?_; clear hK K; try simp only [Value.cells, List.cons_append, List.nil_append] at H))
      go_roundw
      case rel => exact ⟨k + 1, by omega, by go_num, by rw [← Nat.add_assoc, packM_next q (1 + k)]; exact H⟩
      case measure => simp [intOf]; omega
    · obtain rfl : k = 8 := by omega
      go_wp2
      simp only [show ((8 : Nat) : Int) = 8 from rfl]
      go_loopw [26] (fun c wr => ∃ k : Nat, k ≤ 2 ∧ c = .int .i64 k ∧ Has w wr [(gr, 28, row 25 fun _ => 0), (gp, 28, row 25 (packM q (9 + 8 * k)))]) (fun c _ => 2 - (intOf c).toNat)
      case atStart => exact ⟨0, by omega, rfl, H⟩
      clear H
      case round =>
        obtain ⟨k, hk, rfl, H⟩ := hrel
        obtain rfl | rfl | rfl : k = 0 ∨ k = 1 ∨ k = 2 := by omega
        · have hex := Lib.hid (packM_part q 9 (by omega))
          have s0 := Lib.hid (packC q 9 60 rfl (by omega))
          have s1 := Lib.hid (packC q 10 8 rfl (by omega))
          have s3 := Lib.hid (packC q 15 16 rfl (by omega))
          have s4 := Lib.hid (packC q 16 32 rfl (by omega))
          have si := Lib.hid (packX q 9 rfl rfl rfl rfl)
          go_wp2_with (first | ((refine wpList_on (o := ⟨_, .load 25 _, _, _, _, _⟩) rfl (fun K hK => ?_)); refine wp_load_part (n := 8) H 25 _ rfl rfl (by repeat (first | exact List.mem_cons_self | apply List.mem_cons_of_mem | apply List.mem_append_right)) (by kernel_rfl) (by rw [row_size]; omega) hex.out ?_; refine hK _ _ ?_; clear hK K) | (refine wpList_on (o := ⟨some 6, .alloc 25, _, _, _, _⟩) rfl (fun K hK => ?_); refine wp_alloc H 25 rfl (z := (.agg (row 8 fun _ => 0))) (by kernel_rfl) ?_; clear H; intro u g6 H; refine hK _ _ ?_; clear hK K; try simp only [Value.cells, List.cons_append, List.nil_append] at H) | ((refine wpList_on (o := ⟨_, .store 25 _ _, _, _, _, _⟩) rfl (fun K hK => ?_)); refine wp_store_all (l1 := []) H 25 _ _ rfl rfl rfl (by kernel_rfl) (by simp [row_size]) (row_one _ _) ?_; clear H; intro u H; refine hK _ _ ?_; clear hK K; try simp only [Value.cells, List.cons_append, List.nil_append] at H))
          refine wp_region_ordB [11] [] (fun w' => Has w w' [(g6, 25, row 8 fun i => q (9 + i))]) [] [[0, 1, 2, 3, 4, 5, 6, 7, 8, 10, 11, 13, 14, 9, 12, 15, 16, 17, 18, 19]] (by kernel_rfl) (by kernel_rfl) (by kernel_rfl) ?_; replace H := H.drew; generalize World.drew _ = u at *; simp only [List.forall_mem_cons, List.not_mem_nil, false_imp_iff, implies_true, and_true]; (repeat' refine And.intro ?_ ?_)
          (refine sq_free (o := ⟨_, _, _, _, _, _⟩) (v := ?_) rfl rfl rfl ?_ ?_; rotate_left; (intro w'; go_simp; try with_reducible rfl); simp only [Act.put, List.setIfInBounds_toArray, List.set_cons_zero, List.set_cons_succ])
          (refine sq_free (o := ⟨_, _, _, _, _, _⟩) (v := ?_) rfl rfl rfl ?_ ?_; rotate_left; (intro w'; go_simp; try with_reducible rfl); simp only [Act.put, List.setIfInBounds_toArray, List.set_cons_zero, List.set_cons_succ])
          (refine sq_load_one (o := ⟨_, .load 3 _, _, _, _, _⟩) 3 _ rfl rfl rfl rfl rfl (H.sub (by repeat (first | exact List.Sublist.refl _ | exact List.nil_sublist _ | apply List.Sublist.cons_cons | apply List.Sublist.cons | refine List.Sublist.trans ?_ (List.sublist_append_right _ _)))) (by repeat (first | exact List.mem_cons_self | apply List.mem_cons_of_mem | apply List.mem_append_right)) (by kernel_rfl) (row_get _ (by omega)) ?_; simp only [Act.put, List.setIfInBounds_toArray, List.set_cons_zero, List.set_cons_succ])
          (refine' sq_call (o := ⟨_, .call _, _, _, _, _⟩) rfl rfl rfl _ _; rotate_left; (intro w'; unfold CallOf; go_simp; exact s0.out _); simp only [Act.put, List.setIfInBounds_toArray, List.set_cons_zero, List.set_cons_succ])
          (refine sq_free (o := ⟨_, _, _, _, _, _⟩) (v := ?_) rfl rfl rfl ?_ ?_; rotate_left; (intro w'; go_simp; try with_reducible rfl); simp only [Act.put, List.setIfInBounds_toArray, List.set_cons_zero, List.set_cons_succ])
          (refine sq_load_one (o := ⟨_, .load 3 _, _, _, _, _⟩) 3 _ rfl rfl rfl rfl rfl (H.sub (by repeat (first | exact List.Sublist.refl _ | exact List.nil_sublist _ | apply List.Sublist.cons_cons | apply List.Sublist.cons | refine List.Sublist.trans ?_ (List.sublist_append_right _ _)))) (by repeat (first | exact List.mem_cons_self | apply List.mem_cons_of_mem | apply List.mem_append_right)) (by kernel_rfl) (row_get _ (by omega)) ?_; simp only [Act.put, List.setIfInBounds_toArray, List.set_cons_zero, List.set_cons_succ])
          (refine' sq_call (o := ⟨_, .call _, _, _, _, _⟩) rfl rfl rfl _ _; rotate_left; (intro w'; unfold CallOf; go_simp; exact s1.out _); simp only [Act.put, List.setIfInBounds_toArray, List.set_cons_zero, List.set_cons_succ])
          (refine sq_free (o := ⟨_, _, _, _, _, _⟩) (v := ?_) rfl rfl rfl ?_ ?_; rotate_left; (intro w'; go_simp; try with_reducible rfl); simp only [Act.put, List.setIfInBounds_toArray, List.set_cons_zero, List.set_cons_succ])
          (refine sq_load_part (k := 2) (n := 4) (v := row 4 fun i => q (11 + i)) (o := ⟨_, .load 23 _, _, _, _, _⟩) 23 _ rfl rfl rfl rfl rfl (H.sub (by repeat (first | exact List.Sublist.refl _ | exact List.nil_sublist _ | apply List.Sublist.cons_cons | apply List.Sublist.cons | refine List.Sublist.trans ?_ (List.sublist_append_right _ _)))) (by repeat (first | exact List.mem_cons_self | apply List.mem_cons_of_mem | apply List.mem_append_right)) (by kernel_rfl) (by simp [row_size]) (row_extract (n := 8) (o := 2) (m := 4) _ (by omega)) ?_; simp only [Act.put, List.setIfInBounds_toArray, List.set_cons_zero, List.set_cons_succ])
          (refine sq_free (o := ⟨_, _, _, _, _, _⟩) (v := ?_) rfl rfl rfl ?_ ?_; rotate_left; (intro w'; go_simp; try with_reducible rfl); simp only [Act.put, List.setIfInBounds_toArray, List.set_cons_zero, List.set_cons_succ])
          (refine sq_load_one (o := ⟨_, .load 3 _, _, _, _, _⟩) 3 _ rfl rfl rfl rfl rfl (H.sub (by repeat (first | exact List.Sublist.refl _ | exact List.nil_sublist _ | apply List.Sublist.cons_cons | apply List.Sublist.cons | refine List.Sublist.trans ?_ (List.sublist_append_right _ _)))) (by repeat (first | exact List.mem_cons_self | apply List.mem_cons_of_mem | apply List.mem_append_right)) (by kernel_rfl) (row_get _ (by omega)) ?_; simp only [Act.put, List.setIfInBounds_toArray, List.set_cons_zero, List.set_cons_succ])
          (refine sq_free (o := ⟨_, _, _, _, _, _⟩) (v := ?_) rfl rfl rfl ?_ ?_; rotate_left; (intro w'; go_simp; try with_reducible rfl); simp only [Act.put, List.setIfInBounds_toArray, List.set_cons_zero, List.set_cons_succ])
          (refine sq_load_one (o := ⟨_, .load 3 _, _, _, _, _⟩) 3 _ rfl rfl rfl rfl rfl (H.sub (by repeat (first | exact List.Sublist.refl _ | exact List.nil_sublist _ | apply List.Sublist.cons_cons | apply List.Sublist.cons | refine List.Sublist.trans ?_ (List.sublist_append_right _ _)))) (by repeat (first | exact List.mem_cons_self | apply List.mem_cons_of_mem | apply List.mem_append_right)) (by kernel_rfl) (row_get _ (by omega)) ?_; simp only [Act.put, List.setIfInBounds_toArray, List.set_cons_zero, List.set_cons_succ])
          (refine sq_keep (o := ⟨_, .call _, _, _, _, _⟩) rfl rfl rfl (fun K hK => ?_); go_simp; (go_at_call 12; (with_reducible refine (si.out _).mono ?_); rintro e w1 ⟨rfl, hb⟩; replace H := H.callee hb; clear hb); refine hK _ _ (H.sub (by repeat (first | exact List.Sublist.refl _ | exact List.nil_sublist _ | apply List.Sublist.cons_cons | apply List.Sublist.cons | refine List.Sublist.trans ?_ (List.sublist_append_right _ _)))) ?_; clear hK K; try simp only [Act.put, List.setIfInBounds_toArray, List.set_cons_zero, List.set_cons_succ])
          (refine' sq_call (o := ⟨_, .call _, _, _, _, _⟩) rfl rfl rfl _ _; rotate_left; (intro w'; unfold CallOf; go_simp; exact s3.out _); simp only [Act.put, List.setIfInBounds_toArray, List.set_cons_zero, List.set_cons_succ])
          (refine' sq_call (o := ⟨_, .call _, _, _, _, _⟩) rfl rfl rfl _ _; rotate_left; (intro w'; unfold CallOf; go_simp; exact s4.out _); simp only [Act.put, List.setIfInBounds_toArray, List.set_cons_zero, List.set_cons_succ])
          (refine sq_free (o := ⟨_, _, _, _, _, _⟩) (v := .agg (row 8 fun i => packI (packF q) (9 + i))) rfl rfl rfl (fun w' => by kernel_rfl) ?_; simp only [Act.put, List.setIfInBounds_toArray, List.set_cons_zero, List.set_cons_succ])
          (refine sq_free (o := ⟨_, _, _, _, _, _⟩) (v := ?_) rfl rfl rfl ?_ ?_; rotate_left; (intro w'; go_simp; try with_reducible rfl); simp only [Act.put, List.setIfInBounds_toArray, List.set_cons_zero, List.set_cons_succ])
          (refine sq_free (o := ⟨_, _, _, _, _, _⟩) (v := ?_) rfl rfl rfl ?_ ?_; rotate_left; (intro w'; go_simp; try with_reducible rfl); simp only [Act.put, List.setIfInBounds_toArray, List.set_cons_zero, List.set_cons_succ])
          refine sq_eff (o := ⟨_, .store 25 _ _, _, _, _, _⟩) rfl rfl rfl (fun K hK => ?_)
          refine wp_store_part (cs' := row 25 (packM q (9 + 8))) (k := 9) (l1 := [_, _]) H 25 _ _ rfl rfl rfl (by rw [row_size]; kernel_rfl) (by simp [row_size]) (row_one _ _) (packM_sub q 9 (by omega)) ?_
          clear H
          intro u H
          refine hK _ _ ?_; clear hK K
          simp only [Act.put, List.setIfInBounds_toArray, List.set_cons_zero, List.set_cons_succ]
          simp only [List.cons_append, List.nil_append] at H
          refine sq_nil ?_
          go_wp2
          go_roundw
          case rel => exact ⟨1, by omega, by go_num, H.tail⟩
          case measure => simp [intOf]
        · have hex := Lib.hid (packM_part q 17 (by omega))
          have s0 := Lib.hid (packC q 17 60 rfl (by omega))
          have s1 := Lib.hid (packC q 18 8 rfl (by omega))
          have s3 := Lib.hid (packC q 23 16 rfl (by omega))
          have s4 := Lib.hid (packC q 24 32 rfl (by omega))
          have si := Lib.hid (packX q 17 rfl rfl rfl rfl)
          go_wp2_with (first | ((refine wpList_on (o := ⟨_, .load 25 _, _, _, _, _⟩) rfl (fun K hK => ?_)); refine wp_load_part (n := 8) H 25 _ rfl rfl (by repeat (first | exact List.mem_cons_self | apply List.mem_cons_of_mem | apply List.mem_append_right)) (by kernel_rfl) (by rw [row_size]; omega) hex.out ?_; refine hK _ _ ?_; clear hK K) | (refine wpList_on (o := ⟨some 6, .alloc 25, _, _, _, _⟩) rfl (fun K hK => ?_); refine wp_alloc H 25 rfl (z := (.agg (row 8 fun _ => 0))) (by kernel_rfl) ?_; clear H; intro u g6 H; refine hK _ _ ?_; clear hK K; try simp only [Value.cells, List.cons_append, List.nil_append] at H) | ((refine wpList_on (o := ⟨_, .store 25 _ _, _, _, _, _⟩) rfl (fun K hK => ?_)); refine wp_store_all (l1 := []) H 25 _ _ rfl rfl rfl (by kernel_rfl) (by simp [row_size]) (row_one _ _) ?_; clear H; intro u H; refine hK _ _ ?_; clear hK K; try simp only [Value.cells, List.cons_append, List.nil_append] at H))
          refine wp_region_ordB [11] [] (fun w' => Has w w' [(g6, 25, row 8 fun i => q (17 + i))]) [] [[0, 1, 2, 3, 4, 5, 6, 7, 8, 10, 11, 13, 14, 9, 12, 15, 16, 17, 18, 19]] (by kernel_rfl) (by kernel_rfl) (by kernel_rfl) ?_; replace H := H.drew; generalize World.drew _ = u at *; simp only [List.forall_mem_cons, List.not_mem_nil, false_imp_iff, implies_true, and_true]; (repeat' refine And.intro ?_ ?_)
          (refine sq_free (o := ⟨_, _, _, _, _, _⟩) (v := ?_) rfl rfl rfl ?_ ?_; rotate_left; (intro w'; go_simp; try with_reducible rfl); simp only [Act.put, List.setIfInBounds_toArray, List.set_cons_zero, List.set_cons_succ])
          (refine sq_free (o := ⟨_, _, _, _, _, _⟩) (v := ?_) rfl rfl rfl ?_ ?_; rotate_left; (intro w'; go_simp; try with_reducible rfl); simp only [Act.put, List.setIfInBounds_toArray, List.set_cons_zero, List.set_cons_succ])
          (refine sq_load_one (o := ⟨_, .load 3 _, _, _, _, _⟩) 3 _ rfl rfl rfl rfl rfl (H.sub (by repeat (first | exact List.Sublist.refl _ | exact List.nil_sublist _ | apply List.Sublist.cons_cons | apply List.Sublist.cons | refine List.Sublist.trans ?_ (List.sublist_append_right _ _)))) (by repeat (first | exact List.mem_cons_self | apply List.mem_cons_of_mem | apply List.mem_append_right)) (by kernel_rfl) (row_get _ (by omega)) ?_; simp only [Act.put, List.setIfInBounds_toArray, List.set_cons_zero, List.set_cons_succ])
          (refine' sq_call (o := ⟨_, .call _, _, _, _, _⟩) rfl rfl rfl _ _; rotate_left; (intro w'; unfold CallOf; go_simp; exact s0.out _); simp only [Act.put, List.setIfInBounds_toArray, List.set_cons_zero, List.set_cons_succ])
          (refine sq_free (o := ⟨_, _, _, _, _, _⟩) (v := ?_) rfl rfl rfl ?_ ?_; rotate_left; (intro w'; go_simp; try with_reducible rfl); simp only [Act.put, List.setIfInBounds_toArray, List.set_cons_zero, List.set_cons_succ])
          (refine sq_load_one (o := ⟨_, .load 3 _, _, _, _, _⟩) 3 _ rfl rfl rfl rfl rfl (H.sub (by repeat (first | exact List.Sublist.refl _ | exact List.nil_sublist _ | apply List.Sublist.cons_cons | apply List.Sublist.cons | refine List.Sublist.trans ?_ (List.sublist_append_right _ _)))) (by repeat (first | exact List.mem_cons_self | apply List.mem_cons_of_mem | apply List.mem_append_right)) (by kernel_rfl) (row_get _ (by omega)) ?_; simp only [Act.put, List.setIfInBounds_toArray, List.set_cons_zero, List.set_cons_succ])
          (refine' sq_call (o := ⟨_, .call _, _, _, _, _⟩) rfl rfl rfl _ _; rotate_left; (intro w'; unfold CallOf; go_simp; exact s1.out _); simp only [Act.put, List.setIfInBounds_toArray, List.set_cons_zero, List.set_cons_succ])
          (refine sq_free (o := ⟨_, _, _, _, _, _⟩) (v := ?_) rfl rfl rfl ?_ ?_; rotate_left; (intro w'; go_simp; try with_reducible rfl); simp only [Act.put, List.setIfInBounds_toArray, List.set_cons_zero, List.set_cons_succ])
          (refine sq_load_part (k := 2) (n := 4) (v := row 4 fun i => q (19 + i)) (o := ⟨_, .load 23 _, _, _, _, _⟩) 23 _ rfl rfl rfl rfl rfl (H.sub (by repeat (first | exact List.Sublist.refl _ | exact List.nil_sublist _ | apply List.Sublist.cons_cons | apply List.Sublist.cons | refine List.Sublist.trans ?_ (List.sublist_append_right _ _)))) (by repeat (first | exact List.mem_cons_self | apply List.mem_cons_of_mem | apply List.mem_append_right)) (by kernel_rfl) (by simp [row_size]) (row_extract (n := 8) (o := 2) (m := 4) _ (by omega)) ?_; simp only [Act.put, List.setIfInBounds_toArray, List.set_cons_zero, List.set_cons_succ])
          (refine sq_free (o := ⟨_, _, _, _, _, _⟩) (v := ?_) rfl rfl rfl ?_ ?_; rotate_left; (intro w'; go_simp; try with_reducible rfl); simp only [Act.put, List.setIfInBounds_toArray, List.set_cons_zero, List.set_cons_succ])
          (refine sq_load_one (o := ⟨_, .load 3 _, _, _, _, _⟩) 3 _ rfl rfl rfl rfl rfl (H.sub (by repeat (first | exact List.Sublist.refl _ | exact List.nil_sublist _ | apply List.Sublist.cons_cons | apply List.Sublist.cons | refine List.Sublist.trans ?_ (List.sublist_append_right _ _)))) (by repeat (first | exact List.mem_cons_self | apply List.mem_cons_of_mem | apply List.mem_append_right)) (by kernel_rfl) (row_get _ (by omega)) ?_; simp only [Act.put, List.setIfInBounds_toArray, List.set_cons_zero, List.set_cons_succ])
          (refine sq_free (o := ⟨_, _, _, _, _, _⟩) (v := ?_) rfl rfl rfl ?_ ?_; rotate_left; (intro w'; go_simp; try with_reducible rfl); simp only [Act.put, List.setIfInBounds_toArray, List.set_cons_zero, List.set_cons_succ])
          (refine sq_load_one (o := ⟨_, .load 3 _, _, _, _, _⟩) 3 _ rfl rfl rfl rfl rfl (H.sub (by repeat (first | exact List.Sublist.refl _ | exact List.nil_sublist _ | apply List.Sublist.cons_cons | apply List.Sublist.cons | refine List.Sublist.trans ?_ (List.sublist_append_right _ _)))) (by repeat (first | exact List.mem_cons_self | apply List.mem_cons_of_mem | apply List.mem_append_right)) (by kernel_rfl) (row_get _ (by omega)) ?_; simp only [Act.put, List.setIfInBounds_toArray, List.set_cons_zero, List.set_cons_succ])
          (refine sq_keep (o := ⟨_, .call _, _, _, _, _⟩) rfl rfl rfl (fun K hK => ?_); go_simp; (go_at_call 12; (with_reducible refine (si.out _).mono ?_); rintro e w1 ⟨rfl, hb⟩; replace H := H.callee hb; clear hb); refine hK _ _ (H.sub (by repeat (first | exact List.Sublist.refl _ | exact List.nil_sublist _ | apply List.Sublist.cons_cons | apply List.Sublist.cons | refine List.Sublist.trans ?_ (List.sublist_append_right _ _)))) ?_; clear hK K; try simp only [Act.put, List.setIfInBounds_toArray, List.set_cons_zero, List.set_cons_succ])
          (refine' sq_call (o := ⟨_, .call _, _, _, _, _⟩) rfl rfl rfl _ _; rotate_left; (intro w'; unfold CallOf; go_simp; exact s3.out _); simp only [Act.put, List.setIfInBounds_toArray, List.set_cons_zero, List.set_cons_succ])
          (refine' sq_call (o := ⟨_, .call _, _, _, _, _⟩) rfl rfl rfl _ _; rotate_left; (intro w'; unfold CallOf; go_simp; exact s4.out _); simp only [Act.put, List.setIfInBounds_toArray, List.set_cons_zero, List.set_cons_succ])
          (refine sq_free (o := ⟨_, _, _, _, _, _⟩) (v := .agg (row 8 fun i => packI (packF q) (17 + i))) rfl rfl rfl (fun w' => by kernel_rfl) ?_; simp only [Act.put, List.setIfInBounds_toArray, List.set_cons_zero, List.set_cons_succ])
          (refine sq_free (o := ⟨_, _, _, _, _, _⟩) (v := ?_) rfl rfl rfl ?_ ?_; rotate_left; (intro w'; go_simp; try with_reducible rfl); simp only [Act.put, List.setIfInBounds_toArray, List.set_cons_zero, List.set_cons_succ])
          (refine sq_free (o := ⟨_, _, _, _, _, _⟩) (v := ?_) rfl rfl rfl ?_ ?_; rotate_left; (intro w'; go_simp; try with_reducible rfl); simp only [Act.put, List.setIfInBounds_toArray, List.set_cons_zero, List.set_cons_succ])
          refine sq_eff (o := ⟨_, .store 25 _ _, _, _, _, _⟩) rfl rfl rfl (fun K hK => ?_)
          refine wp_store_part (cs' := row 25 (packM q (17 + 8))) (k := 17) (l1 := [_, _]) H 25 _ _ rfl rfl rfl (by rw [row_size]; kernel_rfl) (by simp [row_size]) (row_one _ _) (packM_sub q 17 (by omega)) ?_
          clear H
          intro u H
          refine hK _ _ ?_; clear hK K
          simp only [Act.put, List.setIfInBounds_toArray, List.set_cons_zero, List.set_cons_succ]
          simp only [List.cons_append, List.nil_append] at H
          refine sq_nil ?_
          go_wp2
          go_roundw
          case rel => exact ⟨2, by omega, by go_num, H.tail⟩
          case measure => simp [intOf]
        · go_wp2_with (first | ((refine wpList_on (o := ⟨_, .load 28 _, _, _, _, _⟩) rfl (fun K hK => ?_)); refine wp_load_all H 28 _ rfl rfl (by repeat (first | exact List.mem_cons_self | apply List.mem_cons_of_mem | apply List.mem_append_right)) (by kernel_rfl) ?_; refine hK _ _ ?_; clear hK K) | ((refine wpList_on (o := ⟨_, .store 28 _ _, _, _, _, _⟩) rfl (fun K hK => ?_)); refine wp_store_all (l1 := []) H 28 _ _ rfl rfl rfl (by kernel_rfl) (by simp [row_size]) (row_one _ _) ?_; clear H; intro u H; refine hK _ _ ?_; clear hK K; try simp only [Value.cells, List.cons_append, List.nil_append] at H))
          have e := packM_all q
          refine bodyPost_ret (results_one rfl _ H rfl (by repeat (first | exact List.mem_cons_self | apply List.mem_cons_of_mem | apply List.mem_append_right)) (by kernel_rfl)) rfl ⟨by rw [← e], H.below⟩
end Go.Proofs.YthddmgnjahmceaaDoor
