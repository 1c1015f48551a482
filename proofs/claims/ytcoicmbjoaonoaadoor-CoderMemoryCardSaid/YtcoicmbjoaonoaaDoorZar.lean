/-
  Several texts of this claim, one behind the other: Packet, PackWalk, Expand. No statement is proved here.
-/
import Derived.Test.YtcoicmbjoaonoaaDoorZaq
import Derived.Test.YtcoicmbjoaonoaaDoorZad
import Derived.DeepKeys
import Derived.Test.YtcoicmbjoaonoaaDoorZac
/-
  packet (a packet made good) walked. No statement is proved here.
-/
namespace Go.Proofs.YtcoicmbjoaonoaaDoor
set_option linter.unusedVariables false
set_option linter.unusedSimpArgs false
open Go.RowKit
set_option maxRecDepth 100000
/-- A packet made good. -/
def packF (q : Nat → Int) (j : Nat) : Nat := (q j % ((mostF j + 1 : Nat) : Int)).toNat
theorem packF_le (q : Nat → Int) (j : Nat) : packF q j ≤ mostF j := by
  have h1 := Int.emod_nonneg (q j) (show ((mostF j + 1 : Nat) : Int) ≠ 0 by omega)
  have h2 := Int.emod_lt_of_pos (q j) (show (0 : Int) < ((mostF j + 1 : Nat) : Int) by omega)
  unfold packF
  omega
theorem packF_is (q : Nat → Int) (j : Nat) : packI (packF q) j = q j % ((mostF j + 1 : Nat) : Int) := by
  have h1 := Int.emod_nonneg (q j) (show ((mostF j + 1 : Nat) : Int) ≠ 0 by omega)
  unfold packI packF
  omega
def packM (q : Nat → Int) (k j : Nat) : Int := if j < k then packI (packF q) j else q j
theorem packM_at (q : Nat → Int) {k j : Nat} (h : k ≤ j) : packM q k j = q j := by unfold packM; rw [if_neg (by omega)]
theorem packM_zero (q : Nat → Int) : row 25 (packM q 0) = row 25 q := row_congr fun i _ => packM_at q (Nat.zero_le _)
theorem packM_one (q : Nat → Int) : (row 25 fun j => if j = 0 then packI (packF q) 0 else q j) = row 25 (packM q 1) := row_congr fun i _ => by
  unfold packM
  by_cases e : i = 0
  · rw [if_pos e, if_pos (by omega), e]
  · rw [if_neg e, if_neg (by omega)]
theorem packM_all (q : Nat → Int) : row 25 (packM q 25) = row 25 (packI (packF q)) := row_congr fun i hi => by unfold packM; rw [if_pos hi]
theorem packM_next (q : Nat → Int) (k : Nat) : row 25 (packM q (k + 1)) = row 25 fun j => if j = k then packI (packF q) k else packM q k j := row_congr fun i _ => by
  unfold packM
  by_cases e : i = k
  · rw [if_pos e, if_pos (by omega), e]
  · rw [if_neg e]
    by_cases h : i < k
    · rw [if_pos h, if_pos (by omega)]
    · rw [if_neg h, if_neg (by omega)]
def roomL (i : Nat) : Int := ((mostF (i + 1) + 1 : Nat) : Int)
theorem packM_sub (q : Nat → Int) (o : Nat) (ho : o + 8 ≤ 25) : patch (row 25 (packM q o)) o (row 8 fun i => packI (packF q) (o + i)).toList = row 25 (packM q (o + 8)) := by
  rw [row_patch _ _ ho]
  refine row_congr fun i _ => ?_
  unfold packM
  by_cases h : o ≤ i ∧ i < o + 8
  · rw [if_pos h, if_pos (by omega), show o + (i - o) = i by omega]
  · rw [if_neg h]
    by_cases h1 : i < o
    · rw [if_pos h1, if_pos (by omega)]
    · rw [if_neg h1, if_neg (by omega)]
theorem packM_part (q : Nat → Int) (o : Nat) (ho : o + 8 ≤ 25) : (row 25 (packM q o)).extract o (o + 8) = row 8 fun i => q (o + i) := by
  rw [row_extract _ ho]
  exact row_congr fun i _ => packM_at q (by omega)
theorem packC (q : Nat → Int) (j : Nat) (n : Int) (hn : ((mostF j + 1 : Nat) : Int) = n) (h0 : 0 < n ∧ n ≤ 100) (w : World) : Calls Tryd.prog 53 #[.int .i64 (q j), .int .i64 n] w fun e w' => e = .returned (.int .i64 (packI (packF q) j)) ∧ w = w' := by
  rw [packF_is, hn]
  exact spot_any _ _ w (by omega) (by omega)
theorem packX (q : Nat → Int) (o : Nat) (h0 : mostF (o + 2 + 0) = 9) (h1 : mostF (o + 2 + 1) = 9) (h2 : mostF (o + 2 + 2) = 9) (h3 : mostF (o + 2 + 3) = 9) (w : World) : Calls Tryd.prog 54 #[.agg (row 4 fun i => q (o + 2 + i))] w fun e w' => e = .returned (.agg (row 4 fun i => packI (packF q) (o + 2 + i))) ∧ Below w.heap.size w w' := by
  have e : row 4 (fun i => packI (packF q) (o + 2 + i)) = row 4 (indexI fun i => q (o + 2 + i)) := row_congr fun i hi => by
    have hm : mostF (o + 2 + i) = 9 := by
      have : i = 0 ∨ i = 1 ∨ i = 2 ∨ i = 3 := by omega
      rcases this with rfl | rfl | rfl | rfl <;> assumption
    rw [packF_is, hm]; rfl
  rw [e]
  exact index_any _ w
set_option maxHeartbeats 6400000 in
set_option maxRecDepth 100000 in
theorem packet_any (q : Nat → Int) (w : World) : Calls Tryd.prog 22 #[.agg (row 25 q)] w fun e w' => e = .returned (.agg (row 25 (packI (packF q)))) ∧ Below w.heap.size w w' := by
  have H := Has.start w
  have c0 : ∀ w : World, Calls Tryd.prog 53 #[.int .i64 (q 0), .int .i64 3] w fun e w' => e = .returned (.int .i64 (packI (packF q) 0)) ∧ w = w' := fun w => by rw [packF_is]; exact spot_any _ _ w (by omega) (by omega)
  have C0 := Lib.hid c0
  clear c0
  go_enter Tryd.func22, Tryd.ntmps22
  go_wp2_with (first | ((refine wpList_on (o := ⟨_, .box _ (.tmp 0), _, _, _, _⟩) rfl (fun K hK => ?_)); (try simp only [Act.put, List.setIfInBounds_toArray, List.set_cons_zero, List.set_cons_succ]); refine wp_box H _ (.tmp 0) rfl (v := .agg _) rfl ?_; clear H; intro u gp H; refine hK _ _ ?_; clear hK K; try simp only [Value.cells, List.cons_append, List.nil_append] at H) | (refine wpList_on (o := ⟨some 2, .alloc 44, _, _, _, _⟩) rfl (fun K hK => ?_); refine wp_alloc H 44 rfl (z := (.agg (row 25 fun _ => 0))) (by kernel_rfl) ?_; clear H; intro u gr H; refine hK _ _ ?_; clear hK K; try simp only [Value.cells, List.cons_append, List.nil_append] at H) | ((refine wpList_on (o := ⟨_, .load 3 _, _, _, _, _⟩) rfl (fun K hK => ?_)); (try simp only [Act.put, List.setIfInBounds_toArray, List.set_cons_zero, List.set_cons_succ]); refine wp_load_one H 3 _ rfl rfl (by repeat (first | exact List.mem_cons_self | apply List.mem_cons_of_mem | apply List.mem_append_right)) (by kernel_rfl) (row_get _ (by omega)) ?_; refine hK _ _ ?_; clear hK K) | (go_at_call 53; (with_reducible refine (C0.out _).mono ?_); rintro e w1 ⟨rfl, rfl⟩) | ((refine wpList_on (o := ⟨_, .store 3 _ _, _, _, _, _⟩) rfl (fun K hK => ?_)); (try simp only [Act.put, List.setIfInBounds_toArray, List.set_cons_zero, List.set_cons_succ]); refine wp_store_row_ (l1 := [_]) H 3 _ _ rfl rfl rfl (by kernel_rfl) (by omega) ?_; clear H; intro u H; refine hK _ _ ?_; clear hK K; try simp only [Value.cells, List.cons_append, List.nil_append] at H))
  rw [packM_one] at H
  have hA : #[Value.int .i64 64, .int .i64 64, .int .i64 32, .int .i64 32, .int .i64 16, .int .i64 16, .int .i64 8, .int .i64 8] = row 8 roomL := rfl
  rw [hA]
  clear hA C0
  go_loopw [12] (fun c wr => ∃ k : Nat, k ≤ 8 ∧ c = .int .i64 k ∧ Has w wr [(gr, 44, row 25 fun _ => 0), (gp, 44, row 25 (packM q (1 + k)))]) (fun c _ => 8 - (intOf c).toNat)
  case atStart => exact ⟨0, by omega, rfl, H⟩
  clear H
  case round =>
    obtain ⟨k, hk, rfl, H⟩ := hrel
    by_cases hlt : k < 8
    · have hix := fun w => run_index_row (P := Tryd.prog) (n := 8) (i := k) Tryd.underlying26 Tryd.underlying3 (by kernel_rfl) (by kernel_rfl) roomL hlt w
      have hm := packM_at q (Nat.le_refl (1 + k))
      have c1 : ∀ w : World, Calls Tryd.prog 53 #[.int .i64 (packM q (1 + k) (1 + k)), .int .i64 (roomL k)] w fun e w' => e = .returned (.int .i64 (packI (packF q) (1 + k))) ∧ w = w' := fun w => by
        have h1 : mostF (k + 1) ≤ 63 := by
          have : ∀ k < 8, mostF (k + 1) ≤ 63 := by decide
          exact this k hlt
        rw [packF_is, hm, Nat.add_comm 1 k]; exact spot_any _ _ w (by unfold roomL; omega) (by unfold roomL; omega)
      have C1 := Lib.hid c1
      clear c1 hm
      generalize roomL k = rk at *
      generalize hpk : packM q (1 + k) (1 + k) = pk at *
      go_wp2_with (first | ((refine wpList_on (o := ⟨_, .load 3 _, _, _, _, _⟩) rfl (fun K hK => ?_)); refine wp_load_one (v := .int .i64 pk) H 3 _ rfl rfl (by repeat (first | exact List.mem_cons_self | apply List.mem_cons_of_mem | apply List.mem_append_right)) (by kernel_rfl) (by rw [← hpk]; exact row_get _ (by omega)) ?_; refine hK _ _ ?_; clear hK K) | (go_at_call 53; (with_reducible refine (C1.out _).mono ?_); rintro e w1 ⟨rfl, rfl⟩) | ((refine wpList_on (o := ⟨_, .store 3 _ _, _, _, _, _⟩) rfl (fun K hK => ?_)); (try simp only [Act.put, List.setIfInBounds_toArray, List.set_cons_zero, List.set_cons_succ]); refine wp_store_row_ (l1 := [_]) H 3 _ _ rfl rfl rfl (by kernel_rfl) (by omega) ?_; clear H; intro u H; refine hK _ _ ?_; clear hK K; try simp only [Value.cells, List.cons_append, List.nil_append] at H))
      go_roundw
      case rel => exact ⟨k + 1, by omega, by go_num, by rw [← Nat.add_assoc, packM_next q (1 + k)]; exact H⟩
      case measure => simp [intOf]; omega
    · obtain rfl : k = 8 := by omega
      go_wp2
      simp only [show ((8 : Nat) : Int) = 8 from rfl]
      go_loopw [26] (fun c wr => ∃ k : Nat, k ≤ 2 ∧ c = .int .i64 k ∧ Has w wr [(gr, 44, row 25 fun _ => 0), (gp, 44, row 25 (packM q (9 + 8 * k)))]) (fun c _ => 2 - (intOf c).toNat)
      case atStart => exact ⟨0, by omega, rfl, H⟩
      clear H
      case round =>
        obtain ⟨k, hk, rfl, H⟩ := hrel
        obtain rfl | rfl | rfl : k = 0 ∨ k = 1 ∨ k = 2 := by omega
        · have hex := Lib.hid (packM_part q 9 (by omega))
          have s0 := Lib.hid (packC q 9 60 rfl (by omega))
          have s1 := Lib.hid (packC q 10 8 rfl (by omega))
          have s3 := Lib.hid (packC q 15 16 rfl (by omega))
          have s4 := Lib.hid (packC q 16 32 rfl (by omega))
          have si := Lib.hid (packX q 9 rfl rfl rfl rfl)
          go_wp2_with (first | ((refine wpList_on (o := ⟨_, .load 41 _, _, _, _, _⟩) rfl (fun K hK => ?_)); (try simp only [Act.put, List.setIfInBounds_toArray, List.set_cons_zero, List.set_cons_succ]); refine wp_load_part (n := 8) H 41 _ rfl rfl (by repeat (first | exact List.mem_cons_self | apply List.mem_cons_of_mem | apply List.mem_append_right)) (by kernel_rfl) (by rw [row_size]; omega) hex.out ?_; refine hK _ _ ?_; clear hK K) | (refine wpList_on (o := ⟨some 6, .alloc 41, _, _, _, _⟩) rfl (fun K hK => ?_); refine wp_alloc H 41 rfl (z := (.agg (row 8 fun _ => 0))) (by kernel_rfl) ?_; clear H; intro u g6 H; refine hK _ _ ?_; clear hK K; try simp only [Value.cells, List.cons_append, List.nil_append] at H) | ((refine wpList_on (o := ⟨_, .store 41 _ _, _, _, _, _⟩) rfl (fun K hK => ?_)); (try simp only [Act.put, List.setIfInBounds_toArray, List.set_cons_zero, List.set_cons_succ]); refine wp_store_all (l1 := []) H 41 _ _ rfl rfl rfl (by kernel_rfl) (by simp [row_size]) (row_one _ _) ?_; clear H; intro u H; refine hK _ _ ?_; clear hK K; try simp only [Value.cells, List.cons_append, List.nil_append] at H))
          refine wp_region_ordB [53] [] (fun w' => Has w w' [(g6, 41, row 8 fun i => q (9 + i))]) [] [[0, 1, 2, 3, 4, 5, 6, 7, 8, 10, 11, 13, 14, 9, 12, 15, 16, 17, 18, 19]] (by kernel_rfl) (by kernel_rfl) (by kernel_rfl) ?_; replace H := H.drew; generalize World.drew _ = u at *; simp only [List.forall_mem_cons, List.not_mem_nil, false_imp_iff, implies_true, and_true]; (repeat' refine And.intro ?_ ?_)
          (refine sq_free (o := ⟨_, _, _, _, _, _⟩) (v := ?_) rfl rfl rfl ?_ ?_; rotate_left; (intro w'; go_simp; try with_reducible rfl); simp only [Act.put, List.setIfInBounds_toArray, List.set_cons_zero, List.set_cons_succ])
          (refine sq_free (o := ⟨_, _, _, _, _, _⟩) (v := ?_) rfl rfl rfl ?_ ?_; rotate_left; (intro w'; go_simp; try with_reducible rfl); simp only [Act.put, List.setIfInBounds_toArray, List.set_cons_zero, List.set_cons_succ])
          (refine sq_load_one (o := ⟨_, .load 3 _, _, _, _, _⟩) 3 _ rfl rfl rfl rfl rfl (H.sub (by repeat (first | exact List.Sublist.refl _ | exact List.nil_sublist _ | apply List.Sublist.cons_cons | apply List.Sublist.cons | refine List.Sublist.trans ?_ (List.sublist_append_right _ _)))) (by repeat (first | exact List.mem_cons_self | apply List.mem_cons_of_mem | apply List.mem_append_right)) (by kernel_rfl) (row_get _ (by omega)) ?_; simp only [Act.put, List.setIfInBounds_toArray, List.set_cons_zero, List.set_cons_succ])
          (refine' sq_call (o := ⟨_, .call _, _, _, _, _⟩) rfl rfl rfl _ _; rotate_left; (intro w'; unfold CallOf; go_simp; exact s0.out _); simp only [Act.put, List.setIfInBounds_toArray, List.set_cons_zero, List.set_cons_succ])
          (refine sq_free (o := ⟨_, _, _, _, _, _⟩) (v := ?_) rfl rfl rfl ?_ ?_; rotate_left; (intro w'; go_simp; try with_reducible rfl); simp only [Act.put, List.setIfInBounds_toArray, List.set_cons_zero, List.set_cons_succ])
          (refine sq_load_one (o := ⟨_, .load 3 _, _, _, _, _⟩) 3 _ rfl rfl rfl rfl rfl (H.sub (by repeat (first | exact List.Sublist.refl _ | exact List.nil_sublist _ | apply List.Sublist.cons_cons | apply List.Sublist.cons | refine List.Sublist.trans ?_ (List.sublist_append_right _ _)))) (by repeat (first | exact List.mem_cons_self | apply List.mem_cons_of_mem | apply List.mem_append_right)) (by kernel_rfl) (row_get _ (by omega)) ?_; simp only [Act.put, List.setIfInBounds_toArray, List.set_cons_zero, List.set_cons_succ])
          (refine' sq_call (o := ⟨_, .call _, _, _, _, _⟩) rfl rfl rfl _ _; rotate_left; (intro w'; unfold CallOf; go_simp; exact s1.out _); simp only [Act.put, List.setIfInBounds_toArray, List.set_cons_zero, List.set_cons_succ])
          (refine sq_free (o := ⟨_, _, _, _, _, _⟩) (v := ?_) rfl rfl rfl ?_ ?_; rotate_left; (intro w'; go_simp; try with_reducible rfl); simp only [Act.put, List.setIfInBounds_toArray, List.set_cons_zero, List.set_cons_succ])
          (refine sq_load_part (k := 2) (n := 4) (v := row 4 fun i => q (11 + i)) (o := ⟨_, .load 39 _, _, _, _, _⟩) 39 _ rfl rfl rfl rfl rfl (H.sub (by repeat (first | exact List.Sublist.refl _ | exact List.nil_sublist _ | apply List.Sublist.cons_cons | apply List.Sublist.cons | refine List.Sublist.trans ?_ (List.sublist_append_right _ _)))) (by repeat (first | exact List.mem_cons_self | apply List.mem_cons_of_mem | apply List.mem_append_right)) (by kernel_rfl) (by simp [row_size]) (row_extract (n := 8) (o := 2) (m := 4) _ (by omega)) ?_; simp only [Act.put, List.setIfInBounds_toArray, List.set_cons_zero, List.set_cons_succ])
          (refine sq_free (o := ⟨_, _, _, _, _, _⟩) (v := ?_) rfl rfl rfl ?_ ?_; rotate_left; (intro w'; go_simp; try with_reducible rfl); simp only [Act.put, List.setIfInBounds_toArray, List.set_cons_zero, List.set_cons_succ])
          (refine sq_load_one (o := ⟨_, .load 3 _, _, _, _, _⟩) 3 _ rfl rfl rfl rfl rfl (H.sub (by repeat (first | exact List.Sublist.refl _ | exact List.nil_sublist _ | apply List.Sublist.cons_cons | apply List.Sublist.cons | refine List.Sublist.trans ?_ (List.sublist_append_right _ _)))) (by repeat (first | exact List.mem_cons_self | apply List.mem_cons_of_mem | apply List.mem_append_right)) (by kernel_rfl) (row_get _ (by omega)) ?_; simp only [Act.put, List.setIfInBounds_toArray, List.set_cons_zero, List.set_cons_succ])
          (refine sq_free (o := ⟨_, _, _, _, _, _⟩) (v := ?_) rfl rfl rfl ?_ ?_; rotate_left; (intro w'; go_simp; try with_reducible rfl); simp only [Act.put, List.setIfInBounds_toArray, List.set_cons_zero, List.set_cons_succ])
          (refine sq_load_one (o := ⟨_, .load 3 _, _, _, _, _⟩) 3 _ rfl rfl rfl rfl rfl (H.sub (by repeat (first | exact List.Sublist.refl _ | exact List.nil_sublist _ | apply List.Sublist.cons_cons | apply List.Sublist.cons | refine List.Sublist.trans ?_ (List.sublist_append_right _ _)))) (by repeat (first | exact List.mem_cons_self | apply List.mem_cons_of_mem | apply List.mem_append_right)) (by kernel_rfl) (row_get _ (by omega)) ?_; simp only [Act.put, List.setIfInBounds_toArray, List.set_cons_zero, List.set_cons_succ])
          (refine sq_keep (o := ⟨_, .call _, _, _, _, _⟩) rfl rfl rfl (fun K hK => ?_); go_simp; (go_at_call 54; (with_reducible refine (si.out _).mono ?_); rintro e w1 ⟨rfl, hb⟩; replace H := H.callee hb; clear hb); refine hK _ _ (H.sub (by repeat (first | exact List.Sublist.refl _ | exact List.nil_sublist _ | apply List.Sublist.cons_cons | apply List.Sublist.cons | refine List.Sublist.trans ?_ (List.sublist_append_right _ _)))) ?_; clear hK K; try simp only [Act.put, List.setIfInBounds_toArray, List.set_cons_zero, List.set_cons_succ])
          (refine' sq_call (o := ⟨_, .call _, _, _, _, _⟩) rfl rfl rfl _ _; rotate_left; (intro w'; unfold CallOf; go_simp; exact s3.out _); simp only [Act.put, List.setIfInBounds_toArray, List.set_cons_zero, List.set_cons_succ])
          (refine' sq_call (o := ⟨_, .call _, _, _, _, _⟩) rfl rfl rfl _ _; rotate_left; (intro w'; unfold CallOf; go_simp; exact s4.out _); simp only [Act.put, List.setIfInBounds_toArray, List.set_cons_zero, List.set_cons_succ])
          (refine sq_free (o := ⟨_, _, _, _, _, _⟩) (v := .agg (row 8 fun i => packI (packF q) (9 + i))) rfl rfl rfl (fun w' => by kernel_rfl) ?_; simp only [Act.put, List.setIfInBounds_toArray, List.set_cons_zero, List.set_cons_succ])
          (refine sq_free (o := ⟨_, _, _, _, _, _⟩) (v := ?_) rfl rfl rfl ?_ ?_; rotate_left; (intro w'; go_simp; try with_reducible rfl); simp only [Act.put, List.setIfInBounds_toArray, List.set_cons_zero, List.set_cons_succ])
          (refine sq_free (o := ⟨_, _, _, _, _, _⟩) (v := ?_) rfl rfl rfl ?_ ?_; rotate_left; (intro w'; go_simp; try with_reducible rfl); simp only [Act.put, List.setIfInBounds_toArray, List.set_cons_zero, List.set_cons_succ])
          refine sq_eff (o := ⟨_, .store 41 _ _, _, _, _, _⟩) rfl rfl rfl (fun K hK => ?_)
          refine wp_store_part (cs' := row 25 (packM q (9 + 8))) (k := 9) (l1 := [_, _]) H 41 _ _ rfl rfl rfl (by rw [row_size]; kernel_rfl) (by simp [row_size]) (row_one _ _) (packM_sub q 9 (by omega)) ?_
          clear H
          intro u H
          refine hK _ _ ?_; clear hK K
          simp only [Act.put, List.setIfInBounds_toArray, List.set_cons_zero, List.set_cons_succ]
          simp only [List.cons_append, List.nil_append] at H
          refine sq_nil ?_
          go_wp2
          go_roundw
          case rel => exact ⟨1, by omega, by go_num, H.tail⟩
          case measure => simp [intOf]
        · have hex := Lib.hid (packM_part q 17 (by omega))
          have s0 := Lib.hid (packC q 17 60 rfl (by omega))
          have s1 := Lib.hid (packC q 18 8 rfl (by omega))
          have s3 := Lib.hid (packC q 23 16 rfl (by omega))
          have s4 := Lib.hid (packC q 24 32 rfl (by omega))
          have si := Lib.hid (packX q 17 rfl rfl rfl rfl)
          go_wp2_with (first | ((refine wpList_on (o := ⟨_, .load 41 _, _, _, _, _⟩) rfl (fun K hK => ?_)); (try simp only [Act.put, List.setIfInBounds_toArray, List.set_cons_zero, List.set_cons_succ]); refine wp_load_part (n := 8) H 41 _ rfl rfl (by repeat (first | exact List.mem_cons_self | apply List.mem_cons_of_mem | apply List.mem_append_right)) (by kernel_rfl) (by rw [row_size]; omega) hex.out ?_; refine hK _ _ ?_; clear hK K) | (refine wpList_on (o := ⟨some 6, .alloc 41, _, _, _, _⟩) rfl (fun K hK => ?_); refine wp_alloc H 41 rfl (z := (.agg (row 8 fun _ => 0))) (by kernel_rfl) ?_; clear H; intro u g6 H; refine hK _ _ ?_; clear hK K; try simp only [Value.cells, List.cons_append, List.nil_append] at H) | ((refine wpList_on (o := ⟨_, .store 41 _ _, _, _, _, _⟩) rfl (fun K hK => ?_)); (try simp only [Act.put, List.setIfInBounds_toArray, List.set_cons_zero, List.set_cons_succ]); refine wp_store_all (l1 := []) H 41 _ _ rfl rfl rfl (by kernel_rfl) (by simp [row_size]) (row_one _ _) ?_; clear H; intro u H; refine hK _ _ ?_; clear hK K; try simp only [Value.cells, List.cons_append, List.nil_append] at H))
          refine wp_region_ordB [53] [] (fun w' => Has w w' [(g6, 41, row 8 fun i => q (17 + i))]) [] [[0, 1, 2, 3, 4, 5, 6, 7, 8, 10, 11, 13, 14, 9, 12, 15, 16, 17, 18, 19]] (by kernel_rfl) (by kernel_rfl) (by kernel_rfl) ?_; replace H := H.drew; generalize World.drew _ = u at *; simp only [List.forall_mem_cons, List.not_mem_nil, false_imp_iff, implies_true, and_true]; (repeat' refine And.intro ?_ ?_)
          (refine sq_free (o := ⟨_, _, _, _, _, _⟩) (v := ?_) rfl rfl rfl ?_ ?_; rotate_left; (intro w'; go_simp; try with_reducible rfl); simp only [Act.put, List.setIfInBounds_toArray, List.set_cons_zero, List.set_cons_succ])
          (refine sq_free (o := ⟨_, _, _, _, _, _⟩) (v := ?_) rfl rfl rfl ?_ ?_; rotate_left; (intro w'; go_simp; try with_reducible rfl); simp only [Act.put, List.setIfInBounds_toArray, List.set_cons_zero, List.set_cons_succ])
          (refine sq_load_one (o := ⟨_, .load 3 _, _, _, _, _⟩) 3 _ rfl rfl rfl rfl rfl (H.sub (by repeat (first | exact List.Sublist.refl _ | exact List.nil_sublist _ | apply List.Sublist.cons_cons | apply List.Sublist.cons | refine List.Sublist.trans ?_ (List.sublist_append_right _ _)))) (by repeat (first | exact List.mem_cons_self | apply List.mem_cons_of_mem | apply List.mem_append_right)) (by kernel_rfl) (row_get _ (by omega)) ?_; simp only [Act.put, List.setIfInBounds_toArray, List.set_cons_zero, List.set_cons_succ])
          (refine' sq_call (o := ⟨_, .call _, _, _, _, _⟩) rfl rfl rfl _ _; rotate_left; (intro w'; unfold CallOf; go_simp; exact s0.out _); simp only [Act.put, List.setIfInBounds_toArray, List.set_cons_zero, List.set_cons_succ])
          (refine sq_free (o := ⟨_, _, _, _, _, _⟩) (v := ?_) rfl rfl rfl ?_ ?_; rotate_left; (intro w'; go_simp; try with_reducible rfl); simp only [Act.put, List.setIfInBounds_toArray, List.set_cons_zero, List.set_cons_succ])
          (refine sq_load_one (o := ⟨_, .load 3 _, _, _, _, _⟩) 3 _ rfl rfl rfl rfl rfl (H.sub (by repeat (first | exact List.Sublist.refl _ | exact List.nil_sublist _ | apply List.Sublist.cons_cons | apply List.Sublist.cons | refine List.Sublist.trans ?_ (List.sublist_append_right _ _)))) (by repeat (first | exact List.mem_cons_self | apply List.mem_cons_of_mem | apply List.mem_append_right)) (by kernel_rfl) (row_get _ (by omega)) ?_; simp only [Act.put, List.setIfInBounds_toArray, List.set_cons_zero, List.set_cons_succ])
          (refine' sq_call (o := ⟨_, .call _, _, _, _, _⟩) rfl rfl rfl _ _; rotate_left; (intro w'; unfold CallOf; go_simp; exact s1.out _); simp only [Act.put, List.setIfInBounds_toArray, List.set_cons_zero, List.set_cons_succ])
          (refine sq_free (o := ⟨_, _, _, _, _, _⟩) (v := ?_) rfl rfl rfl ?_ ?_; rotate_left; (intro w'; go_simp; try with_reducible rfl); simp only [Act.put, List.setIfInBounds_toArray, List.set_cons_zero, List.set_cons_succ])
          (refine sq_load_part (k := 2) (n := 4) (v := row 4 fun i => q (19 + i)) (o := ⟨_, .load 39 _, _, _, _, _⟩) 39 _ rfl rfl rfl rfl rfl (H.sub (by repeat (first | exact List.Sublist.refl _ | exact List.nil_sublist _ | apply List.Sublist.cons_cons | apply List.Sublist.cons | refine List.Sublist.trans ?_ (List.sublist_append_right _ _)))) (by repeat (first | exact List.mem_cons_self | apply List.mem_cons_of_mem | apply List.mem_append_right)) (by kernel_rfl) (by simp [row_size]) (row_extract (n := 8) (o := 2) (m := 4) _ (by omega)) ?_; simp only [Act.put, List.setIfInBounds_toArray, List.set_cons_zero, List.set_cons_succ])
          (refine sq_free (o := ⟨_, _, _, _, _, _⟩) (v := ?_) rfl rfl rfl ?_ ?_; rotate_left; (intro w'; go_simp; try with_reducible rfl); simp only [Act.put, List.setIfInBounds_toArray, List.set_cons_zero, List.set_cons_succ])
          (refine sq_load_one (o := ⟨_, .load 3 _, _, _, _, _⟩) 3 _ rfl rfl rfl rfl rfl (H.sub (by repeat (first | exact List.Sublist.refl _ | exact List.nil_sublist _ | apply List.Sublist.cons_cons | apply List.Sublist.cons | refine List.Sublist.trans ?_ (List.sublist_append_right _ _)))) (by repeat (first | exact List.mem_cons_self | apply List.mem_cons_of_mem | apply List.mem_append_right)) (by kernel_rfl) (row_get _ (by omega)) ?_; simp only [Act.put, List.setIfInBounds_toArray, List.set_cons_zero, List.set_cons_succ])
          (refine sq_free (o := ⟨_, _, _, _, _, _⟩) (v := ?_) rfl rfl rfl ?_ ?_; rotate_left; (intro w'; go_simp; try with_reducible rfl); simp only [Act.put, List.setIfInBounds_toArray, List.set_cons_zero, List.set_cons_succ])
          (refine sq_load_one (o := ⟨_, .load 3 _, _, _, _, _⟩) 3 _ rfl rfl rfl rfl rfl (H.sub (by repeat (first | exact List.Sublist.refl _ | exact List.nil_sublist _ | apply List.Sublist.cons_cons | apply List.Sublist.cons | refine List.Sublist.trans ?_ (List.sublist_append_right _ _)))) (by repeat (first | exact List.mem_cons_self | apply List.mem_cons_of_mem | apply List.mem_append_right)) (by kernel_rfl) (row_get _ (by omega)) ?_; simp only [Act.put, List.setIfInBounds_toArray, List.set_cons_zero, List.set_cons_succ])
          (refine sq_keep (o := ⟨_, .call _, _, _, _, _⟩) rfl rfl rfl (fun K hK => ?_); go_simp; (go_at_call 54; (with_reducible refine (si.out _).mono ?_); rintro e w1 ⟨rfl, hb⟩; replace H := H.callee hb; clear hb); refine hK _ _ (H.sub (by repeat (first | exact List.Sublist.refl _ | exact List.nil_sublist _ | apply List.Sublist.cons_cons | apply List.Sublist.cons | refine List.Sublist.trans ?_ (List.sublist_append_right _ _)))) ?_; clear hK K; try simp only [Act.put, List.setIfInBounds_toArray, List.set_cons_zero, List.set_cons_succ])
          (refine' sq_call (o := ⟨_, .call _, _, _, _, _⟩) rfl rfl rfl _ _; rotate_left; (intro w'; unfold CallOf; go_simp; exact s3.out _); simp only [Act.put, List.setIfInBounds_toArray, List.set_cons_zero, List.set_cons_succ])
          (refine' sq_call (o := ⟨_, .call _, _, _, _, _⟩) rfl rfl rfl _ _; rotate_left; (intro w'; unfold CallOf; go_simp; exact s4.out _); simp only [Act.put, List.setIfInBounds_toArray, List.set_cons_zero, List.set_cons_succ])
          (refine sq_free (o := ⟨_, _, _, _, _, _⟩) (v := .agg (row 8 fun i => packI (packF q) (17 + i))) rfl rfl rfl (fun w' => by kernel_rfl) ?_; simp only [Act.put, List.setIfInBounds_toArray, List.set_cons_zero, List.set_cons_succ])
          (refine sq_free (o := ⟨_, _, _, _, _, _⟩) (v := ?_) rfl rfl rfl ?_ ?_; rotate_left; (intro w'; go_simp; try with_reducible rfl); simp only [Act.put, List.setIfInBounds_toArray, List.set_cons_zero, List.set_cons_succ])
          (refine sq_free (o := ⟨_, _, _, _, _, _⟩) (v := ?_) rfl rfl rfl ?_ ?_; rotate_left; (intro w'; go_simp; try with_reducible rfl); simp only [Act.put, List.setIfInBounds_toArray, List.set_cons_zero, List.set_cons_succ])
          refine sq_eff (o := ⟨_, .store 41 _ _, _, _, _, _⟩) rfl rfl rfl (fun K hK => ?_)
          refine wp_store_part (cs' := row 25 (packM q (17 + 8))) (k := 17) (l1 := [_, _]) H 41 _ _ rfl rfl rfl (by rw [row_size]; kernel_rfl) (by simp [row_size]) (row_one _ _) (packM_sub q 17 (by omega)) ?_
          clear H
          intro u H
          refine hK _ _ ?_; clear hK K
          simp only [Act.put, List.setIfInBounds_toArray, List.set_cons_zero, List.set_cons_succ]
          simp only [List.cons_append, List.nil_append] at H
          refine sq_nil ?_
          go_wp2
          go_roundw
          case rel => exact ⟨2, by omega, by go_num, H.tail⟩
          case measure => simp [intOf]
        · go_wp2_with (first | ((refine wpList_on (o := ⟨_, .load 44 _, _, _, _, _⟩) rfl (fun K hK => ?_)); (try simp only [Act.put, List.setIfInBounds_toArray, List.set_cons_zero, List.set_cons_succ]); refine wp_load_all H 44 _ rfl rfl (by repeat (first | exact List.mem_cons_self | apply List.mem_cons_of_mem | apply List.mem_append_right)) (by kernel_rfl) ?_; refine hK _ _ ?_; clear hK K) | ((refine wpList_on (o := ⟨_, .store 44 _ _, _, _, _, _⟩) rfl (fun K hK => ?_)); (try simp only [Act.put, List.setIfInBounds_toArray, List.set_cons_zero, List.set_cons_succ]); refine wp_store_all (l1 := []) H 44 _ _ rfl rfl rfl (by kernel_rfl) (by simp [row_size]) (row_one _ _) ?_; clear H; intro u H; refine hK _ _ ?_; clear hK K; try simp only [Value.cells, List.cons_append, List.nil_append] at H))
          have e := packM_all q
          refine bodyPost_ret (results_one rfl _ H rfl (by repeat (first | exact List.mem_cons_self | apply List.mem_cons_of_mem | apply List.mem_append_right)) (by kernel_rfl)) rfl ⟨by rw [← e], H.below⟩
end Go.Proofs.YtcoicmbjoaonoaaDoor
/-
  PackBack, PackTurned walked. No statement is proved here.
-/
namespace Go.Proofs.YtcoicmbjoaonoaaDoor
set_option linter.unusedVariables false
set_option linter.unusedSimpArgs false
open Go.RowKit
set_option maxRecDepth 100000
/-- A value is equal to itself, where its type is flat. -/
theorem eql_same {P : Program} {t : TypeId} {m : Nat} (hm : m ≤ 10000) (hk : P.keyTypeAt m t = true) {cs : Array Value} (hf : (Value.agg cs).formed P t = true) (D : Nat) (hl : (P.keyLits D t cs.toList).isSome = true) (w : World) :
    (binOp .eql t (.agg cs) (.agg cs)).run P w = .ok (.bool true) w := by
  obtain ⟨L, hL⟩ := Option.isSome_iff_exists.1 hl
  obtain ⟨r, hr, hiff⟩ := run_equalIn_deep (P := P) (10000 - m) m t hk w D D (.agg cs) (.agg cs) L L hf hf hL hL
  rw [show 10000 - m + m = 10000 by omega] at hr
  rw [run_eql_struct, hr, hiff.2 rfl]
  rfl
theorem eqIn_rows {P : Program} {t e : TypeId} {k : IntKind} {i : TypeInfo} {n : Nat} (ht : P.underlying t = some (.array n e)) (he : P.underlying e = some (.int k)) (hi : P.info? e = some i) (hc : P.cellsOf e = 1) (w : World) (f : Nat → Int) (d : Nat) :
    (Op.equalIn (d + 2) t (.agg (row n f)) (.agg (row n f))).run P w = .ok true w := by
  rw [run_equalIn_array w (d + 1) (row n f) (row n f) ht hi, hc, run_eqItems_row w d he n f f _ (by simp)]
  have := rowEq_of (n := n) (f := f) (g := f) (fun _ _ => rfl)
  unfold rowEq at this
  exact congrArg (fun b => Result.ok b w) this
theorem sub_eqIn (f : Nat → Int) (w : World) : (Op.equalIn 9998 41 (.agg #[.int .i64 (f 0), .int .i64 (f 1), .int .i64 (f 2), .int .i64 (f 3), .int .i64 (f 4), .int .i64 (f 5), .int .i64 (f 6), .int .i64 (f 7)]) (.agg #[.int .i64 (f 0), .int .i64 (f 1), .int .i64 (f 2), .int .i64 (f 3), .int .i64 (f 4), .int .i64 (f 5), .int .i64 (f 6), .int .i64 (f 7)])).run Tryd.prog w = .ok true w := by
  have e1 := fun w => eqIn_rows (P := Tryd.prog) (t := 39) Tryd.underlying39 Tryd.underlying3 (info_some (by kernel_rfl)) (by kernel_rfl) w (fun i => f (2 + i)) 9995
  have r1 : row 4 (fun i => f (2 + i)) = #[.int .i64 (f 2), .int .i64 (f 3), .int .i64 (f 4), .int .i64 (f 5)] := rfl
  rw [r1] at e1
  rw [run_equalIn_struct w 9997 41 _ _ (by kernel_rfl) (by kernel_rfl)]
  go_simp
theorem subs_eqIn (f : Nat → Int) (w : World) : (Op.equalIn 9999 42 (.agg #[.int .i64 (f 0), .int .i64 (f 1), .int .i64 (f 2), .int .i64 (f 3), .int .i64 (f 4), .int .i64 (f 5), .int .i64 (f 6), .int .i64 (f 7), .int .i64 (f 8), .int .i64 (f 9), .int .i64 (f 10), .int .i64 (f 11), .int .i64 (f 12), .int .i64 (f 13), .int .i64 (f 14), .int .i64 (f 15)]) (.agg #[.int .i64 (f 0), .int .i64 (f 1), .int .i64 (f 2), .int .i64 (f 3), .int .i64 (f 4), .int .i64 (f 5), .int .i64 (f 6), .int .i64 (f 7), .int .i64 (f 8), .int .i64 (f 9), .int .i64 (f 10), .int .i64 (f 11), .int .i64 (f 12), .int .i64 (f 13), .int .i64 (f 14), .int .i64 (f 15)])).run Tryd.prog w = .ok true w := by
  have e2 := fun w => sub_eqIn f w
  have e3 := fun w => sub_eqIn (fun i => f (8 + i)) w
  rw [run_equalIn_array w 9998 _ _ Tryd.underlying42 (info_some (P := Tryd.prog) (t := 41) (by kernel_rfl)), show Tryd.prog.cellsOf 41 = 8 by kernel_rfl, show List.range 2 = [0, 1] from rfl]
  simp only [Op.eqItems]
  go_simp
theorem packet_eql (f : Nat → Int) (w : World) : (binOp .eql 44 (.agg (row 25 f)) (.agg (row 25 f))).run Tryd.prog w = .ok (.bool true) w := by
  show (binOp .eql 44 (.agg #[.int .i64 (f 0), .int .i64 (f 1), .int .i64 (f 2), .int .i64 (f 3), .int .i64 (f 4), .int .i64 (f 5), .int .i64 (f 6), .int .i64 (f 7), .int .i64 (f 8), .int .i64 (f 9), .int .i64 (f 10), .int .i64 (f 11), .int .i64 (f 12), .int .i64 (f 13), .int .i64 (f 14), .int .i64 (f 15), .int .i64 (f 16), .int .i64 (f 17), .int .i64 (f 18), .int .i64 (f 19), .int .i64 (f 20), .int .i64 (f 21), .int .i64 (f 22), .int .i64 (f 23), .int .i64 (f 24)]) (.agg #[.int .i64 (f 0), .int .i64 (f 1), .int .i64 (f 2), .int .i64 (f 3), .int .i64 (f 4), .int .i64 (f 5), .int .i64 (f 6), .int .i64 (f 7), .int .i64 (f 8), .int .i64 (f 9), .int .i64 (f 10), .int .i64 (f 11), .int .i64 (f 12), .int .i64 (f 13), .int .i64 (f 14), .int .i64 (f 15), .int .i64 (f 16), .int .i64 (f 17), .int .i64 (f 18), .int .i64 (f 19), .int .i64 (f 20), .int .i64 (f 21), .int .i64 (f 22), .int .i64 (f 23), .int .i64 (f 24)])).run Tryd.prog w = _
  have e1 := fun w => eqIn_rows (P := Tryd.prog) (t := 26) Tryd.underlying26 Tryd.underlying3 (info_some (by kernel_rfl)) (by kernel_rfl) w (fun i => f (1 + i)) 9997
  have r1 : row 8 (fun i => f (1 + i)) = #[.int .i64 (f 1), .int .i64 (f 2), .int .i64 (f 3), .int .i64 (f 4), .int .i64 (f 5), .int .i64 (f 6), .int .i64 (f 7), .int .i64 (f 8)] := rfl
  rw [r1] at e1
  have e2 := fun w => subs_eqIn (fun i => f (9 + i)) w
  go_simp
theorem Pack_code (q : Nat → Int) (w : World) (hT : Widths w) : Calls Tryd.prog 23 #[.agg (row 25 q)] w fun e w' => ∃ v, e = .returned (.tuple #[v, .int .i64 (if goodB q = true then 0 else 2)]) ∧ Below w.heap.size w w' := by
  cases hg : goodB q
  · refine (Pack_no q w hT hg).mono fun e w' h => ?_
    obtain ⟨rfl, hb⟩ := h
    exact ⟨_, rfl, hb⟩
  · have h := goodB_iff.1 hg
    have e : row 25 q = row 25 (packI fun j => (q j).toNat) := row_congr fun j hj => by
      have := h j hj
      show q j = (((q j).toNat : Nat) : Int)
      omega
    rw [e]
    refine (Pack_any _ w hT (fun j hj => by have := h j hj; show (q j).toNat ≤ mostF j; omega)).mono fun e w' h => ?_
    obtain ⟨g, rfl, hb⟩ := h
    exact ⟨_, rfl, hb.below⟩
theorem Pack_1 (w : World) (hT : Widths w) : Calls Tryd.prog 23 #[.agg #[.int .i64 1, .int .i64 0, .int .i64 0, .int .i64 0, .int .i64 0, .int .i64 0, .int .i64 0, .int .i64 0, .int .i64 0, .int .i64 0, .int .i64 0, .int .i64 0, .int .i64 0, .int .i64 0, .int .i64 0, .int .i64 0, .int .i64 0, .int .i64 0, .int .i64 0, .int .i64 0, .int .i64 0, .int .i64 0, .int .i64 0, .int .i64 0, .int .i64 0]] w fun e w' => ∃ g, e = .returned (.tuple #[.slice (some ⟨g, 0, none⟩) 15 15, .int .i64 0]) ∧ Has w w' [(g, 5, rowU 15 (packB (kindN 1) (parP (kindN 1))))] :=
  Pack_any (kindN 1) w hT (kindN_le (by omega))
theorem Good_0 (w : World) (hT : Widths w) : Calls Tryd.prog 46 #[.agg #[.int .i64 0, .int .i64 0, .int .i64 0, .int .i64 0, .int .i64 0, .int .i64 0, .int .i64 0, .int .i64 0, .int .i64 0, .int .i64 0, .int .i64 0, .int .i64 0, .int .i64 0, .int .i64 0, .int .i64 0, .int .i64 0, .int .i64 0, .int .i64 0, .int .i64 0, .int .i64 0, .int .i64 0, .int .i64 0, .int .i64 0, .int .i64 0, .int .i64 0]] w fun e w' => e = .returned (.bool true) ∧ Below w.heap.size w w' := by
  have h := PkGood_any (packI (kindN 0)) w hT
  rw [kind_ok] at h
  exact h
theorem Good_3 (w : World) (hT : Widths w) : Calls Tryd.prog 46 #[.agg #[.int .i64 3, .int .i64 0, .int .i64 0, .int .i64 0, .int .i64 0, .int .i64 0, .int .i64 0, .int .i64 0, .int .i64 0, .int .i64 0, .int .i64 0, .int .i64 0, .int .i64 0, .int .i64 0, .int .i64 0, .int .i64 0, .int .i64 0, .int .i64 0, .int .i64 0, .int .i64 0, .int .i64 0, .int .i64 0, .int .i64 0, .int .i64 0, .int .i64 0]] w fun e w' => e = .returned (.bool false) ∧ Below w.heap.size w w' := by
  have h := PkGood_any (packI (kindN 3)) w hT
  rw [kind_no] at h
  exact h
/-- What a good packet is packed as is unpacked as it. -/
theorem Unpack_back {p : Nat → Nat} (hp : ∀ j, j < 25 → p j ≤ mostF j) (g : Nat) (w : World) (hT : Widths w) (hB : Bytes w g 15 (packB p (parP p))) : Calls Tryd.prog 13 #[.slice (some ⟨g, 0, none⟩) 15 15] w fun e w' => e = .returned (.tuple #[.agg (row 25 (packI p)), .int .i64 0]) ∧ Below w.heap.size w w' := by
  have h := Unpack_any g 15 (packB p (parP p)) w hT (packB_lt p) hB (by omega)
  unfold UnpPost at h
  rw [pack_back hp, pack_code hp] at h
  exact h
end Go.Proofs.YtcoicmbjoaonoaaDoor
namespace Go.Proofs.YtcoicmbjoaonoaaDoor
set_option linter.unusedVariables false
set_option linter.unusedSimpArgs false
open Go.RowKit
set_option maxRecDepth 100000

/-- The factor at place i. -/
def expF (g : Int) : Nat → Int
  | 0 => 32768
  | i + 1 => (expF g i * g + 16384) / 32768
theorem expF_bd (g : Int) (h0 : 0 ≤ g) (h1 : g ≤ 32768) : ∀ i, 0 ≤ expF g i ∧ expF g i ≤ 32768
  | 0 => by unfold expF; omega
  | i + 1 => by
    have ih := expF_bd g h0 h1 i
    have hm := mul_le_of (expF g i) g 32768 32768 ih.1 ih.2 h0 h1
    unfold expF; omega
def expTo (a : Nat → Int) (g : Int) (k : Nat) : Nat → Int := fun i => if i < k then (a i * expF g i + 16384) / 32768 else a i

theorem expTo_step (a : Nat → Int) (g : Int) (k : Nat) : (fun j => if j = k then (a k * expF g k + 16384) / 32768 else expTo a g k j) = expTo a g (k + 1) := by
  funext j
  unfold expTo
  by_cases e : j = k
  · subst e; simp
  · have : j < k + 1 ↔ j < k := by omega
    simp [e, this]
theorem expTo_all (a : Nat → Int) (g : Int) : row 9 (expTo a g 9) = row 9 fun i => (a i * expF g i + 16384) / 32768 := row_congr fun i hi => by simp [expTo, hi]

set_option maxRecDepth 100000 in
theorem expand_any (a : Nat → Int) (g : Int) (w : World) (h0 : 0 ≤ g) (h1 : g ≤ 32768) (ha : ∀ i, i < 9 → -1073741824 ≤ a i ∧ a i ≤ 1073741824) :
    Calls Tryd.prog 49 #[.agg (row 9 a), .int .i64 g] w fun e w' => e = .returned (.tuple #[.agg (row 9 fun i => (a i * expF g i + 16384) / 32768), .int .i64 0]) ∧ Below w.heap.size w w' := by
  have HA := Lib.hid ha
  clear ha
  have H := Has.start w
  go_enter Tryd.func49, Tryd.ntmps49
  go_wp2_with (first | ((refine wpList_on (o := ⟨_, .box _ (.tmp 0), _, _, _, _⟩) rfl (fun K hK => ?_)); (try simp only [Act.put, List.setIfInBounds_toArray, List.set_cons_zero, List.set_cons_succ]); refine wp_box H _ (.tmp 0) rfl (v := .agg _) rfl ?_; clear H; intro u ga H; refine hK _ _ ?_; clear hK K; try simp only [Value.cells, List.cons_append, List.nil_append] at H) | (refine wpList_on (o := ⟨some 4, .alloc 77, _, _, _, _⟩) rfl (fun K hK => ?_); refine wp_alloc H 77 rfl (z := (.agg (row 9 fun _ => 0))) (by kernel_rfl) ?_; clear H; intro u gr H; refine hK _ _ ?_; clear hK K; try simp only [Value.cells, List.cons_append, List.nil_append] at H))
  go_loopw [6, 15] (fun f i wr => ∃ k : Nat, k ≤ 9 ∧ i = .int .i64 k ∧ f = .int .i64 (expF g k) ∧ Has w wr [(gr, 77, row 9 fun _ => 0), (ga, 77, row 9 (expTo a g k))]) (fun _ i _ => 9 - (intOf i).toNat)
  case atStart => exact ⟨0, by omega, rfl, rfl, H⟩
  clear H
  case round =>
    obtain ⟨k, hk, rfl, rfl, H⟩ := hrel
    by_cases hlt : k < 9
    · obtain ⟨ba1, ba2⟩ := HA.out k hlt
      have ea : expTo a g k k = a k := by simp [expTo]
      obtain ⟨bf1, bf2⟩ := expF_bd g h0 h1 k
      have hd1 := lt_no ba1
      have hd2 := lt_no ba2
      obtain ⟨bm1, bm2⟩ := mul_bd (a k) (expF g k) 1073741824 32768 (by omega) (by omega) (by omega) (by omega)
      obtain ⟨bn1, bn2⟩ := mul_le_of (expF g k) g 32768 32768 bf1 bf2 h0 h1
      go_wp2_with (first | ((refine wpList_on (o := ⟨_, .load 3 _, _, _, _, _⟩) rfl (fun K hK => ?_)); (try simp only [Act.put, List.setIfInBounds_toArray, List.set_cons_zero, List.set_cons_succ]); refine wp_load_one H 3 _ rfl rfl (by repeat (first | exact List.mem_cons_self | apply List.mem_cons_of_mem | apply List.mem_append_right)) (by kernel_rfl) (row_get _ (by omega)) ?_; refine hK _ _ ?_; clear hK K) | ((refine wpList_on (o := ⟨_, .store 3 _ _, _, _, _, _⟩) rfl (fun K hK => ?_)); (try simp only [Act.put, List.setIfInBounds_toArray, List.set_cons_zero, List.set_cons_succ]); refine wp_store_row_ (l1 := [_]) H 3 _ _ rfl rfl rfl (by kernel_rfl) (by omega) ?_; clear H; intro u H; refine hK _ _ ?_; clear hK K; try simp only [Value.cells, List.cons_append, List.nil_append] at H))
      go_roundw
      case rel =>
        refine ⟨k + 1, by omega, by go_num, rfl, ?_⟩
        rw [expTo_step] at H
        exact H
      case measure => simp [intOf]; omega
    · obtain rfl : k = 9 := by omega
      rw [expTo_all] at H
      go_wp2_with (first | ((refine wpList_on (o := ⟨_, .load 77 _, _, _, _, _⟩) rfl (fun K hK => ?_)); (try simp only [Act.put, List.setIfInBounds_toArray, List.set_cons_zero, List.set_cons_succ]); refine wp_load_all H 77 _ rfl rfl (by repeat (first | exact List.mem_cons_self | apply List.mem_cons_of_mem | apply List.mem_append_right)) (by kernel_rfl) ?_; refine hK _ _ ?_; clear hK K) | ((refine wpList_on (o := ⟨_, .store 77 _ _, _, _, _, _⟩) rfl (fun K hK => ?_)); (try simp only [Act.put, List.setIfInBounds_toArray, List.set_cons_zero, List.set_cons_succ]); refine wp_store_all (l1 := []) H 77 _ _ rfl rfl rfl (by kernel_rfl) (by simp [row_size]) (row_one _ _) ?_; clear H; intro u H; refine hK _ _ ?_; clear hK K; try simp only [Value.cells, List.cons_append, List.nil_append] at H))
      refine bodyPost_ret (results_has rfl _ H rfl (by repeat (first | exact List.mem_cons_self | apply List.mem_cons_of_mem | apply List.mem_append_right)) (by kernel_rfl)) rfl ⟨rfl, H.below⟩
end Go.Proofs.YtcoicmbjoaonoaaDoor
