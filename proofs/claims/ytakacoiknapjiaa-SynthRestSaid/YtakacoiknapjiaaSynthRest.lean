/-
  The walk of SynthRest. No statement is proved here.
-/
import Derived.Test.YtakacoiknapjiaaFilters
namespace Go.Proofs.Ytakacoiknapjiaa
open Go.RowKit
set_option maxHeartbeats 6400000 in
set_option maxRecDepth 100000 in
theorem synthRest_in (a : Nat → Int) (n N : Int) (w : World) (hN : 0 ≤ N ∧ N < 200)
    (c1 : ∀ w : World, Calls Try.prog 10 #[.int .i64 n, .int .i64 200] w fun e w' => e = .returned (.int .i64 N) ∧ w = w')
    (m1 : ∀ (g : Nat) (u : World) (bs : List (Nat × TypeId × Array Value)), Has w u bs → (g, 3, row N.toNat fun _ => 0) ∈ bs → Calls Try.prog 19 #[.agg (row 9 (predI a)), .agg #[.int .i64 0, .int .i64 0, .int .i64 0, .int .i64 0, .int .i64 0, .int .i64 0, .int .i64 0, .int .i64 0], .slice (some ⟨g, 0, none⟩) N.toNat N.toNat] u (MkPost (predI a) zeroF zeroF N.toNat u)) :
    Calls Try.prog 7 #[.agg (row 9 a), .int .i64 n] w fun e w' => e = .returned (.bool true) ∧ Below w.heap.size w w' := by
  have H := Has.start w
  have M1' := Lib.hid m1
  have C1 := Lib.hid c1
  clear c1 m1
  go_enter Try.func7, Try.ntmps7
  go_wp2_with (first | ((refine wpList_on (o := ⟨_, .box _ (.tmp 0), _, _, _, _⟩) rfl (fun K hK => ?_)); refine wp_box H _ (.tmp 0) rfl (v := .agg _) rfl ?_; clear H; intro u ga H; refine hK _ _ ?_; clear hK K; try simp only [Value.cells, List.cons_append, List.nil_append] at H) | (go_at_call 10; (with_reducible refine (C1.out _).mono ?_); rintro e w1 ⟨rfl, rfl⟩))
  refine' cut_ _ (fun hcut => _) _; rotate_left
  · refine wp_region_ordT [] [] (fun w' => Has w w' [(ga, 35, row 9 a)]) [(1, 4), (1, 5), (4, 5), (1, 10), (4, 10), (5, 10)] [[0, 2, 3, 10, 1, 4, 5, 6, 7, 8, 9, 11, 12, 13], [0, 1, 2, 3, 10, 4, 5, 6, 7, 8, 9, 11, 12, 13], [0, 1, 2, 3, 4, 10, 5, 6, 7, 8, 9, 11, 12, 13], [0, 1, 2, 3, 4, 5, 6, 7, 8, 9, 10, 11, 12, 13], [0, 2, 3, 10, 4, 1, 5, 6, 7, 8, 9, 11, 12, 13], [0, 2, 3, 4, 10, 1, 5, 6, 7, 8, 9, 11, 12, 13], [0, 2, 3, 4, 1, 10, 5, 6, 7, 8, 9, 11, 12, 13], [0, 2, 3, 4, 1, 5, 6, 7, 8, 9, 10, 11, 12, 13]] (by kernel_rfl) (by kernel_rfl) (by kernel_rfl) ?_; replace H := H.drew; generalize World.drew _ = u at *; simp only [List.forall_mem_cons, List.not_mem_nil, false_imp_iff, implies_true, and_true]; (repeat' refine And.intro ?_ ?_)
    all_goals repeat (first | (refine sq_load_all (o := ⟨_, .load 35 _, _, _, _, _⟩) 35 _ rfl rfl rfl rfl rfl (H.sub (by repeat (first | exact List.Sublist.refl _ | exact List.nil_sublist _ | apply List.Sublist.cons_cons | apply List.Sublist.cons | refine List.Sublist.trans ?_ (List.sublist_append_right _ _)))) (by repeat (first | exact List.mem_cons_self | apply List.mem_cons_of_mem)) (by kernel_rfl) ?_; simp only [Act.put, List.setIfInBounds_toArray, List.set_cons_zero, List.set_cons_succ]) | (refine sq_keep (o := ⟨_, .call _, _, _, _, _⟩) rfl rfl rfl (fun K hK => ?_); go_simp; (go_at_call 17; (with_reducible refine (predictor_any _ _).mono ?_); rintro e u ⟨rfl, hb⟩; replace H := H.callee hb; clear hb); refine hK _ _ (H.sub (by repeat (first | exact List.Sublist.refl _ | exact List.nil_sublist _ | apply List.Sublist.cons_cons | apply List.Sublist.cons | refine List.Sublist.trans ?_ (List.sublist_append_right _ _)))) ?_; clear hK K; try simp only [Act.put, List.setIfInBounds_toArray, List.set_cons_zero, List.set_cons_succ]) | (refine sq_keep (o := ⟨some 15, .makeSlice _ _ _, _, _, _, _⟩) rfl rfl rfl (fun K hK => ?_); refine wp_make_has (t_ := 25) (e := 3) H _ _ rfl N .i64 .i64 rfl rfl ?_ ?_ ?_ ?_ ?_; (kernel_rfl); (kernel_rfl); (omega); (omega); (clear H; intro u gz H; (try simp only [Value.cells, List.cons_append, List.nil_append] at H); refine hK _ _ (H.sub (by repeat (first | exact List.Sublist.refl _ | exact List.nil_sublist _ | apply List.Sublist.cons_cons | apply List.Sublist.cons | refine List.Sublist.trans ?_ (List.sublist_append_right _ _)))) ?_; clear hK K; simp only [Act.put, List.setIfInBounds_toArray, List.set_cons_zero, List.set_cons_succ])) | (refine sq_keep (o := ⟨_, .call _, _, _, _, _⟩) rfl rfl rfl (fun K hK => ?_); go_simp; (go_at_call 19); (with_reducible refine (M1'.out _ _ _ H (by repeat (first | exact List.mem_cons_self | apply List.mem_cons_of_mem))).mono ?_); rintro e u ⟨v, tl, rfl, RO, hb⟩; replace H := H.join hb; clear hb; (try simp only [List.cons_append, List.nil_append] at H); refine hK _ _ (H.sub (by repeat (first | exact List.Sublist.refl _ | exact List.nil_sublist _ | apply List.Sublist.cons_cons | apply List.Sublist.cons | refine List.Sublist.trans ?_ (List.sublist_append_right _ _)))) ?_; clear hK K; try simp only [Act.put, List.setIfInBounds_toArray, List.set_cons_zero, List.set_cons_succ]) | (refine sq_keep (o := ⟨some 6, .alloc 40, _, _, _, _⟩) rfl rfl rfl (fun K hK => ?_); refine wp_alloc H 40 rfl (z := (.agg (row 8 fun _ => 0))) (by kernel_rfl) ?_; clear H; intro u gp H; (try simp only [Value.cells, List.cons_append, List.nil_append] at H); refine hK _ _ (H.sub (by repeat (first | exact List.Sublist.refl _ | exact List.nil_sublist _ | apply List.Sublist.cons_cons | apply List.Sublist.cons | refine List.Sublist.trans ?_ (List.sublist_append_right _ _)))) ?_; clear hK K; simp only [Act.put, List.setIfInBounds_toArray, List.set_cons_zero, List.set_cons_succ]) | (refine sq_eff (o := ⟨_, .store 40 _ _, _, _, _, _⟩) rfl rfl rfl (fun K hK => ?_); refine wp_store_all (l1 := []) H 40 _ _ rfl rfl rfl (by kernel_rfl) (by simp [row_size]) (row_one _ _) ?_; clear H; intro u H; (try simp only [Value.cells, List.cons_append, List.nil_append] at H); refine hK _ _ ?_; clear hK K; simp only [Act.put, List.setIfInBounds_toArray, List.set_cons_zero, List.set_cons_succ]) | (replace H := Has.perm (Has.sub H (bs' := tl ++ [(gp, 40, row 8 fun _ => 0)]) (by repeat (first | exact List.Sublist.refl _ | exact List.nil_sublist _ | apply List.Sublist.cons_cons | apply List.Sublist.cons | exact List.Sublist.append (List.Sublist.refl _) (by repeat (first | exact List.Sublist.refl _ | exact List.nil_sublist _ | apply List.Sublist.cons_cons | apply List.Sublist.cons))))) List.perm_append_comm; (try simp only [List.cons_append, List.nil_append] at H); (refine sq_eff (o := ⟨_, .store 40 _ _, _, _, _, _⟩) rfl rfl rfl (fun K hK => ?_); refine wp_store_all (l1 := []) H 40 _ _ rfl rfl rfl (by kernel_rfl) (by simp [row_size]) (row_one _ _) ?_; clear H; intro u H; (try simp only [Value.cells, List.cons_append, List.nil_append] at H); refine hK _ _ ?_; clear hK K; simp only [Act.put, List.setIfInBounds_toArray, List.set_cons_zero, List.set_cons_succ])) | (refine sq_free (o := ⟨_, _, _, _, _, _⟩) (v := ?_) rfl rfl rfl ?_ ?_; rotate_left; (intro w'; go_simp; try with_reducible rfl); simp only [Act.put, List.setIfInBounds_toArray, List.set_cons_zero, List.set_cons_succ]))
    all_goals refine sq_nil ?_
    all_goals
      have H2 : Has w u ((gp, 40, row 8 (mk (predI a) zeroF zeroF N.toNat)) :: tl) := by
        first
        | exact H.sub (by repeat (first | exact List.Sublist.refl _ | exact List.sublist_append_left _ _ | apply List.Sublist.cons_cons | apply List.Sublist.cons))
        | exact Has.perm (Has.sub H (bs' := tl ++ [_]) (by repeat (first | exact List.Sublist.refl _ | exact List.nil_sublist _ | apply List.Sublist.cons_cons | apply List.Sublist.cons | exact List.Sublist.append (List.Sublist.refl _) (by repeat (first | exact List.Sublist.refl _ | exact List.nil_sublist _ | apply List.Sublist.cons_cons | apply List.Sublist.cons))))) List.perm_append_comm
      clear H
    · revert RO H2
      revert gp gz v tl u
      exact hcut.out
    all_goals exact hcut.out _ _ _ _ _ RO H2
  clear H
  intro gp gz v tl u RO H
  obtain ⟨p, cap, rfl, hcap⟩ := RO.shape
  go_wp2_with (first | (go_at_call 20; (with_reducible refine (filters_any _).mono ?_); rintro e w1 ⟨rfl, hb⟩; replace H := H.callee hb; clear hb) | ((refine wpList_on (o := ⟨some 28, .makeSlice _ _ _, _, _, _, _⟩) rfl (fun K hK => ?_)); refine wp_make_has (t_ := 25) (e := 3) H _ _ rfl N .i64 .i64 rfl rfl ?_ ?_ ?_ ?_ ?_; (kernel_rfl); (kernel_rfl); (omega); (omega); (clear H; intro u g2 H; refine hK _ _ ?_; clear hK K; try simp only [Value.cells, List.cons_append, List.nil_append] at H)))
  have R2 := Reads.ofRow (n := N.toNat) H (g := g2) (f := fun _ => 0) (m := N.toNat) (by repeat (first | exact List.mem_cons_self | apply List.mem_cons_of_mem)) (by omega)
  obtain ⟨_, b, R1⟩ := RO.now H (by repeat (first | exact List.Sublist.refl _ | apply List.Sublist.cons))
  have R3 := Reads.congr (f' := fun _ => 0) R1 (fun i hi => mkOut_rest (predI a) zeroF zeroF (fun _ _ => rfl) N.toNat (fun _ _ => rfl) i hi)
  refine (same_yes p _ N.toNat cap b 0 N.toNat g2 0 (fun _ => 0) _ (by omega) R3 R2).mono ?_
  rintro e w1 ⟨rfl, hb⟩
  replace H := H.callee hb
  have heq : ∀ w : World, (binOp .eql 40 (.agg (row 8 (mk (predI a) zeroF zeroF N.toNat))) (.agg #[.int .i64 0, .int .i64 0, .int .i64 0, .int .i64 0, .int .i64 0, .int .i64 0, .int .i64 0, .int .i64 0])).run Try.prog w = .ok (.bool true) w := fun w => by
    rw [ex_P, run_eql_row (P := Try.prog) Try.underlying40 Try.underlying3 (info_some (by kernel_rfl)) (by kernel_rfl) w (mk (predI a) zeroF zeroF N.toNat) zeroF,
      rowEq_of (g := zeroF) (fun i hi => mk_rest (predI a) zeroF zeroF (fun _ _ => rfl) N.toNat (fun _ _ => rfl) N.toNat (Nat.le_refl _) i hi)]
  clear hb R1 R2 R3 RO
  go_wp2_with ((refine wpList_on (o := ⟨_, .load 40 _, _, _, _, _⟩) rfl (fun K hK => ?_)); refine wp_load_all H 40 _ rfl rfl (by repeat (first | exact List.mem_cons_self | apply List.mem_cons_of_mem)) (by kernel_rfl) ?_; refine hK _ _ ?_; clear hK K)
  go_ret
  exact ⟨rfl, H.below⟩
theorem synthRest_walk (a : Nat → Int) (n : Int) (w : World) : Calls Try.prog 7 #[.agg (row 9 a), .int .i64 n] w fun e w' => e = .returned (.bool true) ∧ Below w.heap.size w w' := by
  refine synthRest_in a n (n % 200) w (by omega) (fun w => spot_any n 200 w (by omega) (by omega)) (fun g u bs H hm => ?_)
  rw [ex_P]
  have hb : 0 ≤ n % 200 ∧ n % 200 < 200 := by omega
  exact Make_any (predI a) zeroF zeroF _ _ _ g 0 u (by omega) (predI_bd a) (fun i hi => by unfold zeroF In16; omega) (fun i hi => by unfold zeroF In16; omega) rfl (Reads.ofRow H hm (Nat.le_refl _))
end Go.Proofs.Ytakacoiknapjiaa
