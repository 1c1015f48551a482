/-
  The walk of HighCut. No statement is proved here.
-/
import Derived.Test.YtakacoiknapjiaaHpEq
namespace Go.Proofs.Ytakacoiknapjiaa
open Go.RowKit
set_option maxHeartbeats 12800000 in
set_option maxRecDepth 100000 in
theorem highCut_some_yes (q f : Nat → Int) (ad : Addr) (n cap kN : Nat) (kk : Int) (w : World) (hn : n ≤ 17592186044416) (hcap : n ≤ cap) (hkN : kN ≤ n) (hG : HighIn q f n)
    (r0 : ReadsA w (some ad) n ad f) (r1 : ReadsA w (some ad) kN ad f) (r2 : ReadsA w (if cap = kN then some ad else some (ad.add kN)) (n - kN) (ad.add kN) (fun i => f (kN + i)))
    (c4 : ∀ w : World, Calls Try.prog 10 #[.int .i64 kk, .int .i64 ((n : Nat) + 1)] w fun e w' => e = .returned (.int .i64 (kN : Nat)) ∧ w = w') :
    Calls Try.prog 3 #[.agg (row 4 q), .slice (some ad) n cap, .int .i64 kk] w fun e w' => e = .returned (.bool true) ∧ Below w.heap.size w w' := by
  have H := Has.start w
  have hkc : kN ≤ cap := by omega
  have C4 := Lib.hid c4
  have HG := Lib.hid hG
  have R0 := Lib.hid r0
  have R1 := Lib.hid r1
  have R2 := Lib.hid r2
  clear c4 hG r0 r1 r2
  go_enter Try.func3, Try.ntmps3
  go_wp2_with (first | ((refine wpList_on (o := ⟨_, .box _ (.tmp 0), _, _, _, _⟩) rfl (fun K hK => ?_)); refine wp_box H _ (.tmp 0) rfl (v := .agg _) rfl ?_; clear H; intro u gh H; refine hK _ _ ?_; clear hK K; try simp only [Value.cells, List.cons_append, List.nil_append] at H) | (go_at_call 10; (with_reducible refine (C4.out _).mono ?_); rintro e w1 ⟨rfl, rfl⟩))
  clear C4
  refine' cut_ _ (fun hcut => _) _; rotate_left
  · refine wp_region_ordT [] [] (fun w' => Has w w' [(gh, 24, row 4 q)]) [(2, 3), (2, 8), (3, 8)] [[0, 1, 8, 2, 3, 4, 5, 6, 7, 9, 10, 11], [0, 1, 2, 8, 3, 4, 5, 6, 7, 9, 10, 11], [0, 1, 2, 3, 8, 4, 5, 6, 7, 9, 10, 11]] (by kernel_rfl) (by kernel_rfl) (by kernel_rfl) ?_; replace H := H.drew; generalize World.drew _ = u at *; simp only [List.forall_mem_cons, List.not_mem_nil, false_imp_iff, implies_true, and_true]; (repeat' refine And.intro ?_ ?_)
    all_goals repeat (first | (refine sq_load_all (o := ⟨_, .load 24 _, _, _, _, _⟩) 24 _ rfl rfl rfl rfl rfl (H.sub (by repeat (first | exact List.Sublist.refl _ | exact List.nil_sublist _ | apply List.Sublist.cons_cons | apply List.Sublist.cons | refine List.Sublist.trans ?_ (List.sublist_append_right _ _)))) (by repeat (first | exact List.mem_cons_self | apply List.mem_cons_of_mem | apply List.mem_append_right)) (by kernel_rfl) ?_; simp only [Act.put, List.setIfInBounds_toArray, List.set_cons_zero, List.set_cons_succ]) | (refine sq_keep (o := ⟨_, .call { callee := .builtin .append, args := #[_, _], argTypes := #[25, 25] }, _, _, _, _⟩) rfl rfl rfl (fun Kx hKx => ?_); refine wp_append_nil (t := 25) (e := 3) (m := n) (f := f) H _ _ rfl rfl rfl (by kernel_rfl) (From.readsA (ad := ad) (e := 3) (by kernel_rfl) (R0.out.has H)) (by omega) ?_; (intro vc1 u tlc1 ROc1 H2; replace H := H2; clear H2; (try simp only [List.cons_append, List.nil_append, List.append_assoc] at H); refine hKx _ _ (H.sub (by repeat (first | exact List.Sublist.refl _ | exact List.nil_sublist _ | apply List.Sublist.cons_cons | apply List.Sublist.cons | refine List.Sublist.trans ?_ (List.sublist_append_right _ _)))) ?_; clear hKx Kx; simp only [Act.put, List.setIfInBounds_toArray, List.set_cons_zero, List.set_cons_succ])) | (refine sq_keep (o := ⟨_, .call _, _, _, _, _⟩) rfl rfl rfl (fun Kx hKx => ?_); go_simp; go_at_call 11; refine (High_l (q := q) (f := f) (n := n) (by omega) HG.out (ROc1.lies H (by repeat (first | exact List.Sublist.refl _ | exact List.sublist_append_left _ _ | exact List.sublist_append_right _ _ | apply List.Sublist.cons | refine List.Sublist.trans ?_ (List.sublist_append_right _ _))))).mono ?_; rintro e u ⟨v1, tl1, rfl, RO1, hb⟩; replace H := H.joinR hb; clear hb; (try simp only [List.cons_append, List.nil_append, List.append_assoc] at H); refine hKx _ _ (H.sub (by repeat (first | exact List.Sublist.refl _ | exact List.nil_sublist _ | apply List.Sublist.cons_cons | apply List.Sublist.cons | refine List.Sublist.trans ?_ (List.sublist_append_right _ _)))) ?_; clear hKx Kx; try simp only [Act.put, List.setIfInBounds_toArray, List.set_cons_zero, List.set_cons_succ]) | (refine sq_keep (o := ⟨some 8, .alloc 24, _, _, _, _⟩) rfl rfl rfl (fun K hK => ?_); refine wp_alloc H 24 rfl (z := (.agg (row 4 fun _ => 0))) (by kernel_rfl) ?_; clear H; intro u g8 H; (try simp only [Value.cells, List.cons_append, List.nil_append] at H); refine hK _ _ (H.sub (by repeat (first | exact List.Sublist.refl _ | exact List.nil_sublist _ | apply List.Sublist.cons_cons | apply List.Sublist.cons | refine List.Sublist.trans ?_ (List.sublist_append_right _ _)))) ?_; clear hK K; simp only [Act.put, List.setIfInBounds_toArray, List.set_cons_zero, List.set_cons_succ]) | (refine sq_eff (o := ⟨_, .store 24 _ _, _, _, _, _⟩) rfl rfl rfl (fun K hK => ?_); refine wp_store_all (l1 := []) H 24 _ _ rfl rfl rfl (by kernel_rfl) (by simp [row_size]) (row_one _ _) ?_; clear H; intro u H; (try simp only [Value.cells, List.cons_append, List.nil_append] at H); refine hK _ _ ?_; clear hK K; simp only [Act.put, List.setIfInBounds_toArray, List.set_cons_zero, List.set_cons_succ]) | (refine sq_free (o := ⟨_, _, _, _, _, _⟩) (v := ?_) rfl rfl rfl ?_ ?_; rotate_left; (intro w'; go_simp; try with_reducible rfl); simp only [Act.put, List.setIfInBounds_toArray, List.set_cons_zero, List.set_cons_succ]))
    all_goals refine sq_nil ?_
    · revert ROc1 RO1 H
      revert g8 vc1 tlc1 v1 tl1 u
      exact hcut.out
    all_goals exact hcut.out _ _ _ _ _ _ ROc1 RO1 H
  clear H
  intro g8 vc1 tlc1 v1 tl1 u ROc1 RO1 H
  go_wp2_with fail
  have HG2 : Hid (HighIn q f kN) := ⟨fun i hi => HG.out.1 i (by omega), HG.out.2⟩
  refine' cut_ _ (fun hcut => _) _; rotate_left
  · refine wp_region_ordT [] [(3, 0)] (fun w' => Has w w' [(gh, 24, row 4 q)]) [(4, 5), (4, 10), (5, 10)] [[0, 1, 2, 3, 10, 4, 5, 6, 7, 8, 9, 11, 12, 13], [0, 1, 2, 3, 4, 10, 5, 6, 7, 8, 9, 11, 12, 13], [0, 1, 2, 3, 4, 5, 10, 6, 7, 8, 9, 11, 12, 13]] (by kernel_rfl) (by kernel_rfl) (by kernel_rfl) ?_; replace H := H.drew; generalize World.drew _ = u at *; simp only [List.forall_mem_cons, List.not_mem_nil, false_imp_iff, implies_true, and_true]; (repeat' refine And.intro ?_ ?_)
    all_goals repeat (first | (refine sq_load_all (o := ⟨_, .load 24 _, _, _, _, _⟩) 24 _ rfl rfl rfl rfl rfl (H.sub (by repeat (first | exact List.Sublist.refl _ | exact List.nil_sublist _ | apply List.Sublist.cons_cons | apply List.Sublist.cons | refine List.Sublist.trans ?_ (List.sublist_append_right _ _)))) (by repeat (first | exact List.mem_cons_self | apply List.mem_cons_of_mem | apply List.mem_append_right)) (by kernel_rfl) ?_; simp only [Act.put, List.setIfInBounds_toArray, List.set_cons_zero, List.set_cons_succ]) | (refine sq_keep (o := ⟨_, .call { callee := .builtin .append, args := #[_, _], argTypes := #[25, 25] }, _, _, _, _⟩) rfl rfl rfl (fun Kx hKx => ?_); refine wp_append_nil (t := 25) (e := 3) (m := kN) (f := f) H _ _ rfl rfl rfl (by kernel_rfl) (From.readsA (ad := ad) (e := 3) (by kernel_rfl) (R1.out.has H)) (by omega) ?_; (intro vc2 u tlc2 ROc2 H2; replace H := H2; clear H2; (try simp only [List.cons_append, List.nil_append, List.append_assoc] at H); refine hKx _ _ (H.sub (by repeat (first | exact List.Sublist.refl _ | exact List.nil_sublist _ | apply List.Sublist.cons_cons | apply List.Sublist.cons | refine List.Sublist.trans ?_ (List.sublist_append_right _ _)))) ?_; clear hKx Kx; simp only [Act.put, List.setIfInBounds_toArray, List.set_cons_zero, List.set_cons_succ])) | (refine sq_keep (o := ⟨_, .call _, _, _, _, _⟩) rfl rfl rfl (fun Kx hKx => ?_); go_simp; go_at_call 11; refine (High_l (q := q) (f := f) (n := kN) (by omega) HG2.out (ROc2.lies H (by repeat (first | exact List.Sublist.refl _ | exact List.sublist_append_left _ _ | exact List.sublist_append_right _ _ | apply List.Sublist.cons | refine List.Sublist.trans ?_ (List.sublist_append_right _ _))))).mono ?_; rintro e u ⟨v2, tl2, rfl, RO2, hb⟩; replace H := H.joinR hb; clear hb; (try simp only [List.cons_append, List.nil_append, List.append_assoc] at H); refine hKx _ _ (H.sub (by repeat (first | exact List.Sublist.refl _ | exact List.nil_sublist _ | apply List.Sublist.cons_cons | apply List.Sublist.cons | refine List.Sublist.trans ?_ (List.sublist_append_right _ _)))) ?_; clear hKx Kx; try simp only [Act.put, List.setIfInBounds_toArray, List.set_cons_zero, List.set_cons_succ]) | (refine sq_keep (o := ⟨some 11, .alloc 24, _, _, _, _⟩) rfl rfl rfl (fun K hK => ?_); refine wp_alloc H 24 rfl (z := (.agg (row 4 fun _ => 0))) (by kernel_rfl) ?_; clear H; intro u g11 H; (try simp only [Value.cells, List.cons_append, List.nil_append] at H); refine hK _ _ (H.sub (by repeat (first | exact List.Sublist.refl _ | exact List.nil_sublist _ | apply List.Sublist.cons_cons | apply List.Sublist.cons | refine List.Sublist.trans ?_ (List.sublist_append_right _ _)))) ?_; clear hK K; simp only [Act.put, List.setIfInBounds_toArray, List.set_cons_zero, List.set_cons_succ]) | (refine sq_eff (o := ⟨_, .store 24 _ _, _, _, _, _⟩) rfl rfl rfl (fun K hK => ?_); refine wp_store_all (l1 := []) H 24 _ _ rfl rfl rfl (by kernel_rfl) (by simp [row_size]) (row_one _ _) ?_; clear H; intro u H; (try simp only [Value.cells, List.cons_append, List.nil_append] at H); refine hK _ _ ?_; clear hK K; simp only [Act.put, List.setIfInBounds_toArray, List.set_cons_zero, List.set_cons_succ]) | (refine sq_free (o := ⟨_, _, _, _, _, _⟩) (v := ?_) rfl rfl rfl ?_ ?_; rotate_left; (intro w'; go_simp; try with_reducible rfl); simp only [Act.put, List.setIfInBounds_toArray, List.set_cons_zero, List.set_cons_succ]))
    all_goals refine sq_nil ?_
    · revert ROc2 RO2 H
      revert g11 vc2 tlc2 v2 tl2 u
      exact hcut.out
    all_goals exact hcut.out _ _ _ _ _ _ ROc2 RO2 H
  clear H
  intro g11 vc2 tlc2 v2 tl2 u ROc2 RO2 H
  go_wp2_with fail
  have HG3 : Hid (HighIn (hpF (hpS f (hpOf q) kN)) (fun i => f (kN + i)) (n - kN)) := by
    have hgd := hpS_good (f := f) (h := hpOf q) (n := kN) ⟨HG.out.2 0 (by omega), HG.out.2 1 (by omega), HG.out.2 2 (by omega), HG.out.2 3 (by omega)⟩ (fun i hi => HG.out.1 i (by omega)) kN (Nat.le_refl _)
    refine ⟨fun i hi => HG.out.1 _ (by omega), fun i hi => ?_⟩
    unfold hpF
    split
    · exact hgd.1
    · split
      · exact hgd.2.1
      · split
        · exact hgd.2.2.1
        · exact hgd.2.2.2
  refine' cut_ _ (fun hcut => _) _; rotate_left
  · refine wp_region_ordT [] [(3, 0)] (fun w' => Has w w' [(g11, 24, row 4 (hpF (hpS f (hpOf q) kN)))]) [(4, 5), (4, 10), (5, 10)] [[0, 1, 2, 3, 10, 4, 5, 6, 7, 8, 9, 11, 12, 13], [0, 1, 2, 3, 4, 10, 5, 6, 7, 8, 9, 11, 12, 13], [0, 1, 2, 3, 4, 5, 10, 6, 7, 8, 9, 11, 12, 13]] (by kernel_rfl) (by kernel_rfl) (by kernel_rfl) ?_; replace H := H.drew; generalize World.drew _ = u at *; simp only [List.forall_mem_cons, List.not_mem_nil, false_imp_iff, implies_true, and_true]; (repeat' refine And.intro ?_ ?_)
    all_goals repeat (first | (refine sq_load_all (o := ⟨_, .load 24 _, _, _, _, _⟩) 24 _ rfl rfl rfl rfl rfl (H.sub (by repeat (first | exact List.Sublist.refl _ | exact List.nil_sublist _ | apply List.Sublist.cons_cons | apply List.Sublist.cons | refine List.Sublist.trans ?_ (List.sublist_append_right _ _)))) (by repeat (first | exact List.mem_cons_self | apply List.mem_cons_of_mem | apply List.mem_append_right)) (by kernel_rfl) ?_; simp only [Act.put, List.setIfInBounds_toArray, List.set_cons_zero, List.set_cons_succ]) | (refine sq_keep (o := ⟨_, .call { callee := .builtin .append, args := #[_, _], argTypes := #[25, 25] }, _, _, _, _⟩) rfl rfl rfl (fun Kx hKx => ?_); refine wp_append_nil (t := 25) (e := 3) (m := (n - kN)) (f := (fun i => f (kN + i))) H _ _ rfl rfl rfl (by kernel_rfl) (From.readsA (ad := (ad.add kN)) (e := 3) (by kernel_rfl) (R2.out.has H)) (by omega) ?_; (intro vc3 u tlc3 ROc3 H2; replace H := H2; clear H2; (try simp only [List.cons_append, List.nil_append, List.append_assoc] at H); refine hKx _ _ (H.sub (by repeat (first | exact List.Sublist.refl _ | exact List.nil_sublist _ | apply List.Sublist.cons_cons | apply List.Sublist.cons | refine List.Sublist.trans ?_ (List.sublist_append_right _ _)))) ?_; clear hKx Kx; simp only [Act.put, List.setIfInBounds_toArray, List.set_cons_zero, List.set_cons_succ])) | (refine sq_keep (o := ⟨_, .call _, _, _, _, _⟩) rfl rfl rfl (fun Kx hKx => ?_); go_simp; go_at_call 11; refine (High_l (q := hpF (hpS f (hpOf q) kN)) (f := (fun i => f (kN + i))) (n := (n - kN)) (by omega) HG3.out (ROc3.lies H (by repeat (first | exact List.Sublist.refl _ | exact List.sublist_append_left _ _ | exact List.sublist_append_right _ _ | apply List.Sublist.cons | refine List.Sublist.trans ?_ (List.sublist_append_right _ _))))).mono ?_; rintro e u ⟨v3, tl3, rfl, RO3, hb⟩; replace H := H.joinR hb; clear hb; (try simp only [List.cons_append, List.nil_append, List.append_assoc] at H); refine hKx _ _ (H.sub (by repeat (first | exact List.Sublist.refl _ | exact List.nil_sublist _ | apply List.Sublist.cons_cons | apply List.Sublist.cons | refine List.Sublist.trans ?_ (List.sublist_append_right _ _)))) ?_; clear hKx Kx; try simp only [Act.put, List.setIfInBounds_toArray, List.set_cons_zero, List.set_cons_succ]) | (refine sq_keep (o := ⟨some 14, .alloc 24, _, _, _, _⟩) rfl rfl rfl (fun K hK => ?_); refine wp_alloc H 24 rfl (z := (.agg (row 4 fun _ => 0))) (by kernel_rfl) ?_; clear H; intro u g14 H; (try simp only [Value.cells, List.cons_append, List.nil_append] at H); refine hK _ _ (H.sub (by repeat (first | exact List.Sublist.refl _ | exact List.nil_sublist _ | apply List.Sublist.cons_cons | apply List.Sublist.cons | refine List.Sublist.trans ?_ (List.sublist_append_right _ _)))) ?_; clear hK K; simp only [Act.put, List.setIfInBounds_toArray, List.set_cons_zero, List.set_cons_succ]) | (refine sq_eff (o := ⟨_, .store 24 _ _, _, _, _, _⟩) rfl rfl rfl (fun K hK => ?_); refine wp_store_all (l1 := []) H 24 _ _ rfl rfl rfl (by kernel_rfl) (by simp [row_size]) (row_one _ _) ?_; clear H; intro u H; (try simp only [Value.cells, List.cons_append, List.nil_append] at H); refine hK _ _ ?_; clear hK K; simp only [Act.put, List.setIfInBounds_toArray, List.set_cons_zero, List.set_cons_succ]) | (refine sq_free (o := ⟨_, _, _, _, _, _⟩) (v := ?_) rfl rfl rfl ?_ ?_; rotate_left; (intro w'; go_simp; try with_reducible rfl); simp only [Act.put, List.setIfInBounds_toArray, List.set_cons_zero, List.set_cons_succ]))
    all_goals refine sq_nil ?_
    · revert ROc3 RO3 H
      revert g14 vc3 tlc3 v3 tl3 u
      exact hcut.out
    all_goals exact hcut.out _ _ _ _ _ _ ROc3 RO3 H
  clear H
  intro g14 vc3 tlc3 v3 tl3 u ROc3 RO3 H
  have E8 : hpS (fun i => f (kN + i)) (hpOf (hpF (hpS f (hpOf q) kN))) (n - kN) = hpS f (hpOf q) n := by
    show hpS (fun i => f (kN + i)) (hpS f (hpOf q) kN) (n - kN) = _
    rw [← hpS_cut, show kN + (n - kN) = n by omega]
  rw [E8] at H
  clear E8
  have heq := hp_eql
  replace H : Has w u (((g14, 24, row 4 (hpF (hpS f (hpOf q) n))) :: (g8, 24, row 4 (hpF (hpS f (hpOf q) n))) :: (tl1 ++ tl3)) ++ tl2) := by
    refine Has.perm (Has.sub H (bs' := (g14, 24, row 4 (hpF (hpS f (hpOf q) n))) :: (g8, 24, row 4 (hpF (hpS f (hpOf q) n))) :: (tl1 ++ (tl2 ++ tl3))) ?_) ?_
    · refine List.Sublist.cons_cons _ (List.Sublist.cons _ (List.Sublist.cons_cons _ (List.Sublist.cons _ ?_)))
      exact List.Sublist.trans (List.Sublist.append (List.Sublist.refl tl1) (List.Sublist.trans (List.Sublist.append (List.Sublist.refl tl2) (List.sublist_append_right tlc3 tl3)) (List.sublist_append_right tlc2 _))) (List.sublist_append_right tlc1 _)
    · simp only [List.cons_append, List.append_assoc]
      exact ((List.Perm.append_left _ List.perm_append_comm).cons _).cons _
  clear ROc1 ROc2 ROc3 HG HG2 HG3
  have HE9 : Hid (kN + (n - kN) = n) := by show kN + (n - kN) = n; omega
  go_wp2_with (first | (go_at_call 12; (with_reducible refine (highs_any _).mono ?_); rintro e w1 ⟨rfl, hb⟩; replace H := H.callee hb; clear hb) | ((refine wpList_on (o := ⟨_, .load 24 _, _, _, _, _⟩) rfl (fun K hK => ?_)); refine wp_load_all H 24 _ rfl rfl (by repeat (first | exact List.mem_cons_self | apply List.mem_cons_of_mem | apply List.mem_append_right)) (by kernel_rfl) ?_; refine hK _ _ ?_; clear hK K) | ((refine wpList_on (o := ⟨some 74, .call _, _, _, _, _⟩) rfl (fun K hK => ?_)); refine wp_append_rowed (t := 25) (e := 3) (tl := tl2) H (List.Perm.refl _) _ _ rfl RO2 rfl rfl (by kernel_rfl) (Lies.from_ (e := 3) (by kernel_rfl) (RO3.lies H (by simp only [List.cons_append, List.append_assoc]; repeat (first | exact List.sublist_append_left _ _ | apply List.Sublist.cons | refine List.Sublist.trans ?_ (List.sublist_append_right _ _))))) (by omega) ?_; clear H; intro v4 u tl4 RO4 H; refine hK _ _ ?_; clear hK K))
  all_goals
    simp only [List.cons_append, List.append_assoc] at H
    have L1 := RO1.lies H (by repeat (first | exact List.Sublist.refl _ | exact List.sublist_append_left _ _ | exact List.sublist_append_right _ _ | apply List.Sublist.cons | refine List.Sublist.trans ?_ (List.sublist_append_right _ _)))
    have L4 : Lies u v4 n (hpOut f (hpOf q)) := by
      have L := RO4.lies H (by repeat (first | exact List.Sublist.refl _ | exact List.sublist_append_left _ _ | exact List.sublist_append_right _ _ | apply List.Sublist.cons | refine List.Sublist.trans ?_ (List.sublist_append_right _ _)))
      rw [HE9.out] at L
      refine L.congr fun i hi => ?_
      by_cases h : i < kN
      · rw [if_pos h]
      · rw [if_neg h]
        show hpOut (fun i => f (kN + i)) (hpS f (hpOf q) kN) (i - kN) = _
        rw [← hpOut_cut, show kN + (i - kN) = i by omega]
    refine (same_l (by omega) L4 L1).mono ?_
    rintro e w1 ⟨rfl, hb⟩
    replace H := H.callee hb
    clear hb L1 L4
    go_wp2_with fail
    go_ret
    exact ⟨rfl, H.below⟩
end Go.Proofs.Ytakacoiknapjiaa
