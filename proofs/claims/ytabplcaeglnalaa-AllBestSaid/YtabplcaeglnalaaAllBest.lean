/-
  AllBest walked. No statement is proved here.
-/
import Derived.Test.YtabplcaeglnalaaAllFew
namespace Go.Proofs.Ytabplcaeglnalaa
open Go.RowKit
theorem Better_of {c e d f : Int} (h : betterB c e d f = false) (h1 : c ≤ 4398046511104) (h2 : e ≤ 687194767360) (h3 : d ≤ 4398046511104) (h4 : f ≤ 687194767360) (w : World) :
    Calls Try.prog 17 #[.int .i64 c, .int .i64 e, .int .i64 d, .int .i64 f] w fun r w' => r = .returned (.bool false) ∧ Below w.heap.size w w' := by
  have k := Better_any c e d f w (by omega) (by omega) (by omega) (by omega)
  rwa [h] at k
theorem Score_of (d r x : Nat → Int) {v v' : Value} {w : World} (hd : ∀ i, i < 40 → -1099511627776 ≤ d i ∧ d i ≤ 1099511627776) (hr : ∀ i, i < 40 → In16 (r i)) (hx : Valid4 x) (L : Lies w v 40 d) (L' : Lies w v' 40 r) :
    Calls Try.prog 14 #[v, v', .agg (row 4 x)] w fun e w' => e = .returned (.tuple #[.int .i64 (sC d x), .int .i64 (sE d r x), .int .i64 0]) ∧ Below w.heap.size w w' := Score_any d r x hd hr hx L L'
set_option maxHeartbeats 6400000 in
set_option maxRecDepth 100000 in
theorem allBest_in (d r x x0 : Nat → Int) (P P' : Option Addr) (n cap n' cap' : Nat) (w : World) (hd : ∀ i, i < 40 → -1099511627776 ≤ d i ∧ d i ≤ 1099511627776) (hr : ∀ i, i < 40 → In16 (r i)) (hx : Valid4 x)
    (c1 : ∀ w' : World, Below w.heap.size w w' → Calls Try.prog 13 #[.slice P n cap] w' fun e w'' => ∃ g, e = .returned (.slice (some ⟨g, 0, none⟩) 40 40) ∧ Has w' w'' [(g, 3, row 40 d)])
    (c2 : ∀ w' : World, Below w.heap.size w w' → Calls Try.prog 11 #[.slice P' n' cap', .int .i64 40] w' fun e w'' => ∃ g, e = .returned (.slice (some ⟨g, 0, none⟩) 40 40) ∧ Has w' w'' [(g, 3, row 40 r)])
    (c3 : ∀ w : World, Calls Try.prog 7 #[.agg (row 4 x0)] w fun e w' => e = .returned (.agg (row 4 x)) ∧ Below w.heap.size w w') :
    Calls Try.prog 6 #[.slice P n cap, .slice P' n' cap', .agg (row 4 x0)] w fun e w' => e = .returned (.bool true) ∧ Below w.heap.size w w' := by
  have H := Has.start w
  have C1 := Lib.hid c1
  have C2 := Lib.hid c2
  have C3 := Lib.hid c3
  have HX := Lib.hid hx
  have HD := Lib.hid hd
  have HR := Lib.hid hr
  clear c1 c2 c3 hx hd hr
  go_enter Try.func6, Try.ntmps6
  go_wp2_with ((refine wpList_on (o := ⟨_, .box _ (.tmp 2), _, _, _, _⟩) rfl (fun K hK => ?_)); refine wp_box H _ (.tmp 2) rfl (v := .agg _) rfl ?_; clear H; intro u gx H; refine hK _ _ ?_; clear hK K; try simp only [Value.cells, List.cons_append, List.nil_append] at H)
  refine wp_region_ordB [] [] (fun w' => Has w w' [(gx, 22, row 4 x0)]) [] [[0, 2, 4, 1, 3, 5, 6, 7, 8]] (by kernel_rfl) (by kernel_rfl) (by kernel_rfl) ?_; replace H := H.drew; generalize World.drew _ = u at *; simp only [List.forall_mem_cons, List.not_mem_nil, false_imp_iff, implies_true, and_true]; (repeat' refine And.intro ?_ ?_)
  repeat (first | (refine sq_load_all (o := ⟨_, .load 22 _, _, _, _, _⟩) 22 _ rfl rfl rfl rfl rfl (H.sub (by repeat (first | exact List.Sublist.refl _ | exact List.nil_sublist _ | apply List.Sublist.cons_cons | apply List.Sublist.cons | refine List.Sublist.trans ?_ (List.sublist_append_right _ _)))) (by repeat (first | exact List.mem_cons_self | apply List.mem_cons_of_mem | apply List.mem_append_right)) (by kernel_rfl) ?_; simp only [Act.put, List.setIfInBounds_toArray, List.set_cons_zero, List.set_cons_succ]) | (refine sq_keep (o := ⟨_, .call _, _, _, _, _⟩) rfl rfl rfl (fun K hK => ?_); go_simp; (go_at_call 13; (with_reducible refine (C1.out _ H.below).mono ?_); rintro e u ⟨gd, rfl, hb⟩; replace H := H.joinR hb; clear hb; (try simp only [List.cons_append, List.nil_append] at H)); refine hK _ _ (H.sub (by repeat (first | exact List.Sublist.refl _ | exact List.nil_sublist _ | apply List.Sublist.cons_cons | apply List.Sublist.cons | refine List.Sublist.trans ?_ (List.sublist_append_right _ _)))) ?_; clear hK K; try simp only [Act.put, List.setIfInBounds_toArray, List.set_cons_zero, List.set_cons_succ]) | (refine sq_keep (o := ⟨_, .call _, _, _, _, _⟩) rfl rfl rfl (fun K hK => ?_); go_simp; (go_at_call 11; (with_reducible refine (C2.out _ H.below).mono ?_); rintro e u ⟨gr, rfl, hb⟩; replace H := H.joinR hb; clear hb; (try simp only [List.cons_append, List.nil_append] at H)); refine hK _ _ (H.sub (by repeat (first | exact List.Sublist.refl _ | exact List.nil_sublist _ | apply List.Sublist.cons_cons | apply List.Sublist.cons | refine List.Sublist.trans ?_ (List.sublist_append_right _ _)))) ?_; clear hK K; try simp only [Act.put, List.setIfInBounds_toArray, List.set_cons_zero, List.set_cons_succ]) | (refine sq_keep (o := ⟨_, .call _, _, _, _, _⟩) rfl rfl rfl (fun K hK => ?_); go_simp; (go_at_call 7; (with_reducible refine (C3.out _).mono ?_); rintro e u ⟨rfl, hb⟩; replace H := H.callee hb; clear hb); refine hK _ _ (H.sub (by repeat (first | exact List.Sublist.refl _ | exact List.nil_sublist _ | apply List.Sublist.cons_cons | apply List.Sublist.cons | refine List.Sublist.trans ?_ (List.sublist_append_right _ _)))) ?_; clear hK K; try simp only [Act.put, List.setIfInBounds_toArray, List.set_cons_zero, List.set_cons_succ]) | (refine sq_eff (o := ⟨_, .store 22 _ _, _, _, _, _⟩) rfl rfl rfl (fun K hK => ?_); refine wp_store_all (l1 := []) H 22 _ _ rfl rfl rfl (by kernel_rfl) (by simp [row_size]) (row_one _ _) ?_; clear H; intro u H; (try simp only [Value.cells, List.cons_append, List.nil_append] at H); refine hK _ _ ?_; clear hK K; simp only [Act.put, List.setIfInBounds_toArray, List.set_cons_zero, List.set_cons_succ]) | (refine sq_free (o := ⟨_, _, _, _, _, _⟩) (v := ?_) rfl rfl rfl ?_ ?_; rotate_left; (intro w'; go_simp; try with_reducible rfl); simp only [Act.put, List.setIfInBounds_toArray, List.set_cons_zero, List.set_cons_succ]))
  refine sq_nil ?_
  clear C1 C2 C3
  go_wp2_with fail
  refine (All_any d r HD.out HR.out (H.lies (by repeat (first | exact List.mem_cons_self | apply List.mem_cons_of_mem | apply List.mem_append_right)) (Nat.le_refl _)) (H.lies (by repeat (first | exact List.mem_cons_self | apply List.mem_cons_of_mem | apply List.mem_append_right)) (Nat.le_refl _))).mono ?_
  rintro e w1 ⟨a, s, va, s0, s1, ha, rfl, hb⟩
  replace H := H.callee hb
  clear hb
  have HA := Lib.hid ha
  have VA := Lib.hid va
  clear ha va
  go_wp2_with (first | (refine wpList_on (o := ⟨some 7, .alloc 22, _, _, _, _⟩) rfl (fun K hK => ?_); refine wp_alloc H 22 rfl (z := (.agg (row 4 fun _ => 0))) (by kernel_rfl) ?_; clear H; intro u g7 H; refine hK _ _ ?_; clear hK K; try simp only [Value.cells, List.cons_append, List.nil_append] at H) | ((refine wpList_on (o := ⟨_, .store 22 _ _, _, _, _, _⟩) rfl (fun K hK => ?_)); refine wp_store_all (l1 := []) H 22 _ _ rfl rfl rfl (by kernel_rfl) (by simp [row_size]) (row_one _ _) ?_; clear H; intro u H; refine hK _ _ ?_; clear hK K; try simp only [Value.cells, List.cons_append, List.nil_append] at H))
  refine (Few_any d r HD.out HR.out (H.lies (by repeat (first | exact List.mem_cons_self | apply List.mem_cons_of_mem | apply List.mem_append_right)) (Nat.le_refl _)) (H.lies (by repeat (first | exact List.mem_cons_self | apply List.mem_cons_of_mem | apply List.mem_append_right)) (Nat.le_refl _))).mono ?_
  rintro e w1 ⟨b, t, vb, t0, t1, hfew, rfl, hb⟩
  replace H := H.callee hb
  clear hb
  have VB := Lib.hid vb
  have B1 : Hid (∀ w : World, _) := fun w => Better_of (HA.out x HX.out) (sC_bd HD.out HX.out) (sE_bd HR.out HX.out) (sC_bd HD.out VA.out) (sE_bd HR.out VA.out) w
  have B2 : Hid (∀ w : World, _) := fun w => Better_of (HA.out b VB.out) (sC_bd HD.out VB.out) (sE_bd HR.out VB.out) (sC_bd HD.out VA.out) (sE_bd HR.out VA.out) w
  have B3 : Hid (∀ w : World, _) := fun w => Better_of hfew (sC_bd HD.out (fun i _ => show (0 : Int) ≤ 0 ∧ (0 : Int) ≤ 9 by omega)) (sE_bd HR.out (fun i _ => show (0 : Int) ≤ 0 ∧ (0 : Int) ≤ 9 by omega)) (sC_bd HD.out VB.out) (sE_bd HR.out VB.out) w
  clear hfew vb HA
  have d1 := lt_no s0
  have d2 := lt_no s1
  have d3 := lt_no t0
  have d4 := lt_no t1
  go_wp2_with (first | (refine wpList_on (o := ⟨some 10, .alloc 22, _, _, _, _⟩) rfl (fun K hK => ?_); refine wp_alloc H 22 rfl (z := (.agg (row 4 fun _ => 0))) (by kernel_rfl) ?_; clear H; intro u g10 H; refine hK _ _ ?_; clear hK K; try simp only [Value.cells, List.cons_append, List.nil_append] at H) | ((refine wpList_on (o := ⟨_, .store 22 _ _, _, _, _, _⟩) rfl (fun K hK => ?_)); refine wp_store_all (l1 := []) H 22 _ _ rfl rfl rfl (by kernel_rfl) (by simp [row_size]) (row_one _ _) ?_; clear H; intro u H; refine hK _ _ ?_; clear hK K; try simp only [Value.cells, List.cons_append, List.nil_append] at H) | ((refine wpList_on (o := ⟨_, .load 22 _, _, _, _, _⟩) rfl (fun K hK => ?_)); refine wp_load_all H 22 _ rfl rfl (by repeat (first | exact List.mem_cons_self | apply List.mem_cons_of_mem | apply List.mem_append_right)) (by kernel_rfl) ?_; refine hK _ _ ?_; clear hK K) | (go_at_call 10; (with_reducible refine (rings_any _).mono ?_); rintro e w1 ⟨rfl, hb⟩; replace H := H.callee hb; clear hb))
  refine (Score_of d r a HD.out HR.out VA.out (H.lies (by repeat (first | exact List.mem_cons_self | apply List.mem_cons_of_mem | apply List.mem_append_right)) (Nat.le_refl _)) (H.lies (by repeat (first | exact List.mem_cons_self | apply List.mem_cons_of_mem | apply List.mem_append_right)) (Nat.le_refl _))).mono ?_
  rintro e w1 ⟨rfl, hb⟩
  replace H := H.callee hb
  clear hb d1 d2 d3 d4
  generalize sC d a = Ca at *
  generalize sE d r a = Ea at *
  go_wp2_with (first | ((refine wpList_on (o := ⟨_, .load 22 _, _, _, _, _⟩) rfl (fun K hK => ?_)); refine wp_load_all H 22 _ rfl rfl (by repeat (first | exact List.mem_cons_self | apply List.mem_cons_of_mem | apply List.mem_append_right)) (by kernel_rfl) ?_; refine hK _ _ ?_; clear hK K))
  refine (Score_of d r b HD.out HR.out VB.out (H.lies (by repeat (first | exact List.mem_cons_self | apply List.mem_cons_of_mem | apply List.mem_append_right)) (Nat.le_refl _)) (H.lies (by repeat (first | exact List.mem_cons_self | apply List.mem_cons_of_mem | apply List.mem_append_right)) (Nat.le_refl _))).mono ?_
  rintro e w1 ⟨rfl, hb⟩
  replace H := H.callee hb
  clear hb
  generalize sC d b = Cb at *
  generalize sE d r b = Eb at *
  go_wp2_with (first | ((refine wpList_on (o := ⟨_, .load 22 _, _, _, _, _⟩) rfl (fun K hK => ?_)); refine wp_load_all H 22 _ rfl rfl (by repeat (first | exact List.mem_cons_self | apply List.mem_cons_of_mem | apply List.mem_append_right)) (by kernel_rfl) ?_; refine hK _ _ ?_; clear hK K))
  refine (Score_of d r x HD.out HR.out HX.out (H.lies (by repeat (first | exact List.mem_cons_self | apply List.mem_cons_of_mem | apply List.mem_append_right)) (Nat.le_refl _)) (H.lies (by repeat (first | exact List.mem_cons_self | apply List.mem_cons_of_mem | apply List.mem_append_right)) (Nat.le_refl _))).mono ?_
  rintro e w1 ⟨rfl, hb⟩
  replace H := H.callee hb
  clear hb
  generalize sC d x = Cx at *
  generalize sE d r x = Ex at *
  go_wp2_with (first | ((refine wpList_on (o := ⟨_, .load 22 _, _, _, _, _⟩) rfl (fun K hK => ?_)); refine wp_load_all H 22 _ rfl rfl (by repeat (first | exact List.mem_cons_self | apply List.mem_cons_of_mem | apply List.mem_append_right)) (by kernel_rfl) ?_; refine hK _ _ ?_; clear hK K))
  refine (Score_of d r (fun _ => 0) HD.out HR.out (fun i _ => show (0 : Int) ≤ 0 ∧ (0 : Int) ≤ 9 by omega) (H.lies (by repeat (first | exact List.mem_cons_self | apply List.mem_cons_of_mem | apply List.mem_append_right)) (Nat.le_refl _)) (H.lies (by repeat (first | exact List.mem_cons_self | apply List.mem_cons_of_mem | apply List.mem_append_right)) (Nat.le_refl _))).mono ?_
  rintro e w1 ⟨rfl, hb⟩
  replace H := H.callee hb
  clear hb
  generalize (sC d fun _ => 0) = Cz at *
  generalize (sE d r fun _ => 0) = Ez at *
  go_wp2_with (first | (go_at_call 17; (with_reducible refine (B1.out _).mono ?_); rintro e w1 ⟨rfl, hb⟩; replace H := H.callee hb; clear hb) | (go_at_call 17; (with_reducible refine (B2.out _).mono ?_); rintro e w1 ⟨rfl, hb⟩; replace H := H.callee hb; clear hb) | (go_at_call 17; (with_reducible refine (B3.out _).mono ?_); rintro e w1 ⟨rfl, hb⟩; replace H := H.callee hb; clear hb))
  go_ret
  exact ⟨rfl, H.below⟩
theorem allBest_walk (P : Option Addr) (n cap : Nat) (ad : Addr) (f : Nat → Int) (hn : n ≤ 9223372036854775807) {w : World} (hR : ReadsA w P n ad f) (P' : Option Addr) (n' cap' : Nat) (ad' : Addr) (f' : Nat → Int) (hn' : n' ≤ 9223372036854775807) (hR' : ReadsA w P' n' ad' f') (x : Nat → Int) :
    Calls Try.prog 6 #[.slice P n cap, .slice P' n' cap', .agg (row 4 x)] w fun e w' => e = .returned (.bool true) ∧ Below w.heap.size w w' :=
  allBest_in (tgtF n f) (listF n' f') (indexI x) x P P' n cap n' cap' w (fun i _ => tgtF_bd n f i) (fun i _ => listF_bd n' f' i) (fun i _ => indexI_bd x i)
    (fun w' hb => targets_any P n cap ad f w' hn (hR.below hb))
    (fun w' hb => lists_any P' n' cap' ad' f' 40 w' hn' (by omega) (by omega) (hR'.below hb))
    (fun w => index_any x w)
end Go.Proofs.Ytabplcaeglnalaa
