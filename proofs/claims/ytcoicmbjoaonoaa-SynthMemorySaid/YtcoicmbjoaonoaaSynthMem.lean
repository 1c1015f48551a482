/-
  The walk of SynthMemory. No statement is proved here.
-/
import Derived.Test.YtcoicmbjoaonoaaSynthBack
import Derived.Test.YtcoicmbjoaonoaaFold
import Derived.Test.YtcoicmbjoaonoaaHigh
import Derived.Test.YtcoicmbjoaonoaaMemory
import Derived.Test.YtcoicmbjoaonoaaRegTwo
namespace Go.Proofs.Ytcoicmbjoaonoaa
open Go.RowKit
theorem roomF_in {n : Nat} {f : Nat → Int} (hf : ∀ i, In16 (f i)) (i : Nat) : In16 (roomF n f i) := by
  unfold roomF
  split
  · exact hf i
  · split <;> (unfold In16; omega)
theorem HighM_l {q f : Nat → Int} {n : Nat} {v : Value} {u : World} (hn : n ≤ 17592186044416) (hq : ∀ i, i < 4 → In16 (q i)) (hf : ∀ i, i < n → In16 (f i)) (L : Lies u v n f) : Calls Try.prog 12 #[.agg (row 4 q), v] u (HighPost f q n u) := by
  obtain ⟨P, cap, b, o, rfl, R⟩ := L
  exact High_yes q f P n cap b o u hn hq hf R
theorem zero4 : (#[.int .i64 0, .int .i64 0, .int .i64 0, .int .i64 0] : Array Value) = row 4 (fun _ => 0) := rfl
set_option maxHeartbeats 12800000 in
set_option maxRecDepth 100000 in
theorem synthMemory_in (a0 p0 a p f : Nat → Int) (P : Option Addr) (n cap M : Nat) (w : World) (hn : n ≤ 9223372036854775807) (hM0 : M ≤ 80) (hM : (if (80 : Int) < (n : Int) then (80 : Int) else (n : Int)) = (M : Int))
    (ha : ∀ i, i < 9 → -1048576 ≤ a i ∧ a i ≤ 1048576) (h0 : a 0 = 4096) (hp : ∀ i, i < 8 → In16 (p i)) (hf : ∀ i, In16 (f i))
    (c1 : ∀ w : World, Calls Try.prog 5 #[.agg (row 9 a0)] w fun e w' => e = .returned (.agg (row 9 a)) ∧ Below w.heap.size w w')
    (c2 : ∀ w : World, Calls Try.prog 6 #[.agg (row 8 p0)] w fun e w' => e = .returned (.agg (row 8 p)) ∧ Below w.heap.size w w')
    (c3 : ∀ w' : World, Below w.heap.size w w' → Calls Try.prog 7 #[.slice P n cap, .int .i64 M] w' fun e w'' => ∃ g, e = .returned (.slice (some ⟨g, 0, none⟩) M M) ∧ Has w' w'' [(g, 3, row M f)]) :
    Calls Try.prog 3 #[.agg (row 9 a0), .agg (row 8 p0), .slice P n cap] w fun e w' => e = .returned (.bool true) ∧ Below w.heap.size w w' := by
  have H := Has.start w
  have C1 := Lib.hid c1
  have C2 := Lib.hid c2
  have C3 := Lib.hid c3
  have HA := Lib.hid ha
  have HP := Lib.hid hp
  have HF := Lib.hid hf
  have HR := Lib.hid (fun i => roomF_in (n := M) hf i)
  have H0 := Lib.hid h0
  clear c1 c2 c3 ha hp hf h0
  go_enter Try.func3, Try.ntmps3
  go_wp2_with (first | ((refine wpList_on (o := ⟨_, .box _ (.tmp 0), _, _, _, _⟩) rfl (fun K hK => ?_)); refine wp_box H _ (.tmp 0) rfl (v := .agg _) rfl ?_; clear H; intro u ga H; refine hK _ _ ?_; clear hK K; try simp only [Value.cells, List.cons_append, List.nil_append] at H) | ((refine wpList_on (o := ⟨_, .box _ (.tmp 1), _, _, _, _⟩) rfl (fun K hK => ?_)); refine wp_box H _ (.tmp 1) rfl (v := .agg _) rfl ?_; clear H; intro u gp H; refine hK _ _ ?_; clear hK K; try simp only [Value.cells, List.cons_append, List.nil_append] at H))
  refine wp_region_ordB [] [] (fun w' => Has w w' [(gp, 23, row 8 p0), (ga, 22, row 9 a0)]) [] [[0, 2, 1, 3, 4, 5, 6, 7, 8, 9, 10, 11]] (by kernel_rfl) (by kernel_rfl) (by kernel_rfl) ?_; replace H := H.drew; generalize World.drew _ = u at *; simp only [List.forall_mem_cons, List.not_mem_nil, false_imp_iff, implies_true, and_true]; (repeat' refine And.intro ?_ ?_)
  repeat (first | (refine sq_load_all (o := ⟨_, .load 22 _, _, _, _, _⟩) 22 _ rfl rfl rfl rfl rfl (H.sub (by repeat (first | exact List.Sublist.refl _ | exact List.nil_sublist _ | apply List.Sublist.cons_cons | apply List.Sublist.cons | refine List.Sublist.trans ?_ (List.sublist_append_right _ _)))) (by repeat (first | exact List.mem_cons_self | apply List.mem_cons_of_mem | apply List.mem_append_right)) (by kernel_rfl) ?_; simp only [Act.put, List.setIfInBounds_toArray, List.set_cons_zero, List.set_cons_succ]) | (refine sq_load_all (o := ⟨_, .load 23 _, _, _, _, _⟩) 23 _ rfl rfl rfl rfl rfl (H.sub (by repeat (first | exact List.Sublist.refl _ | exact List.nil_sublist _ | apply List.Sublist.cons_cons | apply List.Sublist.cons | refine List.Sublist.trans ?_ (List.sublist_append_right _ _)))) (by repeat (first | exact List.mem_cons_self | apply List.mem_cons_of_mem | apply List.mem_append_right)) (by kernel_rfl) ?_; simp only [Act.put, List.setIfInBounds_toArray, List.set_cons_zero, List.set_cons_succ]) | (refine sq_keep (o := ⟨_, .call _, _, _, _, _⟩) rfl rfl rfl (fun K hK => ?_); go_simp; (go_at_call 5; (with_reducible refine (C1.out _).mono ?_); rintro e u ⟨rfl, hb⟩; replace H := H.callee hb; clear hb); refine hK _ _ (H.sub (by repeat (first | exact List.Sublist.refl _ | exact List.nil_sublist _ | apply List.Sublist.cons_cons | apply List.Sublist.cons | refine List.Sublist.trans ?_ (List.sublist_append_right _ _)))) ?_; clear hK K; try simp only [Act.put, List.setIfInBounds_toArray, List.set_cons_zero, List.set_cons_succ]) | (refine sq_keep (o := ⟨_, .call _, _, _, _, _⟩) rfl rfl rfl (fun K hK => ?_); go_simp; (go_at_call 6; (with_reducible refine (C2.out _).mono ?_); rintro e u ⟨rfl, hb⟩; replace H := H.callee hb; clear hb); refine hK _ _ (H.sub (by repeat (first | exact List.Sublist.refl _ | exact List.nil_sublist _ | apply List.Sublist.cons_cons | apply List.Sublist.cons | refine List.Sublist.trans ?_ (List.sublist_append_right _ _)))) ?_; clear hK K; try simp only [Act.put, List.setIfInBounds_toArray, List.set_cons_zero, List.set_cons_succ]) | (refine sq_keep (o := ⟨_, .call _, _, _, _, _⟩) rfl rfl rfl (fun K hK => ?_); go_simp; ((try rw [hM]); go_at_call 7; (with_reducible refine (C3.out _ H.below).mono ?_); rintro e u ⟨gl, rfl, hb⟩; replace H := H.join hb; clear hb; simp only [List.cons_append, List.nil_append] at H); refine hK _ _ (H.sub (by repeat (first | exact List.Sublist.refl _ | exact List.nil_sublist _ | apply List.Sublist.cons_cons | apply List.Sublist.cons | refine List.Sublist.trans ?_ (List.sublist_append_right _ _)))) ?_; clear hK K; try simp only [Act.put, List.setIfInBounds_toArray, List.set_cons_zero, List.set_cons_succ]) | (refine sq_eff (o := ⟨_, .store 22 _ _, _, _, _, _⟩) rfl rfl rfl (fun K hK => ?_); refine wp_store_all (l1 := [_, _]) H 22 _ _ rfl rfl rfl (by kernel_rfl) (by simp [row_size]) (row_one _ _) ?_; clear H; intro u H; (try simp only [Value.cells, List.cons_append, List.nil_append] at H); refine hK _ _ ?_; clear hK K; simp only [Act.put, List.setIfInBounds_toArray, List.set_cons_zero, List.set_cons_succ]) | (refine sq_eff (o := ⟨_, .store 23 _ _, _, _, _, _⟩) rfl rfl rfl (fun K hK => ?_); refine wp_store_all (l1 := [_]) H 23 _ _ rfl rfl rfl (by kernel_rfl) (by simp [row_size]) (row_one _ _) ?_; clear H; intro u H; (try simp only [Value.cells, List.cons_append, List.nil_append] at H); refine hK _ _ ?_; clear hK K; simp only [Act.put, List.setIfInBounds_toArray, List.set_cons_zero, List.set_cons_succ]) | (refine sq_free (o := ⟨_, _, _, _, _, _⟩) (v := ?_) rfl rfl rfl ?_ ?_; rotate_left; (intro w'; go_simp; try with_reducible rfl); simp only [Act.put, List.setIfInBounds_toArray, List.set_cons_zero, List.set_cons_succ]))
  refine sq_nil ?_
  clear C1 C2 C3 hM
  go_wp2_with (first | (go_at_call 8; (with_reducible refine (roomy_any gl M M f _ (by omega) (Reads.ofRow H (by repeat (first | exact List.mem_cons_self | apply List.mem_cons_of_mem | apply List.mem_append_right)) (Nat.le_refl _))).mono ?_); rintro e u ⟨gm, rfl, hb⟩; replace H := H.joinR hb; clear hb; (try simp only [List.cons_append, List.nil_append, List.append_assoc] at H)) | ((refine wpList_on (o := ⟨_, .load 22 _, _, _, _, _⟩) rfl (fun K hK => ?_)); refine wp_load_all H 22 _ rfl rfl (by repeat (first | exact List.mem_cons_self | apply List.mem_cons_of_mem | apply List.mem_append_right)) (by kernel_rfl) ?_; refine hK _ _ ?_; clear hK K) | ((refine wpList_on (o := ⟨_, .load 23 _, _, _, _, _⟩) rfl (fun K hK => ?_)); refine wp_load_all H 23 _ rfl rfl (by repeat (first | exact List.mem_cons_self | apply List.mem_cons_of_mem | apply List.mem_append_right)) (by kernel_rfl) ?_; refine hK _ _ ?_; clear hK K) | (go_at_call 9; (with_reducible refine (Make_l (f := roomF M f) (by omega) HA.out H0.out HP.out (fun i _ => HR.out i) (H.lies (by repeat (first | exact List.mem_cons_self | apply List.mem_cons_of_mem | apply List.mem_append_right)) (by omega))).mono ?_); rintro e u ⟨v1, tl1, rfl, RO1, hb⟩; replace H := H.joinR hb; clear hb; (try simp only [List.cons_append, List.nil_append, List.append_assoc] at H)) | (go_at_call 10; (with_reducible refine (Undo_l (f := roomF M f) (by omega) HA.out H0.out HP.out (fun i _ => HR.out i) (H.lies (by repeat (first | exact List.mem_cons_self | apply List.mem_cons_of_mem | apply List.mem_append_right)) (by omega))).mono ?_); rintro e u ⟨v2, tl2, rfl, RO2, hb⟩; replace H := H.joinR hb; clear hb; (try simp only [List.cons_append, List.nil_append, List.append_assoc] at H)) | (go_at_call 11; (with_reducible refine (Fold_l (a := roomF M f) (b := roomF M f) (by omega) (fun i _ => HR.out i) (fun i _ => HR.out i) (H.lies (by repeat (first | exact List.mem_cons_self | apply List.mem_cons_of_mem | apply List.mem_append_right)) (by omega)) (H.lies (by repeat (first | exact List.mem_cons_self | apply List.mem_cons_of_mem | apply List.mem_append_right)) (by omega))).mono ?_); rintro e u ⟨v3, tl3, rfl, RO3, hb⟩; replace H := H.joinR hb; clear hb; (try simp only [List.cons_append, List.nil_append, List.append_assoc] at H)) | (go_at_call 12; (try rw [zero4]); (with_reducible refine (HighM_l (q := fun _ => 0) (f := roomF M f) (by omega) (fun i _ => by unfold In16; omega) (fun i _ => HR.out i) (H.lies (by repeat (first | exact List.mem_cons_self | apply List.mem_cons_of_mem | apply List.mem_append_right)) (by omega))).mono ?_); rintro e u ⟨v4, tl4, rfl, RO4, hb⟩; replace H := H.joinR hb; clear hb; (try simp only [List.cons_append, List.nil_append, List.append_assoc] at H)) | (refine wpList_on (o := ⟨some 9, .alloc 23, _, _, _, _⟩) rfl (fun K hK => ?_); refine wp_alloc H 23 rfl (z := (.agg (row 8 fun _ => 0))) (by kernel_rfl) ?_; clear H; intro u g9 H; refine hK _ _ ?_; clear hK K; try simp only [Value.cells, List.cons_append, List.nil_append] at H) | (refine wpList_on (o := ⟨some 12, .alloc 23, _, _, _, _⟩) rfl (fun K hK => ?_); refine wp_alloc H 23 rfl (z := (.agg (row 8 fun _ => 0))) (by kernel_rfl) ?_; clear H; intro u g12 H; refine hK _ _ ?_; clear hK K; try simp only [Value.cells, List.cons_append, List.nil_append] at H) | (refine wpList_on (o := ⟨some 17, .alloc 36, _, _, _, _⟩) rfl (fun K hK => ?_); refine wp_alloc H 36 rfl (z := (.agg (row 4 fun _ => 0))) (by kernel_rfl) ?_; clear H; intro u g17 H; refine hK _ _ ?_; clear hK K; try simp only [Value.cells, List.cons_append, List.nil_append] at H) | ((refine wpList_on (o := ⟨_, .store 23 _ _, _, _, _, _⟩) rfl (fun K hK => ?_)); refine wp_store_all (l1 := []) H 23 _ _ rfl rfl rfl (by kernel_rfl) (by simp [row_size]) (row_one _ _) ?_; clear H; intro u H; refine hK _ _ ?_; clear hK K; try simp only [Value.cells, List.cons_append, List.nil_append] at H) | ((refine wpList_on (o := ⟨_, .store 36 _ _, _, _, _, _⟩) rfl (fun K hK => ?_)); refine wp_store_all (l1 := []) H 36 _ _ rfl rfl rfl (by kernel_rfl) (by simp [row_size]) (row_one _ _) ?_; clear H; intro u H; refine hK _ _ ?_; clear hK K; try simp only [Value.cells, List.cons_append, List.nil_append] at H))
  replace H : Has w u ((gl, 3, row M f) :: (gm, 3, row (M + 2) (roomF M f)) :: (tl1 ++ (tl2 ++ (tl3 ++ tl4)))) := H.sub (by repeat (first | exact List.Sublist.refl _ | apply List.Sublist.cons_cons | apply List.Sublist.cons))
  replace H : Has w u (((gl, 3, row M f) :: (gm, 3, row (M + 2) (roomF M f)) :: (tl2 ++ (tl3 ++ tl4))) ++ tl1) := H.perm ((List.perm_append_comm.cons _).cons _)
  refine (scribble_own (by omega) RO1 H).mono ?_
  clear H RO1
  rintro e u ⟨rfl, H⟩
  go_wp2_with fail
  replace H : Has w u (((gl, 3, row M f) :: (gm, 3, row (M + 2) (roomF M f)) :: (tl3 ++ tl4)) ++ tl2) := H.perm ((List.perm_append_comm.cons _).cons _)
  refine (scribble_own (by omega) RO2 H).mono ?_
  clear H RO2
  rintro e u ⟨rfl, H⟩
  go_wp2_with fail
  replace H : Has w u (((gl, 3, row M f) :: (gm, 3, row (M + 2) (roomF M f)) :: tl4) ++ tl3) := H.perm ((List.perm_append_comm.cons _).cons _)
  refine (scribble_own (by omega) RO3 H).mono ?_
  clear H RO3
  rintro e u ⟨rfl, H⟩
  go_wp2_with fail
  replace H : Has w u (((gl, 3, row M f) :: (gm, 3, row (M + 2) (roomF M f)) :: []) ++ tl4) := H
  refine (scribble_own (by omega) RO4 H).mono ?_
  clear H RO4
  rintro e u ⟨rfl, H⟩
  go_wp2_with (first | (go_at_call 16; (with_reducible refine (filters_any _).mono ?_); rintro e w1 ⟨rfl, hb⟩; replace H := H.callee hb; clear hb) | (go_at_call 14; (with_reducible refine (Correlate_no _ _ _ _ (by omega)).mono ?_); rintro e u ⟨v5, rfl, hb⟩; replace H := H.callee hb; clear hb) | (go_at_call 15; (with_reducible refine (Open_no _ _ _ _ (by omega)).mono ?_); rintro e u ⟨v6, rfl, hb⟩; replace H := H.callee hb; clear hb) | (go_at_call 17; (with_reducible refine (stayed_any gm gl M f _ (by omega) (fun i hi => ((H.at_ (by repeat (first | exact List.mem_cons_self | apply List.mem_cons_of_mem | apply List.mem_append_right))).cell i).trans (row_get _ hi)) (Reads.ofRow H (by repeat (first | exact List.mem_cons_self | apply List.mem_cons_of_mem | apply List.mem_append_right)) (Nat.le_refl _))).mono ?_); rintro e u ⟨rfl, hb⟩; replace H := H.callee hb; clear hb))
  go_ret
  exact ⟨rfl, H.below⟩
theorem synthMemory_walk (a p : Nat → Int) (P : Option Addr) (n cap : Nat) (ad : Addr) (f : Nat → Int) (hn : n ≤ 9223372036854775807) {w : World} (hR : ReadsA w P n ad f) :
    Calls Try.prog 3 #[.agg (row 9 a), .agg (row 8 p), .slice P n cap] w fun e w' => e = .returned (.bool true) ∧ Below w.heap.size w w' := by
  refine synthMemory_in a p (predI a) (pastI p) (listF n f) P n cap (min n 80) w hn (by omega) (by split <;> omega) (predI_bd a) rfl (pastI_bd p) (listF_in n f) (fun w => predictor_any a w) (fun w => past_any p w)
    (fun w' hb => lists_any P n cap ad f (min n 80 : Nat) w' hn (by omega) (by omega) (hR.below hb))
end Go.Proofs.Ytcoicmbjoaonoaa
