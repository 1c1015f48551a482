/-
  The walk of SynthBack. No statement is proved here.
-/
import Derived.Test.YtakacoiknapjiaaFilters
import Derived.Test.YtakacoiknapjiaaLies
namespace Go.Proofs.Ytakacoiknapjiaa
open Go.RowKit
theorem pastI_bd (p : Nat → Int) : ∀ i, i < 8 → In16 (pastI p i) := fun i _ => s16I_bd _
theorem listF_in (n : Nat) (f : Nat → Int) : ∀ i, In16 (listF n f i) := fun i => listF_bd n f i
theorem predI_0 (a : Nat → Int) : predI a 0 = 4096 := rfl
theorem Make_l {a p f : Nat → Int} {n : Nat} {v : Value} {u : World} (hn : n ≤ 17592186044416) (ha : ∀ i, i < 9 → -1048576 ≤ a i ∧ a i ≤ 1048576) (h0 : a 0 = 4096) (hp : ∀ i, i < 8 → In16 (p i)) (hf : ∀ i, i < n → In16 (f i)) (L : Lies u v n f) :
    Calls Try.prog 19 #[.agg (row 9 a), .agg (row 8 p), v] u (MkPost a f p n u) := by
  obtain ⟨P, cap, b, o, rfl, R⟩ := L
  exact Make_any a p f P n cap b o u hn ha hp hf h0 R
theorem Undo_l {a p f : Nat → Int} {n : Nat} {v : Value} {u : World} (hn : n ≤ 17592186044416) (ha : ∀ i, i < 9 → -1048576 ≤ a i ∧ a i ≤ 1048576) (h0 : a 0 = 4096) (hp : ∀ i, i < 8 → In16 (p i)) (hf : ∀ i, i < n → In16 (f i)) (L : Lies u v n f) :
    Calls Try.prog 21 #[.agg (row 9 a), .agg (row 8 p), v] u (UdPost a f p n u) := by
  obtain ⟨P, cap, b, o, rfl, R⟩ := L
  exact Undo_any a p f P n cap b o u hn ha hp hf h0 R
theorem ends_l {f : Nat → Int} {n : Nat} {v : Value} {u : World} (hn : n ≤ 9223372036854775807) (L : Lies u v n f) : Calls Try.prog 22 #[v] u (EndsPost n f u) := by
  obtain ⟨P, cap, b, o, rfl, R⟩ := L
  exact ends_any P n cap b o f u hn R
set_option maxHeartbeats 6400000 in
set_option maxRecDepth 100000 in
theorem synthBack_in (a0 p0 a p f : Nat → Int) (P : Option Addr) (n cap M : Nat) (w : World) (hn : n ≤ 9223372036854775807) (hM0 : M ≤ 200) (hM : (if (200 : Int) < (n : Int) then (200 : Int) else (n : Int)) = (M : Int))
    (ha : ∀ i, i < 9 → -1048576 ≤ a i ∧ a i ≤ 1048576) (h0 : a 0 = 4096) (hp : ∀ i, i < 8 → In16 (p i)) (hf : ∀ i, In16 (f i))
    (c1 : ∀ w : World, Calls Try.prog 17 #[.agg (row 9 a0)] w fun e w' => e = .returned (.agg (row 9 a)) ∧ Below w.heap.size w w')
    (c2 : ∀ w : World, Calls Try.prog 18 #[.agg (row 8 p0)] w fun e w' => e = .returned (.agg (row 8 p)) ∧ Below w.heap.size w w')
    (c3 : ∀ w' : World, Below w.heap.size w w' → Calls Try.prog 16 #[.slice P n cap, .int .i64 M] w' fun e w'' => ∃ g, e = .returned (.slice (some ⟨g, 0, none⟩) M M) ∧ Has w' w'' [(g, 3, row M f)]) :
    Calls Try.prog 8 #[.agg (row 9 a0), .agg (row 8 p0), .slice P n cap] w fun e w' => e = .returned (.bool true) ∧ Below w.heap.size w w' := by
  have H := Has.start w
  have C1 := Lib.hid c1
  have C2 := Lib.hid c2
  have C3 := Lib.hid c3
  have HA := Lib.hid ha
  have HP := Lib.hid hp
  have HF := Lib.hid hf
  have H0 := Lib.hid h0
  clear c1 c2 c3 ha hp hf h0
  go_enter Try.func8, Try.ntmps8
  go_wp2_with (first | ((refine wpList_on (o := ⟨_, .box _ (.tmp 0), _, _, _, _⟩) rfl (fun K hK => ?_)); refine wp_box H _ (.tmp 0) rfl (v := .agg _) rfl ?_; clear H; intro u ga H; refine hK _ _ ?_; clear hK K; try simp only [Value.cells, List.cons_append, List.nil_append] at H) | ((refine wpList_on (o := ⟨_, .box _ (.tmp 1), _, _, _, _⟩) rfl (fun K hK => ?_)); refine wp_box H _ (.tmp 1) rfl (v := .agg _) rfl ?_; clear H; intro u gp H; refine hK _ _ ?_; clear hK K; try simp only [Value.cells, List.cons_append, List.nil_append] at H))
  refine wp_region_ordB [] [] (fun w' => Has w w' [(gp, 40, row 8 p0), (ga, 35, row 9 a0)]) [] [[0, 2, 1, 3, 4, 5, 6, 7, 8, 9, 10, 11]] (by kernel_rfl) (by kernel_rfl) (by kernel_rfl) ?_; replace H := H.drew; generalize World.drew _ = u at *; simp only [List.forall_mem_cons, List.not_mem_nil, false_imp_iff, implies_true, and_true]; (repeat' refine And.intro ?_ ?_)
  repeat (first | (refine sq_load_all (o := ⟨_, .load 35 _, _, _, _, _⟩) 35 _ rfl rfl rfl rfl rfl (H.sub (by repeat (first | exact List.Sublist.refl _ | exact List.nil_sublist _ | apply List.Sublist.cons_cons | apply List.Sublist.cons | refine List.Sublist.trans ?_ (List.sublist_append_right _ _)))) (by repeat (first | exact List.mem_cons_self | apply List.mem_cons_of_mem | apply List.mem_append_right)) (by kernel_rfl) ?_; simp only [Act.put, List.setIfInBounds_toArray, List.set_cons_zero, List.set_cons_succ]) | (refine sq_load_all (o := ⟨_, .load 40 _, _, _, _, _⟩) 40 _ rfl rfl rfl rfl rfl (H.sub (by repeat (first | exact List.Sublist.refl _ | exact List.nil_sublist _ | apply List.Sublist.cons_cons | apply List.Sublist.cons | refine List.Sublist.trans ?_ (List.sublist_append_right _ _)))) (by repeat (first | exact List.mem_cons_self | apply List.mem_cons_of_mem | apply List.mem_append_right)) (by kernel_rfl) ?_; simp only [Act.put, List.setIfInBounds_toArray, List.set_cons_zero, List.set_cons_succ]) | (refine sq_keep (o := ⟨_, .call _, _, _, _, _⟩) rfl rfl rfl (fun K hK => ?_); go_simp; (go_at_call 17; (with_reducible refine (C1.out _).mono ?_); rintro e u ⟨rfl, hb⟩; replace H := H.callee hb; clear hb); refine hK _ _ (H.sub (by repeat (first | exact List.Sublist.refl _ | exact List.nil_sublist _ | apply List.Sublist.cons_cons | apply List.Sublist.cons | refine List.Sublist.trans ?_ (List.sublist_append_right _ _)))) ?_; clear hK K; try simp only [Act.put, List.setIfInBounds_toArray, List.set_cons_zero, List.set_cons_succ]) | (refine sq_keep (o := ⟨_, .call _, _, _, _, _⟩) rfl rfl rfl (fun K hK => ?_); go_simp; (go_at_call 18; (with_reducible refine (C2.out _).mono ?_); rintro e u ⟨rfl, hb⟩; replace H := H.callee hb; clear hb); refine hK _ _ (H.sub (by repeat (first | exact List.Sublist.refl _ | exact List.nil_sublist _ | apply List.Sublist.cons_cons | apply List.Sublist.cons | refine List.Sublist.trans ?_ (List.sublist_append_right _ _)))) ?_; clear hK K; try simp only [Act.put, List.setIfInBounds_toArray, List.set_cons_zero, List.set_cons_succ]) | (refine sq_keep (o := ⟨_, .call _, _, _, _, _⟩) rfl rfl rfl (fun K hK => ?_); go_simp; ((try rw [hM]); go_at_call 16; (with_reducible refine (C3.out _ H.below).mono ?_); rintro e u ⟨gl, rfl, hb⟩; replace H := H.join hb; clear hb; (try simp only [List.cons_append, List.nil_append] at H)); refine hK _ _ (H.sub (by repeat (first | exact List.Sublist.refl _ | exact List.nil_sublist _ | apply List.Sublist.cons_cons | apply List.Sublist.cons | refine List.Sublist.trans ?_ (List.sublist_append_right _ _)))) ?_; clear hK K; try simp only [Act.put, List.setIfInBounds_toArray, List.set_cons_zero, List.set_cons_succ]) | (refine sq_eff (o := ⟨_, .store 35 _ _, _, _, _, _⟩) rfl rfl rfl (fun K hK => ?_); refine wp_store_all (l1 := [_, _]) H 35 _ _ rfl rfl rfl (by kernel_rfl) (by simp [row_size]) (row_one _ _) ?_; clear H; intro u H; (try simp only [Value.cells, List.cons_append, List.nil_append] at H); refine hK _ _ ?_; clear hK K; simp only [Act.put, List.setIfInBounds_toArray, List.set_cons_zero, List.set_cons_succ]) | (refine sq_eff (o := ⟨_, .store 40 _ _, _, _, _, _⟩) rfl rfl rfl (fun K hK => ?_); refine wp_store_all (l1 := [_]) H 40 _ _ rfl rfl rfl (by kernel_rfl) (by simp [row_size]) (row_one _ _) ?_; clear H; intro u H; (try simp only [Value.cells, List.cons_append, List.nil_append] at H); refine hK _ _ ?_; clear hK K; simp only [Act.put, List.setIfInBounds_toArray, List.set_cons_zero, List.set_cons_succ]) | (refine sq_free (o := ⟨_, _, _, _, _, _⟩) (v := ?_) rfl rfl rfl ?_ ?_; rotate_left; (intro w'; go_simp; try with_reducible rfl); simp only [Act.put, List.setIfInBounds_toArray, List.set_cons_zero, List.set_cons_succ]))
  refine sq_nil ?_
  clear C1 C2 C3 hM
  go_wp2_with (first | (go_at_call 19; (with_reducible refine (Make_l (by omega) HA.out H0.out HP.out (fun i _ => HF.out i) (H.lies (by repeat (first | exact List.mem_cons_self | apply List.mem_cons_of_mem | apply List.mem_append_right)) (Nat.le_refl _))).mono ?_); rintro e w1 ⟨v, tl, rfl, RO, hb⟩; replace H := H.join hb; clear hb; (try simp only [List.cons_append, List.nil_append] at H)) | (refine wpList_on (o := ⟨some 8, .alloc 40, _, _, _, _⟩) rfl (fun K hK => ?_); refine wp_alloc H 40 rfl (z := (.agg (row 8 fun _ => 0))) (by kernel_rfl) ?_; clear H; intro u g8 H; refine hK _ _ ?_; clear hK K; try simp only [Value.cells, List.cons_append, List.nil_append] at H) | ((refine wpList_on (o := ⟨_, .store 40 _ _, _, _, _, _⟩) rfl (fun K hK => ?_)); refine wp_store_all (l1 := []) H 40 _ _ rfl rfl rfl (by kernel_rfl) (by simp [row_size]) (row_one _ _) ?_; clear H; intro u H; refine hK _ _ ?_; clear hK K; try simp only [Value.cells, List.cons_append, List.nil_append] at H) | ((refine wpList_on (o := ⟨_, .load 35 _, _, _, _, _⟩) rfl (fun K hK => ?_)); refine wp_load_all H 35 _ rfl rfl (by repeat (first | exact List.mem_cons_self | apply List.mem_cons_of_mem | apply List.mem_append_right)) (by kernel_rfl) ?_; refine hK _ _ ?_; clear hK K) | ((refine wpList_on (o := ⟨_, .load 40 _, _, _, _, _⟩) rfl (fun K hK => ?_)); refine wp_load_all H 40 _ rfl rfl (by repeat (first | exact List.mem_cons_self | apply List.mem_cons_of_mem | apply List.mem_append_right)) (by kernel_rfl) ?_; refine hK _ _ ?_; clear hK K))
  refine (Undo_l (by omega) HA.out H0.out HP.out (fun i _ => mkOut_bd _ _ _ _) (RO.lies H (by repeat (first | exact List.Sublist.refl _ | exact List.sublist_append_left _ _ | apply List.Sublist.cons | refine List.Sublist.trans ?_ (List.sublist_append_right _ _))))).mono ?_
  rintro e w1 ⟨v2, tl2, rfl, RO2, hb⟩; replace H := H.join hb; clear hb; (try simp only [List.cons_append, List.nil_append] at H)
  go_wp2_with (first | (go_at_call 21; (with_reducible refine (Undo_l (by omega) HA.out H0.out HP.out (fun i _ => HF.out i) (H.lies (by repeat (first | exact List.mem_cons_self | apply List.mem_cons_of_mem | apply List.mem_append_right)) (Nat.le_refl _))).mono ?_); rintro e w1 ⟨v3, tl3, rfl, RO3, hb⟩; replace H := H.join hb; clear hb; (try simp only [List.cons_append, List.nil_append] at H)) | (refine wpList_on (o := ⟨some 11, .alloc 40, _, _, _, _⟩) rfl (fun K hK => ?_); refine wp_alloc H 40 rfl (z := (.agg (row 8 fun _ => 0))) (by kernel_rfl) ?_; clear H; intro u g11 H; refine hK _ _ ?_; clear hK K; try simp only [Value.cells, List.cons_append, List.nil_append] at H) | (refine wpList_on (o := ⟨some 14, .alloc 40, _, _, _, _⟩) rfl (fun K hK => ?_); refine wp_alloc H 40 rfl (z := (.agg (row 8 fun _ => 0))) (by kernel_rfl) ?_; clear H; intro u g14 H; refine hK _ _ ?_; clear hK K; try simp only [Value.cells, List.cons_append, List.nil_append] at H) | ((refine wpList_on (o := ⟨_, .store 40 _ _, _, _, _, _⟩) rfl (fun K hK => ?_)); refine wp_store_all (l1 := []) H 40 _ _ rfl rfl rfl (by kernel_rfl) (by simp [row_size]) (row_one _ _) ?_; clear H; intro u H; refine hK _ _ ?_; clear hK K; try simp only [Value.cells, List.cons_append, List.nil_append] at H) | ((refine wpList_on (o := ⟨_, .load 35 _, _, _, _, _⟩) rfl (fun K hK => ?_)); refine wp_load_all H 35 _ rfl rfl (by repeat (first | exact List.mem_cons_self | apply List.mem_cons_of_mem | apply List.mem_append_right)) (by kernel_rfl) ?_; refine hK _ _ ?_; clear hK K) | ((refine wpList_on (o := ⟨_, .load 40 _, _, _, _, _⟩) rfl (fun K hK => ?_)); refine wp_load_all H 40 _ rfl rfl (by repeat (first | exact List.mem_cons_self | apply List.mem_cons_of_mem | apply List.mem_append_right)) (by kernel_rfl) ?_; refine hK _ _ ?_; clear hK K))
  refine (Make_l (by omega) HA.out H0.out HP.out (fun i _ => udOut_bd _ _ _ _) (RO3.lies H (by repeat (first | exact List.Sublist.refl _ | exact List.sublist_append_left _ _ | apply List.Sublist.cons | refine List.Sublist.trans ?_ (List.sublist_append_right _ _))))).mono ?_
  rintro e w1 ⟨v4, tl4, rfl, RO4, hb⟩; replace H := H.join hb; clear hb; (try simp only [List.cons_append, List.nil_append] at H)
  go_wp2_with (first | (refine wpList_on (o := ⟨some 17, .alloc 40, _, _, _, _⟩) rfl (fun K hK => ?_); refine wp_alloc H 40 rfl (z := (.agg (row 8 fun _ => 0))) (by kernel_rfl) ?_; clear H; intro u g17 H; refine hK _ _ ?_; clear hK K; try simp only [Value.cells, List.cons_append, List.nil_append] at H) | ((refine wpList_on (o := ⟨_, .store 40 _ _, _, _, _, _⟩) rfl (fun K hK => ?_)); refine wp_store_all (l1 := []) H 40 _ _ rfl rfl rfl (by kernel_rfl) (by simp [row_size]) (row_one _ _) ?_; clear H; intro u H; refine hK _ _ ?_; clear hK K; try simp only [Value.cells, List.cons_append, List.nil_append] at H) | (go_at_call 20; (with_reducible refine (filters_any _).mono ?_); rintro e w1 ⟨rfl, hb⟩; replace H := H.callee hb; clear hb))
  refine (ends_l (by omega) (RO.lies H (by repeat (first | exact List.Sublist.refl _ | exact List.sublist_append_left _ _ | apply List.Sublist.cons | refine List.Sublist.trans ?_ (List.sublist_append_right _ _))))).mono ?_
  rintro e w1 ⟨r1, rfl, HR1, rfl⟩
  replace HR1 := Lib.hid HR1
  have L2 := RO2.lies H (by repeat (first | exact List.Sublist.refl _ | exact List.sublist_append_left _ _ | apply List.Sublist.cons | refine List.Sublist.trans ?_ (List.sublist_append_right _ _)))
  have L4 := RO4.lies H (by repeat (first | exact List.Sublist.refl _ | exact List.sublist_append_left _ _ | apply List.Sublist.cons | refine List.Sublist.trans ?_ (List.sublist_append_right _ _)))
  cases r1
  · have e1 := HR1.out rfl
    go_wp2_with fail
    refine (same_l (by omega) (L2.congr (undo_make a f p (fun i _ => HF.out i) e1)) (H.lies (by repeat (first | exact List.mem_cons_self | apply List.mem_cons_of_mem | apply List.mem_append_right)) (Nat.le_refl _))).mono ?_
    rintro e w1 ⟨rfl, hb⟩
    replace L4 := L4.below hb
    replace H := H.callee hb; clear hb
    go_wp2_with fail
    refine (ends_l (by omega) (RO3.lies H (by repeat (first | exact List.Sublist.refl _ | exact List.sublist_append_left _ _ | apply List.Sublist.cons | refine List.Sublist.trans ?_ (List.sublist_append_right _ _))))).mono ?_
    rintro e w1 ⟨r2, rfl, HR2, rfl⟩
    replace HR2 := Lib.hid HR2
    cases r2
    · have e2 := HR2.out rfl
      go_wp2_with fail
      refine (same_l (by omega) (L4.congr (make_undo a f p (fun i _ => HF.out i) e2)) (H.lies (by repeat (first | exact List.mem_cons_self | apply List.mem_cons_of_mem | apply List.mem_append_right)) (Nat.le_refl _))).mono ?_
      rintro e w1 ⟨rfl, hb⟩
      replace H := H.callee hb; clear hb
      go_wp2_with fail
      go_ret
      exact ⟨rfl, H.below⟩
    · go_wp2_with fail
      go_ret
      exact ⟨rfl, H.below⟩
  · go_wp2_with fail
    refine (ends_l (by omega) (RO3.lies H (by repeat (first | exact List.Sublist.refl _ | exact List.sublist_append_left _ _ | apply List.Sublist.cons | refine List.Sublist.trans ?_ (List.sublist_append_right _ _))))).mono ?_
    rintro e w1 ⟨r2, rfl, HR2, rfl⟩
    replace HR2 := Lib.hid HR2
    cases r2
    · have e2 := HR2.out rfl
      go_wp2_with fail
      refine (same_l (by omega) (L4.congr (make_undo a f p (fun i _ => HF.out i) e2)) (H.lies (by repeat (first | exact List.mem_cons_self | apply List.mem_cons_of_mem | apply List.mem_append_right)) (Nat.le_refl _))).mono ?_
      rintro e w1 ⟨rfl, hb⟩
      replace H := H.callee hb; clear hb
      go_wp2_with fail
      go_ret
      exact ⟨rfl, H.below⟩
    · go_wp2_with fail
      go_ret
      exact ⟨rfl, H.below⟩
theorem synthBack_walk (a p : Nat → Int) (P : Option Addr) (n cap : Nat) (ad : Addr) (f : Nat → Int) (hn : n ≤ 9223372036854775807) {w : World} (hR : ReadsA w P n ad f) :
    Calls Try.prog 8 #[.agg (row 9 a), .agg (row 8 p), .slice P n cap] w fun e w' => e = .returned (.bool true) ∧ Below w.heap.size w w' :=
  synthBack_in a p (predI a) (pastI p) (listF n f) P n cap (min n 200) w hn (by omega) (by split <;> omega) (predI_bd a) rfl (pastI_bd p) (listF_in n f) (fun w => predictor_any a w) (fun w => past_any p w)
    (fun w' hb => lists_any P n cap ad f (min n 200 : Nat) w' hn (by omega) (by omega) (hR.below hb))
end Go.Proofs.Ytakacoiknapjiaa
