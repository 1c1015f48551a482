/-
  Several texts of this claim, one behind the other: Erased. No statement is proved here.
-/
import Derived.Test.YtcoicmbjoaonoaaDoorZaf
/-
  conceal: Fresh, Erased, Silent walked. No statement is proved here.
-/
namespace Go.Proofs.YtcoicmbjoaonoaaDoor
set_option linter.unusedVariables false
set_option linter.unusedSimpArgs false
open Go.RowKit
set_option maxRecDepth 100000
def freshF (i : Nat) : Int := if i = 98 then 20 else if i = 100 then 21845 else 0
theorem fresh_good : GoodM freshF := by
  refine ⟨fun i hi => ?_, fun i hi => ?_, fun i hi => ?_, by decide, by decide, by decide, by decide, by decide⟩
  · unfold freshF; split <;> (try split) <;> omega
  · unfold pstM freshF In16; split <;> (try split) <;> omega
  · unfold excM freshF In16; split <;> (try split) <;> omega
theorem Fresh_any (w : World) : Calls Tryd.prog 29 #[] w fun e w' => e = .returned (.agg (memA freshF false)) ∧ Below w.heap.size w w' := by
  have H := Has.start w
  have hb : ∀ (a : Act) (u : World), (execOp a.eval { dst := some 1, op := .build 29 #[(5, .const (.int .i64 20)), (7, .const (.int .i64 21845))], type := 29, pos := "conceal.go:17", after := #[], guard := none }).run Tryd.prog u = .ok (.value (.agg (memA freshF false))) u := fun a u => by kernel_rfl
  go_enter Tryd.func29, Tryd.ntmps29
  go_wp2_with (first | (refine wpList_on (o := ⟨some 0, .alloc 29, _, _, _, _⟩) rfl (fun K hK => ?_); refine wp_alloc H 29 rfl (z := (.agg (memA (fun _ => 0) false))) (by kernel_rfl) ?_; clear H; intro u g H; refine hK _ _ ?_; clear hK K; try simp only [Value.cells, List.cons_append, List.nil_append] at H) | ((refine wpList_on (o := ⟨some 1, .build _ _, _, _, _, _⟩) rfl (fun K hK => ?_)); unfold Oper.wp; rw [hb]; refine hK _ _ ?_; clear hK K) | ((refine wpList_on (o := ⟨_, .store 29 _ _, _, _, _, _⟩) rfl (fun K hK => ?_)); (try simp only [Act.put, List.setIfInBounds_toArray, List.set_cons_zero, List.set_cons_succ]); refine wp_store_all (l1 := []) H 29 _ _ rfl rfl rfl (by rw [memA_size]; kernel_rfl) (by rw [memA_size, memA_size]) (memA_one _ _) ?_; clear H; intro u H; refine hK _ _ ?_; clear hK K; try simp only [Value.cells, List.cons_append, List.nil_append] at H))
  refine bodyPost_ret (results_one rfl _ H rfl (by repeat (first | exact List.mem_cons_self | apply List.mem_cons_of_mem | apply List.mem_append_right)) (by rw [memA_size]; kernel_rfl)) rfl ⟨rfl, H.below⟩
/-- What a lost frame makes of a memory. -/
def er1 (f : Nat → Int) (half : Int) : Nat → Int := if half = 0 then putI f 99 (if 6 < f 99 + 1 then 6 else f 99 + 1) else f
def erN (f : Nat → Int) : Nat → Int := noiseF (f 100) (fade (f 96) (f 99) / 4)
def erE (f : Nat → Int) : Nat → Int := mixF (excM f) (f 98).toNat (fade (f 97) (f 99)) (erN f)
def er2 (f : Nat → Int) : Nat → Int := putX (putI f 100 (sdN (f 100) 40)) (keepF (excM f) (erE f))
theorem excM_putI (f : Nat → Int) (k : Nat) (v : Int) (h : 96 ≤ k) : row 80 (excM (putI f k v)) = row 80 (excM f) := row_congr fun i hi => by
  unfold excM putI
  rw [if_neg (by omega)]
theorem er1_good {f : Nat → Int} (h : GoodM f) (half : Int) : GoodM (er1 f half) := by
  unfold er1
  by_cases hz : half = 0
  · rw [if_pos hz]
    obtain ⟨h1, h2, h3, h4, h5, h6, h7, h8⟩ := h
    refine ⟨fun i hi => ?_, fun i hi => ?_, fun i hi => ?_, ?_, ?_, ?_, ?_, ?_⟩
    · unfold putI; rw [if_neg (by omega)]; exact h1 i hi
    · have := h2 i hi; unfold pstM putI at *; rw [if_neg (by omega)]; exact this
    · have := h3 i hi; unfold excM putI at *; rw [if_neg (by omega)]; exact this
    · exact h4
    · exact h5
    · exact h6
    · unfold putI; rw [if_pos rfl]; split <;> omega
    · exact h8
  · rw [if_neg hz]; exact h
theorem sdN_bd {s : Int} (h : 0 ≤ s ∧ s < 65536) : ∀ k, 0 ≤ sdN s k ∧ sdN s k < 65536
  | 0 => h
  | k + 1 => seedN_bd _
theorem keepF_in {h x : Nat → Int} (hh : ∀ i, i < 80 → In16 (h i)) : ∀ i, i < 80 → In16 (keepF h x i) := fun i hi => by
  unfold keepF
  split
  · exact hh _ (by omega)
  · exact sat16_bd _
theorem putS_good {f x : Nat → Int} (h : GoodM f) : GoodM (putX (putI f 100 (sdN (f 100) 40)) (keepF (excM f) x)) := by
  obtain ⟨h1, h2, h3, h4, h5, h6, h7, h8⟩ := h
  refine ⟨fun i hi => ?_, fun i hi => ?_, fun i hi => ?_, ?_, ?_, ?_, ?_, ?_⟩
  · unfold putX putI; rw [if_neg (by omega), if_neg (by omega)]; exact h1 i hi
  · have := h2 i hi; unfold pstM putX putI at *; rw [if_neg (by omega), if_neg (by omega)]; exact this
  · have := keepF_in (x := x) h3 i hi
    show In16 (putX _ _ (16 + i))
    unfold putX
    rw [if_pos (by omega), show 16 + i - 16 = i by omega]
    exact this
  · exact h4
  · exact h5
  · exact h6
  · exact h7
  · exact sdN_bd h8 40
theorem er2_good {f : Nat → Int} (h : GoodM f) : GoodM (er2 f) := putS_good h
def ErPost (F : Nat → Int) (s : Bool) (w : World) (e : Ending) (w' : World) : Prop := ∃ g, e = .returned (.tuple #[.agg (memA (er2 F) s), .slice (some ⟨g, 0, none⟩) 40 40, .int .i64 0]) ∧ Has w w' [(g, 3, row 40 (erE F))]
set_option maxHeartbeats 12800000 in
set_option maxRecDepth 100000 in
theorem Erased_any (f : Nat → Int) (s : Bool) (half : Int) (w : World) (hG : GoodM f) (hh : 0 ≤ half ∧ half < 2) :
    Calls Tryd.prog 50 #[.agg (memA f s), .int .i64 half] w (ErPost (er1 f half) s w) := by
  have H := Has.start w
  have HF := er1_good hG half
  have c0 := fun w : World => Good_any f s w hG
  have C0 := Lib.hid c0
  have d1 := lt_no hh.1
  have d2 := le_no hh.2
  have b1 := fade_bd (g := er1 f half 96) (n := er1 f half 99) HF.gain.1
  have b2 := fade_bd (g := er1 f half 97) (n := er1 f half 99) HF.pitch.1
  have c1 := fun w : World => Fade_any (er1 f half 96) (er1 f half 99) w HF.gain.1 HF.gain.2 HF.erased.1 (by have := HF.erased.2; omega)
  have c2 := fun w : World => Fade_any (er1 f half 97) (er1 f half 99) w HF.pitch.1 (by have := HF.pitch.2; omega) HF.erased.1 (by have := HF.erased.2; omega)
  have hq : IntKind.i64.wrap ((fade (er1 f half 96) (er1 f half 99)).tdiv 4) = fade (er1 f half 96) (er1 f half 99) / 4 := by
    have := HF.gain.2
    rw [Int.tdiv_eq_ediv_of_nonneg b1.1]
    exact IntWalk.i64_in _ (by omega)
  have hp := HF.pitch.2
  have hl := HF.lag
  have c3 := fun (v : Value) (u : World) (L : Lies u v 40 (erN (er1 f half))) => by
    have := Mix_any (excM (er1 f half)) (erN (er1 f half)) (er1 f half 98).toNat (fade (er1 f half 97) (er1 f half 99)) (by omega) (by omega) b2.1 (by omega) L
    rwa [Int.toNat_of_nonneg (show 0 ≤ er1 f half 98 by omega)] at this
  have HN : Hid (noiseF (er1 f half 100) (fade (er1 f half 96) (er1 f half 99) / 4) = erN (er1 f half)) := rfl
  have hE : Hid (mixF (excM (er1 f half)) (er1 f half 98).toNat (fade (er1 f half 97) (er1 f half 99)) (erN (er1 f half)) = erE (er1 f half)) := rfl
  have h1 : half = 0 → er1 f half = putI f 99 (if 6 < f 99 + 1 then 6 else f 99 + 1) := fun h => if_pos h
  have h2 : ¬ half = 0 → er1 f half = f := fun h => if_neg h
  have X1 := Lib.hid h1
  have X2 := Lib.hid h2
  have he := hG.erased
  generalize er1 f half = F at *
  generalize fade (F 96) (F 99) = FA at *
  generalize fade (F 97) (F 99) = FB at *
  have C1 := Lib.hid c1
  have C2 := Lib.hid c2
  have C3 := Lib.hid c3
  obtain ⟨b3, b4⟩ := b1
  clear c0 c1 c2 c3 b2 hG HF hp hl h1 h2
  by_cases hz : half = 0
  · have HX := Lib.hid (X1.out hz)
    clear X1 X2
    subst hz
    obtain ⟨E, hE6⟩ : ∃ E, (if 6 < f 99 + 1 then (6 : Int) else f 99 + 1) = E := ⟨_, rfl⟩
    rw [hE6] at HX
    go_enter Tryd.func50, Tryd.ntmps50
    go_wp2_with (first | ((refine wpList_on (o := ⟨_, .box _ (.tmp 0), _, _, _, _⟩) rfl (fun K hK => ?_)); (try simp only [Act.put, List.setIfInBounds_toArray, List.set_cons_zero, List.set_cons_succ]); refine wp_box H _ (.tmp 0) rfl (v := .agg (memA _ _)) rfl ?_; clear H; intro u gm H; refine hK _ _ ?_; clear hK K; try simp only [Value.cells, List.cons_append, List.nil_append] at H) | (refine wpList_on (o := ⟨some 4, .alloc 29, _, _, _, _⟩) rfl (fun K hK => ?_); refine wp_alloc H 29 rfl (z := (.agg (memA (fun _ => 0) false))) (by kernel_rfl) ?_; clear H; intro u gz H; refine hK _ _ ?_; clear hK K; try simp only [Value.cells, List.cons_append, List.nil_append] at H) | ((refine wpList_on (o := ⟨_, .load 29 _, _, _, _, _⟩) rfl (fun K hK => ?_)); (try simp only [Act.put, List.setIfInBounds_toArray, List.set_cons_zero, List.set_cons_succ]); refine wp_load_all H 29 _ rfl rfl (by repeat (first | exact List.mem_cons_self | apply List.mem_cons_of_mem | apply List.mem_append_right)) (by rw [memA_size]; kernel_rfl) ?_; refine hK _ _ ?_; clear hK K) | (go_at_call 21; (with_reducible refine (C0.out _).mono ?_); rintro e w1 ⟨rfl, hb⟩; replace H := H.callee hb; clear hb) | ((refine wpList_on (o := ⟨_, .load 3 _, _, _, _, _⟩) rfl (fun K hK => ?_)); (try simp only [Act.put, List.setIfInBounds_toArray, List.set_cons_zero, List.set_cons_succ]); refine wp_load_one H 3 _ rfl rfl (by repeat (first | exact List.mem_cons_self | apply List.mem_cons_of_mem | apply List.mem_append_right)) (by kernel_rfl) (memA_get _ _ (by omega)) ?_; refine hK _ _ ?_; clear hK K) | ((refine wpList_on (o := ⟨_, .store 3 _ _, _, _, _, _⟩) rfl (fun K hK => ?_)); (try simp only [Act.put, List.setIfInBounds_toArray, List.set_cons_zero, List.set_cons_succ]); refine wp_store_mem (l1 := [_]) H 3 _ _ rfl rfl rfl (by kernel_rfl) (by omega) ?_; clear H; intro u H; refine hK _ _ ?_; clear hK K; try simp only [Value.cells, List.cons_append, List.nil_append] at H))
    clear C0 d1 d2
    rw [← HX.out] at H
    refine wp_region_text [86] (by kernel_rfl) (by kernel_rfl) (by kernel_rfl) ?_; replace H := H.drew; generalize World.drew _ = u at *
    repeat (first | (refine ones_load_one (o := ⟨_, .load 3 _, _, _, _, _⟩) H 3 _ rfl rfl rfl rfl (by repeat (first | exact List.mem_cons_self | apply List.mem_cons_of_mem | apply List.mem_append_right)) (by kernel_rfl) (memA_get _ _ (by omega)) ?_; simp only [Act.put, List.setIfInBounds_toArray, List.set_cons_zero, List.set_cons_succ]) | (refine' ones_call (o := ⟨_, .call _, _, _, _, _⟩) rfl rfl _ _; rotate_left; (unfold CallOf; go_simp; exact C1.out _); simp only [Act.put, List.setIfInBounds_toArray, List.set_cons_zero, List.set_cons_succ]) | (refine ones_eff (o := ⟨_, .call _, _, _, _, _⟩) rfl rfl (fun K hK => ?_); go_simp; (go_at_call 85; (with_reducible refine (noise_any _ _ _).mono ?_); rintro e w1 ⟨gn, rfl, hb⟩; replace H := H.joinR hb; clear hb; (try simp only [List.cons_append, List.nil_append] at H)); refine hK _ _ ?_; clear hK K; try simp only [Act.put, List.setIfInBounds_toArray, List.set_cons_zero, List.set_cons_succ]) | (refine ones_eff (o := ⟨_, .store 3 _ _, _, _, _, _⟩) rfl rfl (fun K hK => ?_); refine wp_store_mem (l1 := [_]) H 3 _ _ rfl rfl rfl (by kernel_rfl) (by omega) ?_; clear H; intro u H; refine hK _ _ ?_; clear hK K; simp only [Act.put, List.setIfInBounds_toArray, List.set_cons_zero, List.set_cons_succ]; try simp only [Value.cells, List.cons_append, List.nil_append] at H) | (refine ones_free (v := ?_) rfl rfl ?_ ?_; rotate_left; (intro w'; go_simp; try with_reducible rfl); simp only [Act.put, List.setIfInBounds_toArray, List.set_cons_zero, List.set_cons_succ]))
    refine ones_nil ?_
    (try rw [hq] at H)
    rw [HN.out] at H
    have e97 : putI F 100 (sdN (F 100) 40) 97 = F 97 := rfl
    have e98 : putI F 100 (sdN (F 100) 40) 98 = F 98 := rfl
    have e99 : putI F 100 (sdN (F 100) 40) 99 = F 99 := rfl
    go_wp2_with fail
    refine wp_region_text [86] (by kernel_rfl) (by kernel_rfl) (by kernel_rfl) ?_; replace H := H.drew; generalize World.drew _ = u at *
    have HX2 := Lib.hid (excM_putI F 100 (sdN (F 100) 40) (by omega))
    repeat (first | (refine ones_load_part (n := 80) (o := ⟨_, .load 27 _, _, _, _, _⟩) H 27 _ rfl rfl rfl rfl (by repeat (first | exact List.mem_cons_self | apply List.mem_cons_of_mem | apply List.mem_append_right)) (by kernel_rfl) (by rw [memA_size]; omega) ((memA_exc _ _).trans HX2.out) ?_; simp only [Act.put, List.setIfInBounds_toArray, List.set_cons_zero, List.set_cons_succ]) | (refine ones_load_one (o := ⟨_, .load 3 _, _, _, _, _⟩) H 3 _ rfl rfl rfl rfl (by repeat (first | exact List.mem_cons_self | apply List.mem_cons_of_mem | apply List.mem_append_right)) (by kernel_rfl) (memA_get _ _ (by omega)) ?_; simp only [Act.put, List.setIfInBounds_toArray, List.set_cons_zero, List.set_cons_succ]) | (refine' ones_call (o := ⟨_, .call _, _, _, _, _⟩) rfl rfl _ _; rotate_left; (unfold CallOf; go_simp; exact C2.out _); simp only [Act.put, List.setIfInBounds_toArray, List.set_cons_zero, List.set_cons_succ]) | (refine ones_eff (o := ⟨_, .call _, _, _, _, _⟩) rfl rfl (fun K hK => ?_); go_simp; (go_at_call 81; (with_reducible refine (C3.out _ _ (H.lies (by repeat (first | exact List.mem_cons_self | apply List.mem_cons_of_mem | apply List.mem_append_right)) (Nat.le_refl _))).mono ?_); rintro e w1 ⟨gv, rfl, hb⟩; replace H := H.joinR hb; clear hb; (try simp only [List.cons_append, List.nil_append] at H)); refine hK _ _ ?_; clear hK K; try simp only [Act.put, List.setIfInBounds_toArray, List.set_cons_zero, List.set_cons_succ]) | (refine ones_free (v := ?_) rfl rfl ?_ ?_; rotate_left; (intro w'; go_simp; try with_reducible rfl); simp only [Act.put, List.setIfInBounds_toArray, List.set_cons_zero, List.set_cons_succ]))
    refine ones_nil ?_
    rw [hE.out] at H
    have c4 := fun (v : Value) (u : World) (L : Lies u v 40 (erE F)) => Keep_any (excM F) (erE F) L
    have C4 := Lib.hid c4
    clear c4
    go_wp2_with (first | ((refine wpList_on (o := ⟨_, .load 27 _, _, _, _, _⟩) rfl (fun K hK => ?_)); refine wp_load_part (n := 80) H 27 _ rfl rfl (by repeat (first | exact List.mem_cons_self | apply List.mem_cons_of_mem | apply List.mem_append_right)) (by kernel_rfl) (by rw [memA_size]; omega) ((memA_exc _ _).trans HX2.out) ?_; refine hK _ _ ?_; clear hK K) | (go_at_call 82; (with_reducible refine (C4.out _ _ (H.lies (by repeat (first | exact List.mem_cons_self | apply List.mem_cons_of_mem | apply List.mem_append_right)) (Nat.le_refl _))).mono ?_); rintro e w1 ⟨rfl, hb⟩; replace H := H.callee hb; clear hb) | ((refine wpList_on (o := ⟨_, .store 27 _ _, _, _, _, _⟩) rfl (fun K hK => ?_)); (try simp only [Act.put, List.setIfInBounds_toArray, List.set_cons_zero, List.set_cons_succ]); refine wp_store_part (l1 := [_]) H 27 _ _ rfl rfl rfl (by rw [row_size]; kernel_rfl) (by rw [memA_size, row_size]; omega) (row_oneCell _ _) (memA_putX _ _ _) ?_; clear H; intro u H; refine hK _ _ ?_; clear hK K; try simp only [Value.cells, List.cons_append, List.nil_append] at H) | ((refine wpList_on (o := ⟨_, .load 29 _, _, _, _, _⟩) rfl (fun K hK => ?_)); (try simp only [Act.put, List.setIfInBounds_toArray, List.set_cons_zero, List.set_cons_succ]); refine wp_load_all H 29 _ rfl rfl (by repeat (first | exact List.mem_cons_self | apply List.mem_cons_of_mem | apply List.mem_append_right)) (by rw [memA_size]; kernel_rfl) ?_; refine hK _ _ ?_; clear hK K) | ((refine wpList_on (o := ⟨_, .store 29 _ _, _, _, _, _⟩) rfl (fun K hK => ?_)); (try simp only [Act.put, List.setIfInBounds_toArray, List.set_cons_zero, List.set_cons_succ]); refine wp_store_all (l1 := []) H 29 _ _ rfl rfl rfl (by rw [memA_size]; kernel_rfl) (by rw [memA_size, memA_size]) (memA_one _ _) ?_; clear H; intro u H; refine hK _ _ ?_; clear hK K; try simp only [Value.cells, List.cons_append, List.nil_append] at H))
    refine bodyPost_ret (results_has3 rfl _ H rfl (by repeat (first | exact List.mem_cons_self | apply List.mem_cons_of_mem | apply List.mem_append_right)) (by rw [memA_size]; kernel_rfl)) rfl ⟨gv, rfl, H.sub (by repeat (first | exact List.Sublist.refl _ | apply List.Sublist.cons))⟩
  · have hx := X2.out hz
    have hb : (half == 0) = false := by simp [hz]
    clear X1 X2 hz
    rw [← hx]
    rw [← hx] at C0
    clear hx
    go_enter Tryd.func50, Tryd.ntmps50
    go_wp2_with (first | ((refine wpList_on (o := ⟨_, .box _ (.tmp 0), _, _, _, _⟩) rfl (fun K hK => ?_)); (try simp only [Act.put, List.setIfInBounds_toArray, List.set_cons_zero, List.set_cons_succ]); refine wp_box H _ (.tmp 0) rfl (v := .agg (memA _ _)) rfl ?_; clear H; intro u gm H; refine hK _ _ ?_; clear hK K; try simp only [Value.cells, List.cons_append, List.nil_append] at H) | (refine wpList_on (o := ⟨some 4, .alloc 29, _, _, _, _⟩) rfl (fun K hK => ?_); refine wp_alloc H 29 rfl (z := (.agg (memA (fun _ => 0) false))) (by kernel_rfl) ?_; clear H; intro u gz H; refine hK _ _ ?_; clear hK K; try simp only [Value.cells, List.cons_append, List.nil_append] at H) | ((refine wpList_on (o := ⟨_, .load 29 _, _, _, _, _⟩) rfl (fun K hK => ?_)); (try simp only [Act.put, List.setIfInBounds_toArray, List.set_cons_zero, List.set_cons_succ]); refine wp_load_all H 29 _ rfl rfl (by repeat (first | exact List.mem_cons_self | apply List.mem_cons_of_mem | apply List.mem_append_right)) (by rw [memA_size]; kernel_rfl) ?_; refine hK _ _ ?_; clear hK K) | (go_at_call 21; (with_reducible refine (C0.out _).mono ?_); rintro e w1 ⟨rfl, hb⟩; replace H := H.callee hb; clear hb))
    clear C0 d1 d2
    refine wp_region_text [86] (by kernel_rfl) (by kernel_rfl) (by kernel_rfl) ?_; replace H := H.drew; generalize World.drew _ = u at *
    repeat (first | (refine ones_load_one (o := ⟨_, .load 3 _, _, _, _, _⟩) H 3 _ rfl rfl rfl rfl (by repeat (first | exact List.mem_cons_self | apply List.mem_cons_of_mem | apply List.mem_append_right)) (by kernel_rfl) (memA_get _ _ (by omega)) ?_; simp only [Act.put, List.setIfInBounds_toArray, List.set_cons_zero, List.set_cons_succ]) | (refine' ones_call (o := ⟨_, .call _, _, _, _, _⟩) rfl rfl _ _; rotate_left; (unfold CallOf; go_simp; exact C1.out _); simp only [Act.put, List.setIfInBounds_toArray, List.set_cons_zero, List.set_cons_succ]) | (refine ones_eff (o := ⟨_, .call _, _, _, _, _⟩) rfl rfl (fun K hK => ?_); go_simp; (go_at_call 85; (with_reducible refine (noise_any _ _ _).mono ?_); rintro e w1 ⟨gn, rfl, hb⟩; replace H := H.joinR hb; clear hb; (try simp only [List.cons_append, List.nil_append] at H)); refine hK _ _ ?_; clear hK K; try simp only [Act.put, List.setIfInBounds_toArray, List.set_cons_zero, List.set_cons_succ]) | (refine ones_eff (o := ⟨_, .store 3 _ _, _, _, _, _⟩) rfl rfl (fun K hK => ?_); refine wp_store_mem (l1 := [_]) H 3 _ _ rfl rfl rfl (by kernel_rfl) (by omega) ?_; clear H; intro u H; refine hK _ _ ?_; clear hK K; simp only [Act.put, List.setIfInBounds_toArray, List.set_cons_zero, List.set_cons_succ]; try simp only [Value.cells, List.cons_append, List.nil_append] at H) | (refine ones_free (v := ?_) rfl rfl ?_ ?_; rotate_left; (intro w'; go_simp; try with_reducible rfl); simp only [Act.put, List.setIfInBounds_toArray, List.set_cons_zero, List.set_cons_succ]))
    refine ones_nil ?_
    (try rw [hq] at H)
    rw [HN.out] at H
    have e97 : putI F 100 (sdN (F 100) 40) 97 = F 97 := rfl
    have e98 : putI F 100 (sdN (F 100) 40) 98 = F 98 := rfl
    have e99 : putI F 100 (sdN (F 100) 40) 99 = F 99 := rfl
    go_wp2_with fail
    refine wp_region_text [86] (by kernel_rfl) (by kernel_rfl) (by kernel_rfl) ?_; replace H := H.drew; generalize World.drew _ = u at *
    have HX2 := Lib.hid (excM_putI F 100 (sdN (F 100) 40) (by omega))
    repeat (first | (refine ones_load_part (n := 80) (o := ⟨_, .load 27 _, _, _, _, _⟩) H 27 _ rfl rfl rfl rfl (by repeat (first | exact List.mem_cons_self | apply List.mem_cons_of_mem | apply List.mem_append_right)) (by kernel_rfl) (by rw [memA_size]; omega) ((memA_exc _ _).trans HX2.out) ?_; simp only [Act.put, List.setIfInBounds_toArray, List.set_cons_zero, List.set_cons_succ]) | (refine ones_load_one (o := ⟨_, .load 3 _, _, _, _, _⟩) H 3 _ rfl rfl rfl rfl (by repeat (first | exact List.mem_cons_self | apply List.mem_cons_of_mem | apply List.mem_append_right)) (by kernel_rfl) (memA_get _ _ (by omega)) ?_; simp only [Act.put, List.setIfInBounds_toArray, List.set_cons_zero, List.set_cons_succ]) | (refine' ones_call (o := ⟨_, .call _, _, _, _, _⟩) rfl rfl _ _; rotate_left; (unfold CallOf; go_simp; exact C2.out _); simp only [Act.put, List.setIfInBounds_toArray, List.set_cons_zero, List.set_cons_succ]) | (refine ones_eff (o := ⟨_, .call _, _, _, _, _⟩) rfl rfl (fun K hK => ?_); go_simp; (go_at_call 81; (with_reducible refine (C3.out _ _ (H.lies (by repeat (first | exact List.mem_cons_self | apply List.mem_cons_of_mem | apply List.mem_append_right)) (Nat.le_refl _))).mono ?_); rintro e w1 ⟨gv, rfl, hb⟩; replace H := H.joinR hb; clear hb; (try simp only [List.cons_append, List.nil_append] at H)); refine hK _ _ ?_; clear hK K; try simp only [Act.put, List.setIfInBounds_toArray, List.set_cons_zero, List.set_cons_succ]) | (refine ones_free (v := ?_) rfl rfl ?_ ?_; rotate_left; (intro w'; go_simp; try with_reducible rfl); simp only [Act.put, List.setIfInBounds_toArray, List.set_cons_zero, List.set_cons_succ]))
    refine ones_nil ?_
    rw [hE.out] at H
    have c4 := fun (v : Value) (u : World) (L : Lies u v 40 (erE F)) => Keep_any (excM F) (erE F) L
    have C4 := Lib.hid c4
    clear c4
    go_wp2_with (first | ((refine wpList_on (o := ⟨_, .load 27 _, _, _, _, _⟩) rfl (fun K hK => ?_)); refine wp_load_part (n := 80) H 27 _ rfl rfl (by repeat (first | exact List.mem_cons_self | apply List.mem_cons_of_mem | apply List.mem_append_right)) (by kernel_rfl) (by rw [memA_size]; omega) ((memA_exc _ _).trans HX2.out) ?_; refine hK _ _ ?_; clear hK K) | (go_at_call 82; (with_reducible refine (C4.out _ _ (H.lies (by repeat (first | exact List.mem_cons_self | apply List.mem_cons_of_mem | apply List.mem_append_right)) (Nat.le_refl _))).mono ?_); rintro e w1 ⟨rfl, hb⟩; replace H := H.callee hb; clear hb) | ((refine wpList_on (o := ⟨_, .store 27 _ _, _, _, _, _⟩) rfl (fun K hK => ?_)); (try simp only [Act.put, List.setIfInBounds_toArray, List.set_cons_zero, List.set_cons_succ]); refine wp_store_part (l1 := [_]) H 27 _ _ rfl rfl rfl (by rw [row_size]; kernel_rfl) (by rw [memA_size, row_size]; omega) (row_oneCell _ _) (memA_putX _ _ _) ?_; clear H; intro u H; refine hK _ _ ?_; clear hK K; try simp only [Value.cells, List.cons_append, List.nil_append] at H) | ((refine wpList_on (o := ⟨_, .load 29 _, _, _, _, _⟩) rfl (fun K hK => ?_)); (try simp only [Act.put, List.setIfInBounds_toArray, List.set_cons_zero, List.set_cons_succ]); refine wp_load_all H 29 _ rfl rfl (by repeat (first | exact List.mem_cons_self | apply List.mem_cons_of_mem | apply List.mem_append_right)) (by rw [memA_size]; kernel_rfl) ?_; refine hK _ _ ?_; clear hK K) | ((refine wpList_on (o := ⟨_, .store 29 _ _, _, _, _, _⟩) rfl (fun K hK => ?_)); (try simp only [Act.put, List.setIfInBounds_toArray, List.set_cons_zero, List.set_cons_succ]); refine wp_store_all (l1 := []) H 29 _ _ rfl rfl rfl (by rw [memA_size]; kernel_rfl) (by rw [memA_size, memA_size]) (memA_one _ _) ?_; clear H; intro u H; refine hK _ _ ?_; clear hK K; try simp only [Value.cells, List.cons_append, List.nil_append] at H))
    refine bodyPost_ret (results_has3 rfl _ H rfl (by repeat (first | exact List.mem_cons_self | apply List.mem_cons_of_mem | apply List.mem_append_right)) (by rw [memA_size]; kernel_rfl)) rfl ⟨gv, rfl, H.sub (by repeat (first | exact List.Sublist.refl _ | apply List.Sublist.cons))⟩
end Go.Proofs.YtcoicmbjoaonoaaDoor
