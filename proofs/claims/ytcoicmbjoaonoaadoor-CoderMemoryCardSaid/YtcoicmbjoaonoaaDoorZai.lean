/-
  Several texts of this claim, one behind the other: Silent, CorrLaw, Energy. No statement is proved here.
-/
import Derived.Test.YtcoicmbjoaonoaaDoorZah
import Derived.Test.YtcoicmbjoaonoaaDoorZae
import Derived.Test.YtcoicmbjoaonoaaDoorZad
/-
  conceal.Silent, memory, history, lost walked. No statement is proved here.
-/
namespace Go.Proofs.YtcoicmbjoaonoaaDoor
set_option linter.unusedVariables false
set_option linter.unusedSimpArgs false
open Go.RowKit
set_option maxRecDepth 100000
def si2 (f : Nat → Int) : Nat → Int := putX (putI f 100 (sdN (f 100) 40)) (keepF (excM f) (noiseF (f 100) 8))
theorem si2_good {f : Nat → Int} (h : GoodM f) : GoodM (si2 f) := putS_good h
def SiPost (f : Nat → Int) (s : Bool) (w : World) (e : Ending) (w' : World) : Prop := ∃ g, e = .returned (.tuple #[.agg (memA (si2 f) s), .slice (some ⟨g, 0, none⟩) 40 40, .int .i64 0]) ∧ Has w w' [(g, 3, row 40 (noiseF (f 100) 8))]
set_option maxHeartbeats 6400000 in
set_option maxRecDepth 100000 in
theorem Silent_any (f : Nat → Int) (s : Bool) (w : World) (hG : GoodM f) :
    Calls Tryd.prog 83 #[.agg (memA f s)] w (SiPost f s w) := by
  have H := Has.start w
  have c0 := fun w : World => Good_any f s w hG
  have C0 := Lib.hid c0
  have HX2 := Lib.hid (excM_putI f 100 (sdN (f 100) 40) (by omega))
  have c4 := fun (v : Value) (u : World) (L : Lies u v 40 (noiseF (f 100) 8)) => Keep_any (excM f) (noiseF (f 100) 8) L
  have C4 := Lib.hid c4
  clear c0 c4 hG
  go_enter Tryd.func83, Tryd.ntmps83
  go_wp2_with (first | ((refine wpList_on (o := ⟨_, .box _ (.tmp 0), _, _, _, _⟩) rfl (fun K hK => ?_)); (try simp only [Act.put, List.setIfInBounds_toArray, List.set_cons_zero, List.set_cons_succ]); refine wp_box H _ (.tmp 0) rfl (v := .agg (memA _ _)) rfl ?_; clear H; intro u gm H; refine hK _ _ ?_; clear hK K; try simp only [Value.cells, List.cons_append, List.nil_append] at H) | (refine wpList_on (o := ⟨some 2, .alloc 29, _, _, _, _⟩) rfl (fun K hK => ?_); refine wp_alloc H 29 rfl (z := (.agg (memA (fun _ => 0) false))) (by kernel_rfl) ?_; clear H; intro u gz H; refine hK _ _ ?_; clear hK K; try simp only [Value.cells, List.cons_append, List.nil_append] at H) | ((refine wpList_on (o := ⟨_, .load 29 _, _, _, _, _⟩) rfl (fun K hK => ?_)); (try simp only [Act.put, List.setIfInBounds_toArray, List.set_cons_zero, List.set_cons_succ]); refine wp_load_all H 29 _ rfl rfl (by repeat (first | exact List.mem_cons_self | apply List.mem_cons_of_mem | apply List.mem_append_right)) (by rw [memA_size]; kernel_rfl) ?_; refine hK _ _ ?_; clear hK K) | (go_at_call 21; (with_reducible refine (C0.out _).mono ?_); rintro e w1 ⟨rfl, hb⟩; replace H := H.callee hb; clear hb) | ((refine wpList_on (o := ⟨_, .load 3 _, _, _, _, _⟩) rfl (fun K hK => ?_)); (try simp only [Act.put, List.setIfInBounds_toArray, List.set_cons_zero, List.set_cons_succ]); refine wp_load_one H 3 _ rfl rfl (by repeat (first | exact List.mem_cons_self | apply List.mem_cons_of_mem | apply List.mem_append_right)) (by kernel_rfl) (memA_get _ _ (by omega)) ?_; refine hK _ _ ?_; clear hK K) | (go_at_call 85; (with_reducible refine (noise_any _ _ _).mono ?_); rintro e w1 ⟨gn, rfl, hb⟩; replace H := H.joinR hb; clear hb; (try simp only [List.cons_append, List.nil_append] at H)) | ((refine wpList_on (o := ⟨_, .store 3 _ _, _, _, _, _⟩) rfl (fun K hK => ?_)); (try simp only [Act.put, List.setIfInBounds_toArray, List.set_cons_zero, List.set_cons_succ]); refine wp_store_mem (l1 := [_]) H 3 _ _ rfl rfl rfl (by kernel_rfl) (by omega) ?_; clear H; intro u H; refine hK _ _ ?_; clear hK K; try simp only [Value.cells, List.cons_append, List.nil_append] at H) | ((refine wpList_on (o := ⟨_, .load 27 _, _, _, _, _⟩) rfl (fun K hK => ?_)); refine wp_load_part (n := 80) H 27 _ rfl rfl (by repeat (first | exact List.mem_cons_self | apply List.mem_cons_of_mem | apply List.mem_append_right)) (by kernel_rfl) (by rw [memA_size]; omega) ((memA_exc _ _).trans HX2.out) ?_; refine hK _ _ ?_; clear hK K) | (go_at_call 82; (with_reducible refine (C4.out _ _ (H.lies (by repeat (first | exact List.mem_cons_self | apply List.mem_cons_of_mem | apply List.mem_append_right)) (Nat.le_refl _))).mono ?_); rintro e w1 ⟨rfl, hb⟩; replace H := H.callee hb; clear hb) | ((refine wpList_on (o := ⟨_, .store 27 _ _, _, _, _, _⟩) rfl (fun K hK => ?_)); (try simp only [Act.put, List.setIfInBounds_toArray, List.set_cons_zero, List.set_cons_succ]); refine wp_store_part (l1 := [_]) H 27 _ _ rfl rfl rfl (by rw [row_size]; kernel_rfl) (by rw [memA_size, row_size]; omega) (row_oneCell _ _) (memA_putX _ _ _) ?_; clear H; intro u H; refine hK _ _ ?_; clear hK K; try simp only [Value.cells, List.cons_append, List.nil_append] at H) | ((refine wpList_on (o := ⟨_, .store 29 _ _, _, _, _, _⟩) rfl (fun K hK => ?_)); (try simp only [Act.put, List.setIfInBounds_toArray, List.set_cons_zero, List.set_cons_succ]); refine wp_store_all (l1 := []) H 29 _ _ rfl rfl rfl (by rw [memA_size]; kernel_rfl) (by rw [memA_size, memA_size]) (memA_one _ _) ?_; clear H; intro u H; refine hK _ _ ?_; clear hK K; try simp only [Value.cells, List.cons_append, List.nil_append] at H))
  refine bodyPost_ret (results_has3 rfl _ H rfl (by repeat (first | exact List.mem_cons_self | apply List.mem_cons_of_mem | apply List.mem_append_right)) (by rw [memA_size]; kernel_rfl)) rfl ⟨gn, rfl, H.sub (by repeat (first | exact List.Sublist.refl _ | apply List.Sublist.cons))⟩
def histI (p : Nat → Int) (i : Nat) : Int := s16I (p i)
set_option maxHeartbeats 1600000 in
theorem history_any (p : Nat → Int) (w : World) :
    Calls Tryd.prog 57 #[.agg (row 80 p)] w fun e w' => e = .returned (.agg (row 80 (histI p))) ∧ Below w.heap.size w w' := by
  have H := Has.start w
  go_enter Tryd.func57, Tryd.ntmps57
  go_wp2_with (first | ((refine wpList_on (o := ⟨_, .box _ (.tmp 0), _, _, _, _⟩) rfl (fun K hK => ?_)); (try simp only [Act.put, List.setIfInBounds_toArray, List.set_cons_zero, List.set_cons_succ]); refine wp_box H _ (.tmp 0) rfl (v := .agg _) rfl ?_; clear H; intro u gp H; refine hK _ _ ?_; clear hK K; try simp only [Value.cells, List.cons_append, List.nil_append] at H) | (refine wpList_on (o := ⟨some 2, .alloc 27, _, _, _, _⟩) rfl (fun K hK => ?_); refine wp_alloc H 27 rfl (z := (.agg (row 80 fun _ => 0))) (by kernel_rfl) ?_; clear H; intro u gr H; refine hK _ _ ?_; clear hK K; try simp only [Value.cells, List.cons_append, List.nil_append] at H))
  go_loopw [4] (fun c wr => ∃ k : Nat, k ≤ 80 ∧ c = .int .i64 k ∧ Has w wr [(gr, 27, row 80 fun _ => 0), (gp, 27, row 80 fun i => if i < k then s16I (p i) else p i)]) (fun c _ => 80 - (intOf c).toNat)
  case atStart => exact ⟨0, by omega, rfl, H⟩
  clear H
  case round =>
    obtain ⟨k, hk, rfl, H⟩ := hrel
    by_cases hlt : k < 80
    · have HE : Hid ((fun i => if i < k + 1 then s16I (p i) else p i) = fun j => if j = k then s16I (p k) else if j < k then s16I (p j) else p j) := by
        show (fun i => if i < k + 1 then s16I (p i) else p i) = _
        funext i
        by_cases e : i = k
        · subst e; simp
        · have : i < k + 1 ↔ i < k := by omega
          simp [e, this]
      have e0 : (if k < k then s16I (p k) else p k) = p k := by simp
      go_wp2_with (first | ((refine wpList_on (o := ⟨_, .load 3 _, _, _, _, _⟩) rfl (fun K hK => ?_)); (try simp only [Act.put, List.setIfInBounds_toArray, List.set_cons_zero, List.set_cons_succ]); refine wp_load_one H 3 _ rfl rfl (by repeat (first | exact List.mem_cons_self | apply List.mem_cons_of_mem | apply List.mem_append_right)) (by kernel_rfl) (row_get _ (by omega)) ?_; refine hK _ _ ?_; clear hK K) | (go_at_call 58; (with_reducible refine (s16I_any _ _).mono ?_); rintro e w1 ⟨rfl, rfl⟩) | ((refine wpList_on (o := ⟨_, .store 3 _ _, _, _, _, _⟩) rfl (fun K hK => ?_)); (try simp only [Act.put, List.setIfInBounds_toArray, List.set_cons_zero, List.set_cons_succ]); refine wp_store_row_ (l1 := [_]) H 3 _ _ rfl rfl rfl (by kernel_rfl) (by omega) ?_; clear H; intro u H; refine hK _ _ ?_; clear hK K; try simp only [Value.cells, List.cons_append, List.nil_append] at H))
      go_roundw
      case rel => exact ⟨k + 1, by omega, by go_num, by rw [HE.out]; simpa using H⟩
      case measure => simp [intOf]; omega
    · obtain rfl : k = 80 := by omega
      have HE : Hid (row 80 (fun i => if i < 80 then s16I (p i) else p i) = row 80 (histI p)) := row_congr fun i hi => if_pos hi
      go_wp2_with (first | ((refine wpList_on (o := ⟨_, .load 27 _, _, _, _, _⟩) rfl (fun K hK => ?_)); (try simp only [Act.put, List.setIfInBounds_toArray, List.set_cons_zero, List.set_cons_succ]); refine wp_load_all H 27 _ rfl rfl (by repeat (first | exact List.mem_cons_self | apply List.mem_cons_of_mem | apply List.mem_append_right)) (by kernel_rfl) ?_; refine hK _ _ ?_; clear hK K) | ((refine wpList_on (o := ⟨_, .store 27 _ _, _, _, _, _⟩) rfl (fun K hK => ?_)); (try simp only [Act.put, List.setIfInBounds_toArray, List.set_cons_zero, List.set_cons_succ]); refine wp_store_all (l1 := []) H 27 _ _ rfl rfl rfl (by kernel_rfl) (by simp [row_size]) (row_one _ _) ?_; clear H; intro u H; refine hK _ _ ?_; clear hK K; try simp only [Value.cells, List.cons_append, List.nil_append] at H))
      refine bodyPost_ret (results_one rfl _ H rfl (by repeat (first | exact List.mem_cons_self | apply List.mem_cons_of_mem | apply List.mem_append_right)) (by kernel_rfl)) rfl ⟨by rw [HE.out], H.below⟩
def m0F (f : Nat → Int) (k i : Nat) : Int := if i < k then f i % 62001 - 31000 else f i
def m1F (f : Nat → Int) : Nat → Int := putX (putP (m0F f 8) (pastI (pstM (m0F f 8)))) (histI (excM (m0F f 8)))
def m2F (f : Nat → Int) : Nat → Int := putI (putI (putI (m1F f) 96 (m1F f 96 % 32768)) 97 (m1F f 97 % 18023)) 98 (20 + m1F f 98 % 60)
def memI (f : Nat → Int) : Nat → Int := putI (putI (m2F f) 99 (m2F f 99 % 7)) 100 (m2F f 100 % 65536)
theorem memI_good (f : Nat → Int) : GoodM (memI f) := by
  refine ⟨fun i hi => ?_, fun i hi => ?_, fun i hi => ?_, ?_, ?_, ?_, ?_, ?_⟩
  · have e : memI f i = f i % 62001 - 31000 := by
      unfold memI m2F m1F m0F putI putX putP
      rw [if_neg (by omega), if_neg (by omega), if_neg (by omega), if_neg (by omega), if_neg (by omega), if_neg (by omega), if_neg (by omega)]
      simp only [if_pos hi]
    rw [e]; omega
  · have e : pstM (memI f) i = s16I (m0F f 8 (8 + (8 + i - 8))) := by
      unfold pstM memI m2F m1F putI putX putP
      rw [if_neg (by omega), if_neg (by omega), if_neg (by omega), if_neg (by omega), if_neg (by omega), if_neg (by omega), if_pos (by omega)]
      rfl
    rw [e]; exact s16I_bd _
  · have e : excM (memI f) i = s16I (m0F f 8 (16 + (16 + i - 16))) := by
      unfold excM memI m2F m1F putI putX
      rw [if_neg (by omega), if_neg (by omega), if_neg (by omega), if_neg (by omega), if_neg (by omega), if_pos (by omega)]
      rfl
    rw [e]; exact s16I_bd _
  · have e : memI f 96 = m1F f 96 % 32768 := rfl
    rw [e]; omega
  · have e : memI f 97 = m1F f 97 % 18023 := rfl
    rw [e]; omega
  · have e : memI f 98 = 20 + m1F f 98 % 60 := rfl
    rw [e]; omega
  · have e : memI f 99 = m2F f 99 % 7 := rfl
    rw [e]; omega
  · have e : memI f 100 = m2F f 100 % 65536 := rfl
    rw [e]; omega
set_option maxHeartbeats 6400000 in
set_option maxRecDepth 100000 in
theorem memory_any (f : Nat → Int) (s : Bool) (w : World) :
    Calls Tryd.prog 24 #[.agg (memA f s)] w fun e w' => e = .returned (.agg (memA (memI f) s)) ∧ Below w.heap.size w w' := by
  have H := Has.start w
  go_enter Tryd.func24, Tryd.ntmps24
  go_wp2_with (first | ((refine wpList_on (o := ⟨_, .box _ (.tmp 0), _, _, _, _⟩) rfl (fun K hK => ?_)); (try simp only [Act.put, List.setIfInBounds_toArray, List.set_cons_zero, List.set_cons_succ]); refine wp_box H _ (.tmp 0) rfl (v := .agg (memA _ _)) rfl ?_; clear H; intro u gm H; refine hK _ _ ?_; clear hK K; try simp only [Value.cells, List.cons_append, List.nil_append] at H) | (refine wpList_on (o := ⟨some 2, .alloc 29, _, _, _, _⟩) rfl (fun K hK => ?_); refine wp_alloc H 29 rfl (z := (.agg (memA (fun _ => 0) false))) (by kernel_rfl) ?_; clear H; intro u gz H; refine hK _ _ ?_; clear hK K; try simp only [Value.cells, List.cons_append, List.nil_append] at H))
  go_loopw [4] (fun c wr => ∃ k : Nat, k ≤ 8 ∧ c = .int .i64 k ∧ Has w wr [(gz, 29, memA (fun _ => 0) false), (gm, 29, memA (m0F f k) s)]) (fun c _ => 8 - (intOf c).toNat)
  case atStart => exact ⟨0, by omega, rfl, H⟩
  clear H
  case round =>
    obtain ⟨k, hk, rfl, H⟩ := hrel
    by_cases hlt : k < 8
    · have e0 : m0F f k k = f k := if_neg (by omega)
      have HE : Hid (memA (putI (m0F f k) k (f k % 62001 - 31000)) s = memA (m0F f (k + 1)) s) := memA_congr s fun i hi => by
        unfold putI m0F
        by_cases e : i = k
        · subst e; simp
        · have : i < k + 1 ↔ i < k := by omega
          simp [e, this]
      have hb : 0 ≤ f k % 62001 ∧ f k % 62001 < 62001 := by omega
      obtain ⟨hb1, hb2⟩ := hb
      go_wp2_with (first | ((refine wpList_on (o := ⟨_, .load 3 _, _, _, _, _⟩) rfl (fun K hK => ?_)); (try simp only [Act.put, List.setIfInBounds_toArray, List.set_cons_zero, List.set_cons_succ]); refine wp_load_one H 3 _ rfl rfl (by repeat (first | exact List.mem_cons_self | apply List.mem_cons_of_mem | apply List.mem_append_right)) (by kernel_rfl) (memA_get _ _ (by omega)) ?_; refine hK _ _ ?_; clear hK K) | (go_at_call 53; (with_reducible refine (spot_any _ _ _ (by omega) (by omega)).mono ?_); rintro e w1 ⟨rfl, rfl⟩) | ((refine wpList_on (o := ⟨_, .store 3 _ _, _, _, _, _⟩) rfl (fun K hK => ?_)); (try simp only [Act.put, List.setIfInBounds_toArray, List.set_cons_zero, List.set_cons_succ]); refine wp_store_mem (l1 := [_]) H 3 _ _ rfl rfl rfl (by kernel_rfl) (by omega) ?_; clear H; intro u H; refine hK _ _ ?_; clear hK K; try simp only [Value.cells, List.cons_append, List.nil_append] at H))
      rw [HE.out] at H
      go_roundw
      case rel => exact ⟨k + 1, by omega, by go_num, H⟩
      case measure => simp [intOf]; omega
    · obtain rfl : k = 8 := by omega
      go_wp2
      refine wp_region_ordB [] [] (fun w' => Has w w' [(gz, 29, memA (fun _ => 0) false), (gm, 29, memA (m0F f 8) s)]) [] [[0, 1, 3, 4, 2, 5, 6, 7, 8, 9]] (by kernel_rfl) (by kernel_rfl) (by kernel_rfl) ?_; replace H := H.drew; generalize World.drew _ = u at *; simp only [List.forall_mem_cons, List.not_mem_nil, false_imp_iff, implies_true, and_true]; (repeat' refine And.intro ?_ ?_)
      repeat (first | (refine sq_load_part (n := 8) (o := ⟨_, .load 26 _, _, _, _, _⟩) 26 _ rfl rfl rfl rfl rfl (H.sub (by repeat (first | exact List.Sublist.refl _ | exact List.nil_sublist _ | apply List.Sublist.cons_cons | apply List.Sublist.cons | refine List.Sublist.trans ?_ (List.sublist_append_right _ _)))) (by repeat (first | exact List.mem_cons_self | apply List.mem_cons_of_mem | apply List.mem_append_right)) (by kernel_rfl) (by rw [memA_size]; omega) (memA_past _ _) ?_; simp only [Act.put, List.setIfInBounds_toArray, List.set_cons_zero, List.set_cons_succ]) | (refine sq_load_part (n := 80) (o := ⟨_, .load 27 _, _, _, _, _⟩) 27 _ rfl rfl rfl rfl rfl (H.sub (by repeat (first | exact List.Sublist.refl _ | exact List.nil_sublist _ | apply List.Sublist.cons_cons | apply List.Sublist.cons | refine List.Sublist.trans ?_ (List.sublist_append_right _ _)))) (by repeat (first | exact List.mem_cons_self | apply List.mem_cons_of_mem | apply List.mem_append_right)) (by kernel_rfl) (by rw [memA_size]; omega) (memA_exc _ _) ?_; simp only [Act.put, List.setIfInBounds_toArray, List.set_cons_zero, List.set_cons_succ]) | (refine sq_keep (o := ⟨_, .call _, _, _, _, _⟩) rfl rfl rfl (fun K hK => ?_); go_simp; (go_at_call 56; (with_reducible refine (past_any _ _).mono ?_); rintro e u ⟨rfl, hb⟩; replace H := H.callee hb; clear hb); refine hK _ _ (H.sub (by repeat (first | exact List.Sublist.refl _ | exact List.nil_sublist _ | apply List.Sublist.cons_cons | apply List.Sublist.cons | refine List.Sublist.trans ?_ (List.sublist_append_right _ _)))) ?_; clear hK K; try simp only [Act.put, List.setIfInBounds_toArray, List.set_cons_zero, List.set_cons_succ]) | (refine sq_keep (o := ⟨_, .call _, _, _, _, _⟩) rfl rfl rfl (fun K hK => ?_); go_simp; (go_at_call 57; (with_reducible refine (history_any _ _).mono ?_); rintro e u ⟨rfl, hb⟩; replace H := H.callee hb; clear hb); refine hK _ _ (H.sub (by repeat (first | exact List.Sublist.refl _ | exact List.nil_sublist _ | apply List.Sublist.cons_cons | apply List.Sublist.cons | refine List.Sublist.trans ?_ (List.sublist_append_right _ _)))) ?_; clear hK K; try simp only [Act.put, List.setIfInBounds_toArray, List.set_cons_zero, List.set_cons_succ]) | (refine sq_eff (o := ⟨_, .store 26 _ _, _, _, _, _⟩) rfl rfl rfl (fun K hK => ?_); refine wp_store_part (l1 := [_]) H 26 _ _ rfl rfl rfl (by rw [row_size]; kernel_rfl) (by rw [memA_size, row_size]; omega) (row_oneCell _ _) (memA_putP _ _ _) ?_; clear H; intro u H; (try simp only [Value.cells, List.cons_append, List.nil_append] at H); refine hK _ _ ?_; clear hK K; simp only [Act.put, List.setIfInBounds_toArray, List.set_cons_zero, List.set_cons_succ]) | (refine sq_eff (o := ⟨_, .store 27 _ _, _, _, _, _⟩) rfl rfl rfl (fun K hK => ?_); refine wp_store_part (l1 := [_]) H 27 _ _ rfl rfl rfl (by rw [row_size]; kernel_rfl) (by rw [memA_size, row_size]; omega) (row_oneCell _ _) (memA_putX _ _ _) ?_; clear H; intro u H; (try simp only [Value.cells, List.cons_append, List.nil_append] at H); refine hK _ _ ?_; clear hK K; simp only [Act.put, List.setIfInBounds_toArray, List.set_cons_zero, List.set_cons_succ]) | (refine sq_free (o := ⟨_, _, _, _, _, _⟩) (v := ?_) rfl rfl rfl ?_ ?_; rotate_left; (intro w'; go_simp; try with_reducible rfl); simp only [Act.put, List.setIfInBounds_toArray, List.set_cons_zero, List.set_cons_succ]))
      refine sq_nil ?_
      have HM1 : Hid (putX (putP (m0F f 8) (pastI (pstM (m0F f 8)))) (histI (excM (m0F f 8))) = m1F f) := rfl
      rw [HM1.out] at H
      clear HM1
      have hb : (0 ≤ m1F f 96 % 32768 ∧ m1F f 96 % 32768 < 32768) ∧ (0 ≤ m1F f 97 % 18023 ∧ m1F f 97 % 18023 < 18023) ∧ (0 ≤ m1F f 98 % 60 ∧ m1F f 98 % 60 < 60) := by omega
      obtain ⟨⟨b1, b2⟩, ⟨b3, b4⟩, b5, b6⟩ := hb
      have sW : IntKind.i64.wrap (20 + m1F f 98 % 60) = 20 + m1F f 98 % 60 := IntWalk.i64_in _ (by omega)
      go_wp2_with fail
      refine wp_region_text [53] (by kernel_rfl) (by kernel_rfl) (by kernel_rfl) ?_; replace H := H.drew; generalize World.drew _ = u at *
      repeat (first | (refine ones_load_one (o := ⟨_, .load 3 _, _, _, _, _⟩) H 3 _ rfl rfl rfl rfl (by repeat (first | exact List.mem_cons_self | apply List.mem_cons_of_mem | apply List.mem_append_right)) (by kernel_rfl) (memA_get _ _ (by omega)) ?_; simp only [Act.put, List.setIfInBounds_toArray, List.set_cons_zero, List.set_cons_succ]) | (refine' ones_call (o := ⟨_, .call _, _, _, _, _⟩) rfl rfl _ _; rotate_left; (unfold CallOf; go_simp; exact spot_any _ _ _ (by omega) (by omega)); simp only [Act.put, List.setIfInBounds_toArray, List.set_cons_zero, List.set_cons_succ]) | (refine ones_eff (o := ⟨_, .store 3 _ _, _, _, _, _⟩) rfl rfl (fun K hK => ?_); refine wp_store_mem (l1 := [_]) H 3 _ _ rfl rfl rfl (by kernel_rfl) (by omega) ?_; clear H; intro u H; refine hK _ _ ?_; clear hK K; simp only [Act.put, List.setIfInBounds_toArray, List.set_cons_zero, List.set_cons_succ]; try simp only [Value.cells, List.cons_append, List.nil_append] at H) | (refine ones_free (v := ?_) rfl rfl ?_ ?_; rotate_left; (intro w'; go_simp; try with_reducible rfl); simp only [Act.put, List.setIfInBounds_toArray, List.set_cons_zero, List.set_cons_succ]))
      refine ones_nil ?_
      have HM2 : Hid (putI (putI (putI (m1F f) 96 (m1F f 96 % 32768)) 97 (m1F f 97 % 18023)) 98 (20 + m1F f 98 % 60) = m2F f) := rfl
      (try rw [sW] at H)
      rw [HM2.out] at H
      clear HM2 b1 b2 b3 b4 b5 b6
      have hb : (0 ≤ m2F f 99 % 7 ∧ m2F f 99 % 7 < 7) ∧ (0 ≤ m2F f 100 % 65536 ∧ m2F f 100 % 65536 < 65536) := by omega
      obtain ⟨⟨b1, b2⟩, b3, b4⟩ := hb
      go_wp2_with fail
      refine wp_region_text [53] (by kernel_rfl) (by kernel_rfl) (by kernel_rfl) ?_; replace H := H.drew; generalize World.drew _ = u at *
      repeat (first | (refine ones_load_one (o := ⟨_, .load 3 _, _, _, _, _⟩) H 3 _ rfl rfl rfl rfl (by repeat (first | exact List.mem_cons_self | apply List.mem_cons_of_mem | apply List.mem_append_right)) (by kernel_rfl) (memA_get _ _ (by omega)) ?_; simp only [Act.put, List.setIfInBounds_toArray, List.set_cons_zero, List.set_cons_succ]) | (refine' ones_call (o := ⟨_, .call _, _, _, _, _⟩) rfl rfl _ _; rotate_left; (unfold CallOf; go_simp; exact spot_any _ _ _ (by omega) (by omega)); simp only [Act.put, List.setIfInBounds_toArray, List.set_cons_zero, List.set_cons_succ]) | (refine ones_eff (o := ⟨_, .store 3 _ _, _, _, _, _⟩) rfl rfl (fun K hK => ?_); refine wp_store_mem (l1 := [_]) H 3 _ _ rfl rfl rfl (by kernel_rfl) (by omega) ?_; clear H; intro u H; refine hK _ _ ?_; clear hK K; simp only [Act.put, List.setIfInBounds_toArray, List.set_cons_zero, List.set_cons_succ]; try simp only [Value.cells, List.cons_append, List.nil_append] at H) | (refine ones_free (v := ?_) rfl rfl ?_ ?_; rotate_left; (intro w'; go_simp; try with_reducible rfl); simp only [Act.put, List.setIfInBounds_toArray, List.set_cons_zero, List.set_cons_succ]))
      refine ones_nil ?_
      have HM3 : Hid (putI (putI (m2F f) 99 (m2F f 99 % 7)) 100 (m2F f 100 % 65536) = memI f) := rfl
      rw [HM3.out] at H
      clear HM3 b1 b2 b3 b4
      go_wp2_with (first | ((refine wpList_on (o := ⟨_, .load 29 _, _, _, _, _⟩) rfl (fun K hK => ?_)); (try simp only [Act.put, List.setIfInBounds_toArray, List.set_cons_zero, List.set_cons_succ]); refine wp_load_all H 29 _ rfl rfl (by repeat (first | exact List.mem_cons_self | apply List.mem_cons_of_mem | apply List.mem_append_right)) (by rw [memA_size]; kernel_rfl) ?_; refine hK _ _ ?_; clear hK K) | ((refine wpList_on (o := ⟨_, .store 29 _ _, _, _, _, _⟩) rfl (fun K hK => ?_)); (try simp only [Act.put, List.setIfInBounds_toArray, List.set_cons_zero, List.set_cons_succ]); refine wp_store_all (l1 := []) H 29 _ _ rfl rfl rfl (by rw [memA_size]; kernel_rfl) (by rw [memA_size, memA_size]) (memA_one _ _) ?_; clear H; intro u H; refine hK _ _ ?_; clear hK K; try simp only [Value.cells, List.cons_append, List.nil_append] at H))
      refine bodyPost_ret (results_one rfl _ H rfl (by repeat (first | exact List.mem_cons_self | apply List.mem_cons_of_mem | apply List.mem_append_right)) (by rw [memA_size]; kernel_rfl)) rfl ⟨rfl, H.below⟩
end Go.Proofs.YtcoicmbjoaonoaaDoor
/-
  Window and sums of products: plain Lean, no program. No statement is proved here.
-/
namespace Go.Proofs.YtcoicmbjoaonoaaDoor
set_option linter.unusedVariables false
set_option linter.unusedSimpArgs false
/-- The window. -/
def weight (i : Int) : Int := 32767 * (if 2 * (120 - i) - 1 < 2 * i + 1 then 2 * (120 - i) - 1 else 2 * i + 1) / 119
theorem weight_bd {i : Int} (h0 : 0 ≤ i) (h1 : i < 120) : 275 ≤ weight i ∧ weight i ≤ 32767 := by unfold weight; split <;> omega
theorem weight_even {i : Int} (h0 : 0 ≤ i) (h1 : i < 120) : weight (119 - i) = weight i := by unfold weight; split <;> split <;> omega
theorem weight_rises {i : Int} (h0 : 0 ≤ i) (h1 : i ≤ 58) : weight i < weight (i + 1) := by unfold weight; split <;> split <;> omega
/-- A sample behind the window. -/
def winS (f : Nat → Int) (i : Nat) : Int := (f i * weight i + 16384) / 32768
theorem winS_bd {f : Nat → Int} {i : Nat} (hi : i < 120) (hf : In16 (f i)) : -32768 ≤ winS f i ∧ winS f i ≤ 32768 := by
  have hw := weight_bd (i := (i : Int)) (by omega) (by omega)
  unfold In16 at hf
  have m := mul_bd (f i) (weight i) 32768 32767 (by omega) (by omega) (by omega) (by omega)
  unfold winS
  omega
/-- The sum of products k places apart, as far as n. -/
def corr (w : Nat → Int) (k n : Nat) : Int := sumTo n (fun i => w (i + k) * w i)
theorem sumTo_le {f g : Nat → Int} : ∀ n : Nat, (∀ i, i < n → f i ≤ g i) → sumTo n f ≤ sumTo n g
  | 0, _ => Int.le_refl _
  | n + 1, h => by
    have := sumTo_le n (fun i hi => h i (by omega))
    have := h n (by omega)
    rw [sumTo, sumTo]; omega
theorem sumTo_add (f g : Nat → Int) : ∀ n : Nat, sumTo n (fun i => f i + g i) = sumTo n f + sumTo n g
  | 0 => rfl
  | n + 1 => by rw [sumTo, sumTo, sumTo, sumTo_add f g n]; omega
theorem sumTo_two (f : Nat → Int) : ∀ n : Nat, sumTo n (fun i => 2 * f i) = 2 * sumTo n f
  | 0 => rfl
  | n + 1 => by rw [sumTo, sumTo, sumTo_two f n]; omega
theorem sumTo_split (f : Nat → Int) (m : Nat) : ∀ n : Nat, sumTo (m + n) f = sumTo m f + sumTo n (fun i => f (m + i))
  | 0 => by simp [sumTo]
  | n + 1 => by rw [← Nat.add_assoc, sumTo, sumTo_split f m n, sumTo, Int.add_assoc]
theorem sq_nonneg (x : Int) : 0 ≤ x * x := by
  by_cases h : 0 ≤ x
  · exact Int.mul_nonneg h h
  · have := Int.mul_nonneg (show 0 ≤ -x by omega) (show 0 ≤ -x by omega)
    rwa [Int.neg_mul_neg] at this
theorem two_mul_le (x y : Int) : 2 * (x * y) ≤ x * x + y * y ∧ -(x * x + y * y) ≤ 2 * (x * y) := by
  have h1 := sq_nonneg (x - y)
  have h2 := sq_nonneg (x + y)
  have e1 : (x - y) * (x - y) = x * x - 2 * (x * y) + y * y := by
    rw [Int.sub_mul, Int.mul_sub, Int.mul_sub, Int.mul_comm y x]; omega
  have e2 : (x + y) * (x + y) = x * x + 2 * (x * y) + y * y := by
    rw [Int.add_mul, Int.mul_add, Int.mul_add, Int.mul_comm y x]; omega
  omega
theorem corr_le (w : Nat → Int) (k n : Nat) : corr w k n ≤ corr w 0 (n + k) ∧ -(corr w 0 (n + k)) ≤ corr w k n := by
  have e0 : corr w 0 (n + k) = sumTo (n + k) (fun i => w i * w i) := sumTo_congr _ fun i _ => rfl
  have a1 : sumTo n (fun i => w i * w i) ≤ sumTo (n + k) (fun i => w i * w i) := by
    rw [sumTo_split]
    have := sumTo_nonneg k (f := fun i => w (n + i) * w (n + i)) (fun i _ => sq_nonneg _)
    omega
  have a2 : sumTo n (fun i => w (i + k) * w (i + k)) ≤ sumTo (n + k) (fun i => w i * w i) := by
    rw [Nat.add_comm n k, sumTo_split]
    have := sumTo_nonneg k (f := fun i => w i * w i) (fun i _ => sq_nonneg _)
    have e : sumTo n (fun i => w (i + k) * w (i + k)) = sumTo n (fun i => w (k + i) * w (k + i)) := sumTo_congr _ fun i _ => by rw [Nat.add_comm]
    omega
  have b1 := sumTo_le n (f := fun i => 2 * (w (i + k) * w i)) (g := fun i => w (i + k) * w (i + k) + w i * w i) (fun i _ => (two_mul_le _ _).1)
  have b2 := sumTo_le n (f := fun i => -1 * (w (i + k) * w (i + k) + w i * w i)) (g := fun i => 2 * (w (i + k) * w i)) (fun i _ => by have := (two_mul_le (w (i + k)) (w i)).2; omega)
  rw [sumTo_two, sumTo_add] at b1
  have c : sumTo n (fun i => -1 * (w (i + k) * w (i + k) + w i * w i)) = -(sumTo n (fun i => w (i + k) * w (i + k)) + sumTo n (fun i => w i * w i)) := by
    have : ∀ (f : Nat → Int) (n : Nat), sumTo n (fun i => -1 * f i) = -(sumTo n f) := by
      intro f n
      induction n with
      | zero => rfl
      | succ n ih => rw [sumTo, sumTo, ih]; omega
    rw [this, sumTo_add]
  rw [c, sumTo_two] at b2
  unfold corr at *
  rw [e0]
  omega
theorem corr_bd {w : Nat → Int} {k n : Nat} (hw : ∀ i, i < n + k → -32768 ≤ w i ∧ w i ≤ 32768) : -(n * 1073741824) ≤ corr w k n ∧ corr w k n ≤ n * 1073741824 :=
  sumTo_bd n fun i hi => mul_bd _ _ 32768 32768 (hw _ (by omega)).1 (hw _ (by omega)).2 (hw _ (by omega)).1 (hw _ (by omega)).2
theorem corr_zero_nonneg (w : Nat → Int) (n : Nat) : 0 ≤ corr w 0 n := sumTo_nonneg n fun i _ => sq_nonneg _
/-- A little less of what lies farther ahead. -/
def lessQ (q k : Int) : Int := q - q * k * k / 8192
theorem lessQ_lt {S q k : Int} (hS : 1073741824 ≤ S) (hk : 1 ≤ k ∧ k ≤ 8) (h1 : -(S + 1) ≤ q) (h2 : q ≤ S) : lessQ q k < S ∧ -S < lessQ q k := by
  have : k = 1 ∨ k = 2 ∨ k = 3 ∨ k = 4 ∨ k = 5 ∨ k = 6 ∨ k = 7 ∨ k = 8 := by omega
  unfold lessQ
  rcases this with rfl | rfl | rfl | rfl | rfl | rfl | rfl | rfl <;> omega
end Go.Proofs.YtcoicmbjoaonoaaDoor
/-
  pulses: sat, At, Build, Energy walked; rings; the walk of EnergySwaps. No statement is proved here.
-/
namespace Go.Proofs.YtcoicmbjoaonoaaDoor
set_option linter.unusedVariables false
set_option linter.unusedSimpArgs false
open Go.RowKit
set_option maxRecDepth 100000
theorem pulsesSat_any (x : Int) (w : World) : Calls Tryd.prog 96 #[.int .i64 x] w fun e w' => e = .returned (.int .i64 (sat16 x)) ∧ w = w' := by
  go_enter Tryd.func96, Tryd.ntmps96
  go_wp2_with (go_at_call 87; (with_reducible refine (Sat16_any _ _).mono ?_); rintro e w1 ⟨rfl, rfl⟩)
  go_ret
  exact ⟨rfl, rfl⟩
theorem pulsesSat_in (x : Int) (w : World) (h : In16 x) : Calls Tryd.prog 96 #[.int .i64 x] w fun e w' => e = .returned (.int .i64 x) ∧ w = w' := by
  have := pulsesSat_any x w
  rw [sat16_in h] at this; exact this
theorem At_any (t p : Int) (w : World) (h0 : 0 ≤ t) (h1 : t ≤ 3) (h2 : 0 ≤ p) (h3 : p ≤ 9) : Calls Tryd.prog 100 #[.int .i64 t, .int .i64 p] w fun e w' => e = .returned (.tuple #[.int .i64 (t + 4 * p), .int .i64 0]) ∧ w = w' := by
  have d1 := lt_no h0
  have d2 := le_no (show t < 4 by omega)
  have d3 := lt_no h2
  have d4 := le_no (show p < 10 by omega)
  go_enter Tryd.func100, Tryd.ntmps100
  go_wp2
  go_ret2
  exact ⟨rfl, rfl⟩
/-- The samples of pulses. -/
def buildS (x : Nat → Int) (s z : Int) (k : Nat) (i : Nat) : Int := if i % 4 < k ∧ x (i % 4) = (i / 4 : Nat) then (if s.toNat / 2 ^ (i % 4) % 2 = 1 then z else -z) else 0
theorem build_step (x : Nat → Int) (s z : Int) (k : Nat) (hk : k < 4) (hx : 0 ≤ x k ∧ x k ≤ 9) (v : Int) (hv : v = if s.toNat / 2 ^ k % 2 = 1 then z else -z) :
    row 40 (buildS x s z (k + 1)) = row 40 (fun j => if j = k + 4 * (x k).toNat then v else buildS x s z k j) := row_congr fun i hi => by
  unfold buildS
  by_cases e : i = k + 4 * (x k).toNat
  · have h1 : i % 4 = k := by omega
    have h2 : i / 4 = (x k).toNat := by omega
    rw [if_pos e, h1, h2, if_pos ⟨by omega, by omega⟩, hv]
  · rw [if_neg e]
    by_cases h1 : i % 4 < k + 1 ∧ x (i % 4) = (i / 4 : Nat)
    · have h2 : i % 4 ≠ k := fun h2 => by
        rw [h2] at h1
        exact e (by omega)
      have h3 : i % 4 < k ∧ x (i % 4) = (i / 4 : Nat) := ⟨by omega, h1.2⟩
      rw [if_pos h1, if_pos h3]
    · have h3 : ¬ (i % 4 < k ∧ x (i % 4) = (i / 4 : Nat)) := fun h => h1 ⟨by omega, h.2⟩
      rw [if_neg h1, if_neg h3]
theorem twice_row (I : Nat) (u v : Int) (f : Nat → Int) : row 40 (fun j => if j = I then u else f j) = row 40 (fun j => if j = I then u else if j = I then v else f j) := row_congr fun i _ => by
  by_cases h : i = I
  · rw [if_pos h, if_pos h]
  · rw [if_neg h, if_neg h, if_neg h]
theorem and_one (n : Nat) (h : n < 9223372036854775808) : bits .and .i64 (n : Int) 1 = ((n % 2 : Nat) : Int) := by
  have h127 : (BitVec.ofInt 64 1).toNat = 2 ^ 1 - 1 := by decide
  show IntKind.i64.wrap ((BitVec.ofInt 64 (n : Int) &&& BitVec.ofInt 64 1).toNat : Nat) = _
  rw [BitVec.toNat_and, h127, Nat.and_two_pow_sub_one_eq_mod, BitVec.ofInt_natCast, BitVec.toNat_ofNat, IntKind.wrap_i64]
  omega
def BuildPost (x : Nat → Int) (s z : Int) (w : World) (e : Ending) (w' : World) : Prop := ∃ g, e = .returned (.tuple #[.slice (some ⟨g, 0, none⟩) 40 40, .int .i64 0]) ∧ Has w w' [(g, 3, row 40 (buildS x s z 4))]
set_option maxHeartbeats 3200000 in
theorem Build_any (x : Nat → Int) (s z : Int) (w : World) (hx : ∀ i, i < 4 → 0 ≤ x i ∧ x i ≤ 9) (hs0 : 0 ≤ s) (hs : s ≤ 15) (hz0 : 0 ≤ z) (hz : z ≤ 32767) :
    Calls Tryd.prog 77 #[.agg (row 4 x), .int .i64 s, .int .i64 z] w (BuildPost x s z w) := by
  have H := Has.start w
  have HX := Lib.hid hx
  clear hx
  have d1 := lt_no hs0
  have d2 := le_no (show s < 16 by omega)
  have d3 := lt_no hz0
  have c1 := fun w : World => pulsesSat_in z w ⟨by omega, hz⟩
  have C1 := Lib.hid c1
  clear c1
  go_enter Tryd.func77, Tryd.ntmps77
  go_wp2_with (first | ((refine wpList_on (o := ⟨_, .box _ (.tmp 0), _, _, _, _⟩) rfl (fun K hK => ?_)); (try simp only [Act.put, List.setIfInBounds_toArray, List.set_cons_zero, List.set_cons_succ]); refine wp_box H _ (.tmp 0) rfl (v := .agg _) rfl ?_; clear H; intro u gx H; refine hK _ _ ?_; clear hK K; try simp only [Value.cells, List.cons_append, List.nil_append] at H) | (go_at_call 96; (with_reducible refine (C1.out _).mono ?_); rintro e w1 ⟨rfl, rfl⟩) | ((refine wpList_on (o := ⟨some 29, .makeSlice _ _ _, _, _, _, _⟩) rfl (fun K hK => ?_)); refine wp_make_has (t_ := 35) (e := 3) H _ _ rfl 40 .i64 .i64 rfl rfl ?_ ?_ ?_ ?_ ?_; (kernel_rfl); (kernel_rfl); (omega); (omega); (clear H; intro u g H; refine hK _ _ ?_; clear hK K; try simp only [Value.cells, List.cons_append, List.nil_append] at H)) | ((refine wpList_on (o := ⟨_, .load 39 _, _, _, _, _⟩) rfl (fun K hK => ?_)); (try simp only [Act.put, List.setIfInBounds_toArray, List.set_cons_zero, List.set_cons_succ]); refine wp_load_all H 39 _ rfl rfl (by repeat (first | exact List.mem_cons_self | apply List.mem_cons_of_mem | apply List.mem_append_right)) (by kernel_rfl) ?_; refine hK _ _ ?_; clear hK K))
  simp only [show (40 : Int).toNat = 40 from rfl] at *
  clear d1 d2 d3 C1
  go_loopw [31] (fun c wr => ∃ k : Nat, k ≤ 4 ∧ c = .int .i64 k ∧ Has w wr [(g, 3, row 40 (buildS x s z k)), (gx, 39, row 4 x)]) (fun c _ => 4 - (intOf c).toNat)
  case atStart => exact ⟨0, by omega, rfl, by
    have e : row 40 (buildS x s z 0) = row 40 (fun _ => 0) := row_congr fun i hi => by unfold buildS; rw [if_neg (by omega)]
    rw [e]; exact H⟩
  clear H
  case round =>
    obtain ⟨k, hk, rfl, H⟩ := hrel
    by_cases hlt : k < 4
    · have hix := fun w => run_index_row (P := Tryd.prog) (n := 4) (i := k) Tryd.underlying39 Tryd.underlying3 (by kernel_rfl) (by kernel_rfl) x hlt w
      obtain ⟨x0, x1⟩ := HX.out k hlt
      have HB := Lib.hid (build_step x s z k hlt ⟨x0, x1⟩)
      have hq := Nat.div_le_self s.toNat (2 ^ k)
      have e1 := and_one (s.toNat / 2 ^ k) (by omega)
      have e3 : s / 2 ^ k = ((s.toNat / 2 ^ k : Nat) : Int) := by
        rw [Int.natCast_ediv]
        simp [Int.toNat_of_nonneg hs0]
      have s0 : IntKind.u64.wrap (k : Int) = k := by rw [IntKind.wrap_u64]; omega
      have s1 : ((k : Int) + 4 * x k).toNat = k + 4 * (x k).toNat := by omega
      by_cases hbit : s.toNat / 2 ^ k % 2 = 1
      · have HV : Hid (z = if s.toNat / 2 ^ k % 2 = 1 then z else -z) := (if_pos hbit).symm
        have d : (bits .and .i64 (s / 2 ^ k) 1 == 1) = true := by rw [e3, e1, hbit]; rfl
        clear e1 e3 hq hbit
        go_wp2_with (first | (go_at_call 100; (with_reducible refine (At_any _ _ _ (by omega) (by omega) (by omega) (by omega)).mono ?_); rintro e w1 ⟨rfl, rfl⟩) | ((refine wpList_on (o := ⟨_, .store 3 _ _, _, _, _, _⟩) rfl (fun K hK => ?_)); (try simp only [Act.put, List.setIfInBounds_toArray, List.set_cons_zero, List.set_cons_succ]); refine wp_store_row_ (l1 := []) H 3 _ _ rfl rfl rfl (by kernel_rfl) (by omega) ?_; clear H; intro u H; refine hK _ _ ?_; clear hK K; try simp only [Value.cells, List.cons_append, List.nil_append] at H))
        go_roundw
        case rel => exact ⟨k + 1, by omega, by go_num, by rw [HB.out z HV.out, twice_row _ z (-z)]; exact H⟩
        case measure => simp [intOf]; omega
      · have HV : Hid (-z = if s.toNat / 2 ^ k % 2 = 1 then z else -z) := (if_neg hbit).symm
        have hb2 : s.toNat / 2 ^ k % 2 = 0 := by generalize s.toNat / 2 ^ k = q at hbit; omega
        have d : (bits .and .i64 (s / 2 ^ k) 1 == 1) = false := by rw [e3, e1, hb2]; rfl
        clear e1 e3 hq hbit
        go_wp2_with (first | (go_at_call 100; (with_reducible refine (At_any _ _ _ (by omega) (by omega) (by omega) (by omega)).mono ?_); rintro e w1 ⟨rfl, rfl⟩) | ((refine wpList_on (o := ⟨_, .store 3 _ _, _, _, _, _⟩) rfl (fun K hK => ?_)); (try simp only [Act.put, List.setIfInBounds_toArray, List.set_cons_zero, List.set_cons_succ]); refine wp_store_row_ (l1 := []) H 3 _ _ rfl rfl rfl (by kernel_rfl) (by omega) ?_; clear H; intro u H; refine hK _ _ ?_; clear hK K; try simp only [Value.cells, List.cons_append, List.nil_append] at H))
        go_roundw
        case rel => exact ⟨k + 1, by omega, by go_num, by rw [HB.out (-z) HV.out]; exact H⟩
        case measure => simp [intOf]; omega
    · obtain rfl : k = 4 := by omega
      go_wp2
      go_ret2
      exact ⟨g, rfl, H.sub (by repeat (first | exact List.Sublist.refl _ | exact List.nil_sublist _ | apply List.Sublist.cons_cons | apply List.Sublist.cons))⟩
/-- The sum of products of a ring begun at two samples. -/
def enS (r : Nat → Int) (a b m n : Nat) : Int := sumTo n (fun i => r (m + i - a) * r (m + i - b))
def energyS (r : Nat → Int) (a b : Nat) : Int := enS r a b (max a b) (40 - max a b)
theorem energy_swap (r : Nat → Int) (a b : Nat) : energyS r a b = energyS r b a := by
  unfold energyS enS
  rw [Nat.max_comm]
  exact sumTo_congr _ fun i _ => Int.mul_comm _ _
theorem sumTo_first {f : Nat → Int} : ∀ n : Nat, (∀ i, i < n → 0 ≤ f i) → 0 < n → f 0 ≤ sumTo n f
  | 0, _, h => by omega
  | n + 1, h, _ => by
    rw [sumTo_front]
    have := sumTo_nonneg n (f := fun i => f (i + 1)) (fun i hi => h (i + 1) (by omega))
    omega
theorem energy_self (r : Nat → Int) {a : Nat} (ha : a < 40) : r 0 * r 0 ≤ energyS r a a ∧ 0 ≤ energyS r a a := by
  unfold energyS enS
  rw [Nat.max_self]
  have h := sumTo_first (f := fun i => r (a + i - a) * r (a + i - a)) (40 - a) (fun i _ => sq_nonneg _) (by omega)
  have h2 := sumTo_nonneg (f := fun i => r (a + i - a) * r (a + i - a)) (40 - a) (fun i _ => sq_nonneg _)
  simp only [Nat.add_zero, Nat.sub_self] at h
  exact ⟨h, h2⟩
theorem en_term {r : Nat → Int} (hr : ∀ i, i < 40 → In16 (r i)) (x y : Nat) (hx : x < 40) (hy : y < 40) : -1073741824 ≤ r x * r y ∧ r x * r y ≤ 1073741824 := by
  have h1 := hr x hx
  have h2 := hr y hy
  unfold In16 at h1 h2
  exact mul_bd _ _ 32768 32768 (by omega) (by omega) (by omega) (by omega)
set_option maxHeartbeats 1600000 in
theorem Energy_in (r : Nat → Int) (P : Option Addr) (cap g o a b M : Nat) (w : World) (hr : ∀ i, i < 40 → In16 (r i)) (ha : a ≤ M) (hb : b ≤ M) (hM : M < 40) (hmx : (if (a : Int) < (b : Int) then (b : Int) else (a : Int)) = (M : Int)) (hR : Reads w P 40 g o r) :
    Calls Tryd.prog 111 #[.slice P 40 cap, .int .i64 a, .int .i64 b] w fun e w' => e = .returned (.tuple #[.int .i64 (enS r a b M (40 - M)), .int .i64 0]) ∧ Below w.heap.size w w' := by
  obtain rfl := hR.ptr (by omega)
  have H := Has.start w
  have d1 := lt_no (show (0 : Int) ≤ a by omega)
  have d2 : decide (40 ≤ a) = false := by simp; omega
  have d3 := lt_no (show (0 : Int) ≤ b by omega)
  have d4 : decide (40 ≤ b) = false := by simp; omega
  have d2' := le_no (show (a : Int) < 40 by omega)
  have d4' := le_no (show (b : Int) < 40 by omega)
  have HR := Lib.hid hr
  have HS : Hid (∀ n, n ≤ 40 - M → -(n * 1073741824) ≤ enS r a b M n ∧ enS r a b M n ≤ n * 1073741824) := fun n hn => sumTo_bd n fun i hi => en_term hr _ _ (by omega) (by omega)
  clear hr
  go_enter Tryd.func111, Tryd.ntmps111
  go_wp2
  all_goals
    go_loopw [8, 9] (fun s c wr => ∃ n : Nat, n ≤ 40 - M ∧ c = .int .i64 ((M + n : Nat) : Int) ∧ s = .int .i64 (enS r a b M n) ∧ Has w wr []) (fun _ c _ => (40 - intOf c).toNat)
    case atStart => exact ⟨0, by omega, by have e := hmx; split at e <;> first | (exfalso; omega) | (congr 1; done) | (congr 1; omega), rfl, H⟩
    clear H hmx
    case round =>
      clear d1 d2 d3 d4 d2' d4'
      obtain ⟨n, hn, rfl, rfl, H⟩ := hrel
      obtain ⟨b1, b2⟩ := HS.out n hn
      by_cases hlt : n < 40 - M
      · have HN : Hid (enS r a b M (n + 1) = enS r a b M n + r (M + n - a) * r (M + n - b)) := rfl
        obtain ⟨t1, t2⟩ := en_term HR.out (M + n - a) (M + n - b) (by omega) (by omega)
        have c1 := fun w : World => pulsesSat_in (r (M + n - a)) w (HR.out _ (by omega))
        have c2 := fun w : World => pulsesSat_in (r (M + n - b)) w (HR.out _ (by omega))
        have C1 := Lib.hid c1
        have C2 := Lib.hid c2
        clear c1 c2
        generalize enS r a b M n = S at *
        have s1 : IntKind.i64.wrap (r (M + n - a) * r (M + n - b)) = r (M + n - a) * r (M + n - b) := IntWalk.i64_in _ (by omega)
        obtain ⟨x, hx⟩ : ∃ x, x = M + n - a := ⟨_, rfl⟩
        obtain ⟨y, hy⟩ : ∃ y, y = M + n - b := ⟨_, rfl⟩
        have k1 : IntKind.i64.wrap ((M : Int) + (n : Int) - (a : Int)) = (x : Int) := by rw [IntWalk.i64_in _ (by omega)]; omega
        have k2 : IntKind.i64.wrap ((M : Int) + (n : Int) - (b : Int)) = (y : Int) := by rw [IntWalk.i64_in _ (by omega)]; omega
        rw [← hx, ← hy] at s1 HN t1 t2
        rw [← hx] at C1
        rw [← hy] at C2
        have k3 : x < 40 := by omega
        have k4 : y < 40 := by omega
        have k5 : (x : Int) < 40 := by omega
        have k6 : (y : Int) < 40 := by omega
        have k7 : (0 : Int) ≤ (x : Int) := by omega
        have k8 : (0 : Int) ≤ (y : Int) := by omega
        have HX := Lib.hid hx
        have HY := Lib.hid hy
        clear hx hy
        go_wp2_with fail
        refine wp_region_text [96] (by kernel_rfl) (by kernel_rfl) (by kernel_rfl) ?_; replace H := H.drew; generalize World.drew _ = u at *
        have R := Reads.has hR H
        repeat (first | (refine ones_load_num R (o := ⟨_, .load 3 _, _, _, _, _⟩) 3 _ rfl rfl rfl rfl (by kernel_rfl) k3 ?_; simp only [Act.put, List.setIfInBounds_toArray, List.set_cons_zero, List.set_cons_succ]) | (refine ones_load_num R (o := ⟨_, .load 3 _, _, _, _, _⟩) 3 _ rfl rfl rfl rfl (by kernel_rfl) k4 ?_; simp only [Act.put, List.setIfInBounds_toArray, List.set_cons_zero, List.set_cons_succ]) | (refine' ones_call (o := ⟨_, .call _, _, _, _, _⟩) rfl rfl _ _; rotate_left; (unfold CallOf; go_simp; exact pulsesSat_in _ _ (HR.out _ (by first | exact k3 | exact k4))); simp only [Act.put, List.setIfInBounds_toArray, List.set_cons_zero, List.set_cons_succ]) | (refine ones_free (v := ?_) rfl rfl ?_ ?_; rotate_left; (intro w'; go_simp; try with_reducible rfl); simp only [Act.put, List.setIfInBounds_toArray, List.set_cons_zero, List.set_cons_succ]))
        refine ones_nil ?_
        go_wp2
        go_roundw
        case rel => exact ⟨n + 1, by omega, by go_num, by rw [HN.out, IntWalk.i64_in (S + r x * r y) (by generalize r x * r y = q at *; omega)], H⟩
        case measure => simp [intOf]; omega
      · obtain rfl : n = 40 - M := by omega
        go_wp2
        go_ret2
        exact ⟨rfl, H.below⟩
theorem Energy_any (r : Nat → Int) (P : Option Addr) (cap g o a b : Nat) (w : World) (hr : ∀ i, i < 40 → In16 (r i)) (ha : a < 40) (hb : b < 40) (hR : Reads w P 40 g o r) :
    Calls Tryd.prog 111 #[.slice P 40 cap, .int .i64 a, .int .i64 b] w fun e w' => e = .returned (.tuple #[.int .i64 (energyS r a b), .int .i64 0]) ∧ Below w.heap.size w w' :=
  Energy_in r P cap g o a b (max a b) w hr (by omega) (by omega) (by omega) (by split <;> omega) hR
theorem Energy_l (r : Nat → Int) {v : Value} (a b : Nat) {w : World} (hr : ∀ i, i < 40 → In16 (r i)) (ha : a < 40) (hb : b < 40) (L : Lies w v 40 r) :
    Calls Tryd.prog 111 #[v, .int .i64 a, .int .i64 b] w fun e w' => e = .returned (.tuple #[.int .i64 (energyS r a b), .int .i64 0]) ∧ Below w.heap.size w w' := by
  obtain ⟨p, cap, g, o, rfl, R⟩ := L
  exact Energy_any r p cap g o a b w hr ha hb R
end Go.Proofs.YtcoicmbjoaonoaaDoor
