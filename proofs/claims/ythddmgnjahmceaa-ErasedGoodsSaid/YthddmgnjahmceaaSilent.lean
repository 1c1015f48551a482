/-
  conceal.Silent, memory, history, lost walked. No statement is proved here.
-/
import Derived.Test.YthddmgnjahmceaaErased
namespace Go.Proofs.Ythddmgnjahmceaa
open Go.RowKit
def si2 (f : Nat → Int) : Nat → Int := putX (putI f 100 (sdN (f 100) 40)) (keepF (excM f) (noiseF (f 100) 8))
theorem si2_good {f : Nat → Int} (h : GoodM f) : GoodM (si2 f) := putS_good h
def SiPost (f : Nat → Int) (s : Bool) (w : World) (e : Ending) (w' : World) : Prop := ∃ g, e = .returned (.tuple #[.agg (memA (si2 f) s), .slice (some ⟨g, 0, none⟩) 40 40, .int .i64 0]) ∧ Has w w' [(g, 3, row 40 (noiseF (f 100) 8))]
set_option maxHeartbeats 6400000 in
set_option maxRecDepth 100000 in
theorem Silent_any (f : Nat → Int) (s : Bool) (w : World) (hG : GoodM f) :
    Calls Try.prog 10 #[.agg (memA f s)] w (SiPost f s w) := by
  have H := Has.start w
  have c0 := fun w : World => Good_any f s w hG
  have C0 := Lib.hid c0
  have HX2 := Lib.hid (excM_putI f 100 (sdN (f 100) 40) (by omega))
  have c4 := fun (v : Value) (u : World) (L : Lies u v 40 (noiseF (f 100) 8)) => Keep_any (excM f) (noiseF (f 100) 8) L
  have C4 := Lib.hid c4
  clear c0 c4 hG
  go_enter Try.func10, Try.ntmps10
  go_wp2_with (first | ((refine wpList_on (o := ⟨_, .box _ (.tmp 0), _, _, _, _⟩) rfl (fun K hK => ?_)); refine wp_box H _ (.tmp 0) rfl (v := .agg (memA _ _)) rfl ?_; clear H; intro u gm H; refine hK _ _ ?_; clear hK K; try simp only [Value.cells, List.cons_append, List.nil_append] at H) | (refine wpList_on (o := ⟨some 2, .alloc 25, _, _, _, _⟩) rfl (fun K hK => ?_); refine wp_alloc H 25 rfl (z := (.agg (memA (fun _ => 0) false))) (by kernel_rfl) ?_; clear H; intro u gz H; refine hK _ _ ?_; clear hK K; try simp only [Value.cells, List.cons_append, List.nil_append] at H) | ((refine wpList_on (o := ⟨_, .load 25 _, _, _, _, _⟩) rfl (fun K hK => ?_)); refine wp_load_all H 25 _ rfl rfl (by repeat (first | exact List.mem_cons_self | apply List.mem_cons_of_mem | apply List.mem_append_right)) (by rw [memA_size]; kernel_rfl) ?_; refine hK _ _ ?_; clear hK K) | (go_at_call 11; (with_reducible refine (C0.out _).mono ?_); rintro e w1 ⟨rfl, hb⟩; replace H := H.callee hb; clear hb) | ((refine wpList_on (o := ⟨_, .load 3 _, _, _, _, _⟩) rfl (fun K hK => ?_)); refine wp_load_one H 3 _ rfl rfl (by repeat (first | exact List.mem_cons_self | apply List.mem_cons_of_mem | apply List.mem_append_right)) (by kernel_rfl) (memA_get _ _ (by omega)) ?_; refine hK _ _ ?_; clear hK K) | (go_at_call 14; (with_reducible refine (noise_any _ _ _).mono ?_); rintro e w1 ⟨gn, rfl, hb⟩; replace H := H.joinR hb; clear hb; (try simp only [List.cons_append, List.nil_append] at H)) | ((refine wpList_on (o := ⟨_, .store 3 _ _, _, _, _, _⟩) rfl (fun K hK => ?_)); refine wp_store_mem (l1 := [_]) H 3 _ _ rfl rfl rfl (by kernel_rfl) (by omega) ?_; clear H; intro u H; refine hK _ _ ?_; clear hK K; try simp only [Value.cells, List.cons_append, List.nil_append] at H) | ((refine wpList_on (o := ⟨_, .load 23 _, _, _, _, _⟩) rfl (fun K hK => ?_)); refine wp_load_part (n := 80) H 23 _ rfl rfl (by repeat (first | exact List.mem_cons_self | apply List.mem_cons_of_mem | apply List.mem_append_right)) (by kernel_rfl) (by rw [memA_size]; omega) ((memA_exc _ _).trans HX2.out) ?_; refine hK _ _ ?_; clear hK K) | (go_at_call 17; (with_reducible refine (C4.out _ _ (H.lies (by repeat (first | exact List.mem_cons_self | apply List.mem_cons_of_mem | apply List.mem_append_right)) (Nat.le_refl _))).mono ?_); rintro e w1 ⟨rfl, hb⟩; replace H := H.callee hb; clear hb) | ((refine wpList_on (o := ⟨_, .store 23 _ _, _, _, _, _⟩) rfl (fun K hK => ?_)); refine wp_store_part (l1 := [_]) H 23 _ _ rfl rfl rfl (by rw [row_size]; kernel_rfl) (by rw [memA_size, row_size]; omega) (row_oneCell _ _) (memA_putX _ _ _) ?_; clear H; intro u H; refine hK _ _ ?_; clear hK K; try simp only [Value.cells, List.cons_append, List.nil_append] at H) | ((refine wpList_on (o := ⟨_, .store 25 _ _, _, _, _, _⟩) rfl (fun K hK => ?_)); refine wp_store_all (l1 := []) H 25 _ _ rfl rfl rfl (by rw [memA_size]; kernel_rfl) (by rw [memA_size, memA_size]) (memA_one _ _) ?_; clear H; intro u H; refine hK _ _ ?_; clear hK K; try simp only [Value.cells, List.cons_append, List.nil_append] at H))
  refine bodyPost_ret (results_has3 rfl _ H rfl (by repeat (first | exact List.mem_cons_self | apply List.mem_cons_of_mem | apply List.mem_append_right)) (by rw [memA_size]; kernel_rfl)) rfl ⟨gn, rfl, H.sub (by repeat (first | exact List.Sublist.refl _ | apply List.Sublist.cons))⟩
def histI (p : Nat → Int) (i : Nat) : Int := s16I (p i)
set_option maxHeartbeats 1600000 in
theorem history_any (p : Nat → Int) (w : World) :
    Calls Try.prog 13 #[.agg (row 80 p)] w fun e w' => e = .returned (.agg (row 80 (histI p))) ∧ Below w.heap.size w w' := by
  have H := Has.start w
  go_enter Try.func13, Try.ntmps13
  go_wp2_with (first | ((refine wpList_on (o := ⟨_, .box _ (.tmp 0), _, _, _, _⟩) rfl (fun K hK => ?_)); refine wp_box H _ (.tmp 0) rfl (v := .agg _) rfl ?_; clear H; intro u gp H; refine hK _ _ ?_; clear hK K; try simp only [Value.cells, List.cons_append, List.nil_append] at H) | (refine wpList_on (o := ⟨some 2, .alloc 23, _, _, _, _⟩) rfl (fun K hK => ?_); refine wp_alloc H 23 rfl (z := (.agg (row 80 fun _ => 0))) (by kernel_rfl) ?_; clear H; intro u gr H; refine hK _ _ ?_; clear hK K; try simp only [Value.cells, List.cons_append, List.nil_append] at H))
  go_loopw [4] (fun c wr => ∃ k : Nat, k ≤ 80 ∧ c = .int .i64 k ∧ Has w wr [(gr, 23, row 80 fun _ => 0), (gp, 23, row 80 fun i => if i < k then s16I (p i) else p i)]) (fun c _ => 80 - (intOf c).toNat)
  case atStart => exact ⟨0, by omega, rfl, H⟩
  clear H
  case round =>
    obtain ⟨k, hk, rfl, H⟩ := hrel
    by_cases hlt : k < 80
    · have HE : Hid ((fun i => if i < k + 1 then s16I (p i) else p i) = fun j => if j = k then s16I (p k) else if j < k then s16I (p j) else p j) := by
        show (fun i => if i < k + 1 then s16I (p i) else p i) = _
        funext i
        by_cases e : i = k
        · subst e; simp
        · have : i < k + 1 ↔ i < k := by omega
          simp [e, this]
      have e0 : (if k < k then s16I (p k) else p k) = p k := by simp
      go_wp2_with (first | ((refine wpList_on (o := ⟨_, .load 3 _, _, _, _, _⟩) rfl (fun K hK => ?_)); refine wp_load_one H 3 _ rfl rfl (by repeat (first | exact List.mem_cons_self | apply List.mem_cons_of_mem | apply List.mem_append_right)) (by kernel_rfl) (row_get _ (by omega)) ?_; refine hK _ _ ?_; clear hK K) | (go_at_call 20; (with_reducible refine (s16I_any _ _).mono ?_); rintro e w1 ⟨rfl, rfl⟩) | ((refine wpList_on (o := ⟨_, .store 3 _ _, _, _, _, _⟩) rfl (fun K hK => ?_)); refine wp_store_row_ (l1 := [_]) H 3 _ _ rfl rfl rfl (by kernel_rfl) (by omega) ?_; clear H; intro u H; refine hK _ _ ?_; clear hK K; try simp only [Value.cells, List.cons_append, List.nil_append] at H))
      go_roundw
      case rel => exact ⟨k + 1, by omega, by go_num, by rw [HE.out]; simpa using H⟩
      case measure => simp [intOf]; omega
    · obtain rfl : k = 80 := by omega
      have HE : Hid (row 80 (fun i => if i < 80 then s16I (p i) else p i) = row 80 (histI p)) := row_congr fun i hi => if_pos hi
      go_wp2_with (first | ((refine wpList_on (o := ⟨_, .load 23 _, _, _, _, _⟩) rfl (fun K hK => ?_)); refine wp_load_all H 23 _ rfl rfl (by repeat (first | exact List.mem_cons_self | apply List.mem_cons_of_mem | apply List.mem_append_right)) (by kernel_rfl) ?_; refine hK _ _ ?_; clear hK K) | ((refine wpList_on (o := ⟨_, .store 23 _ _, _, _, _, _⟩) rfl (fun K hK => ?_)); refine wp_store_all (l1 := []) H 23 _ _ rfl rfl rfl (by kernel_rfl) (by simp [row_size]) (row_one _ _) ?_; clear H; intro u H; refine hK _ _ ?_; clear hK K; try simp only [Value.cells, List.cons_append, List.nil_append] at H))
      refine bodyPost_ret (results_one rfl _ H rfl (by repeat (first | exact List.mem_cons_self | apply List.mem_cons_of_mem | apply List.mem_append_right)) (by kernel_rfl)) rfl ⟨by rw [HE.out], H.below⟩
def m0F (f : Nat → Int) (k i : Nat) : Int := if i < k then f i % 62001 - 31000 else f i
def m1F (f : Nat → Int) : Nat → Int := putX (putP (m0F f 8) (pastI (pstM (m0F f 8)))) (histI (excM (m0F f 8)))
def m2F (f : Nat → Int) : Nat → Int := putI (putI (putI (m1F f) 96 (m1F f 96 % 32768)) 97 (m1F f 97 % 18023)) 98 (20 + m1F f 98 % 60)
def memI (f : Nat → Int) : Nat → Int := putI (putI (m2F f) 99 (m2F f 99 % 7)) 100 (m2F f 100 % 65536)
theorem memI_good (f : Nat → Int) : GoodM (memI f) := by
  refine ⟨fun i hi => ?_, fun i hi => ?_, fun i hi => ?_, ?_, ?_, ?_, ?_, ?_⟩
  · have e : memI f i = f i % 62001 - 31000 := by
      unfold memI m2F m1F m0F putI putX putP
      rw [if_neg (by omega), if_neg (by omega), if_neg (by omega), if_neg (by omega), if_neg (by omega), if_neg (by omega), if_neg (by omega)]
      simp only [if_pos hi]
    rw [e]; omega
  · have e : pstM (memI f) i = s16I (m0F f 8 (8 + (8 + i - 8))) := by
      unfold pstM memI m2F m1F putI putX putP
      rw [if_neg (by omega), if_neg (by omega), if_neg (by omega), if_neg (by omega), if_neg (by omega), if_neg (by omega), if_pos (by omega)]
      rfl
    rw [e]; exact s16I_bd _
  · have e : excM (memI f) i = s16I (m0F f 8 (16 + (16 + i - 16))) := by
      unfold excM memI m2F m1F putI putX
      rw [if_neg (by omega), if_neg (by omega), if_neg (by omega), if_neg (by omega), if_neg (by omega), if_pos (by omega)]
      rfl
    rw [e]; exact s16I_bd _
  · have e : memI f 96 = m1F f 96 % 32768 := rfl
    rw [e]; omega
  · have e : memI f 97 = m1F f 97 % 18023 := rfl
    rw [e]; omega
  · have e : memI f 98 = 20 + m1F f 98 % 60 := rfl
    rw [e]; omega
  · have e : memI f 99 = m2F f 99 % 7 := rfl
    rw [e]; omega
  · have e : memI f 100 = m2F f 100 % 65536 := rfl
    rw [e]; omega
set_option maxHeartbeats 6400000 in
set_option maxRecDepth 100000 in
theorem memory_any (f : Nat → Int) (s : Bool) (w : World) :
    Calls Try.prog 5 #[.agg (memA f s)] w fun e w' => e = .returned (.agg (memA (memI f) s)) ∧ Below w.heap.size w w' := by
  have H := Has.start w
  go_enter Try.func5, Try.ntmps5
  go_wp2_with (first | ((refine wpList_on (o := ⟨_, .box _ (.tmp 0), _, _, _, _⟩) rfl (fun K hK => ?_)); refine wp_box H _ (.tmp 0) rfl (v := .agg (memA _ _)) rfl ?_; clear H; intro u gm H; refine hK _ _ ?_; clear hK K; try simp only [Value.cells, List.cons_append, List.nil_append] at H) | (refine wpList_on (o := ⟨some 2, .alloc 25, _, _, _, _⟩) rfl (fun K hK => ?_); refine wp_alloc H 25 rfl (z := (.agg (memA (fun _ => 0) false))) (by kernel_rfl) ?_; clear H; intro u gz H; refine hK _ _ ?_; clear hK K; try simp only [Value.cells, List.cons_append, List.nil_append] at H))
  go_loopw [4] (fun c wr => ∃ k : Nat, k ≤ 8 ∧ c = .int .i64 k ∧ Has w wr [(gz, 25, memA (fun _ => 0) false), (gm, 25, memA (m0F f k) s)]) (fun c _ => 8 - (intOf c).toNat)
  case atStart => exact ⟨0, by omega, rfl, H⟩
  clear H
  case round =>
    obtain ⟨k, hk, rfl, H⟩ := hrel
    by_cases hlt : k < 8
    · have e0 : m0F f k k = f k := if_neg (by omega)
      have HE : Hid (memA (putI (m0F f k) k (f k % 62001 - 31000)) s = memA (m0F f (k + 1)) s) := memA_congr s fun i hi => by
        unfold putI m0F
        by_cases e : i = k
        · subst e; simp
        · have : i < k + 1 ↔ i < k := by omega
          simp [e, this]
      have hb : 0 ≤ f k % 62001 ∧ f k % 62001 < 62001 := by omega
      obtain ⟨hb1, hb2⟩ := hb
      go_wp2_with (first | ((refine wpList_on (o := ⟨_, .load 3 _, _, _, _, _⟩) rfl (fun K hK => ?_)); refine wp_load_one H 3 _ rfl rfl (by repeat (first | exact List.mem_cons_self | apply List.mem_cons_of_mem | apply List.mem_append_right)) (by kernel_rfl) (memA_get _ _ (by omega)) ?_; refine hK _ _ ?_; clear hK K) | (go_at_call 6; (with_reducible refine (spot_any _ _ _ (by omega) (by omega)).mono ?_); rintro e w1 ⟨rfl, rfl⟩) | ((refine wpList_on (o := ⟨_, .store 3 _ _, _, _, _, _⟩) rfl (fun K hK => ?_)); refine wp_store_mem (l1 := [_]) H 3 _ _ rfl rfl rfl (by kernel_rfl) (by omega) ?_; clear H; intro u H; refine hK _ _ ?_; clear hK K; try simp only [Value.cells, List.cons_append, List.nil_append] at H))
      rw [HE.out] at H
      go_roundw
      case rel => exact ⟨k + 1, by omega, by go_num, H⟩
      case measure => simp [intOf]; omega
    · obtain rfl : k = 8 := by omega
      go_wp2
      refine wp_region_ordB [] [] (fun w' => Has w w' [(gz, 25, memA (fun _ => 0) false), (gm, 25, memA (m0F f 8) s)]) [] [[0, 1, 3, 4, 2, 5, 6, 7, 8, 9]] (by kernel_rfl) (by kernel_rfl) (by kernel_rfl) ?_; replace H := H.drew; generalize World.drew _ = u at *; simp only [List.forall_mem_cons, List.not_mem_nil, false_imp_iff, implies_true, and_true]; (repeat' refine And.intro ?_ ?_)
      repeat (first | (refine sq_load_part (n := 8) (o := ⟨_, .load 22 _, _, _, _, _⟩) 22 _ rfl rfl rfl rfl rfl (H.sub (by repeat (first | exact List.Sublist.refl _ | exact List.nil_sublist _ | apply List.Sublist.cons_cons | apply List.Sublist.cons | refine List.Sublist.trans ?_ (List.sublist_append_right _ _)))) (by repeat (first | exact List.mem_cons_self | apply List.mem_cons_of_mem | apply List.mem_append_right)) (by kernel_rfl) (by rw [memA_size]; omega) (memA_past _ _) ?_; simp only [Act.put, List.setIfInBounds_toArray, List.set_cons_zero, List.set_cons_succ]) | (refine sq_load_part (n := 80) (o := ⟨_, .load 23 _, _, _, _, _⟩) 23 _ rfl rfl rfl rfl rfl (H.sub (by repeat (first | exact List.Sublist.refl _ | exact List.nil_sublist _ | apply List.Sublist.cons_cons | apply List.Sublist.cons | refine List.Sublist.trans ?_ (List.sublist_append_right _ _)))) (by repeat (first | exact List.mem_cons_self | apply List.mem_cons_of_mem | apply List.mem_append_right)) (by kernel_rfl) (by rw [memA_size]; omega) (memA_exc _ _) ?_; simp only [Act.put, List.setIfInBounds_toArray, List.set_cons_zero, List.set_cons_succ]) | (refine sq_keep (o := ⟨_, .call _, _, _, _, _⟩) rfl rfl rfl (fun K hK => ?_); go_simp; (go_at_call 12; (with_reducible refine (past_any _ _).mono ?_); rintro e u ⟨rfl, hb⟩; replace H := H.callee hb; clear hb); refine hK _ _ (H.sub (by repeat (first | exact List.Sublist.refl _ | exact List.nil_sublist _ | apply List.Sublist.cons_cons | apply List.Sublist.cons | refine List.Sublist.trans ?_ (List.sublist_append_right _ _)))) ?_; clear hK K; try simp only [Act.put, List.setIfInBounds_toArray, List.set_cons_zero, List.set_cons_succ]) | (refine sq_keep (o := ⟨_, .call _, _, _, _, _⟩) rfl rfl rfl (fun K hK => ?_); go_simp; (go_at_call 13; (with_reducible refine (history_any _ _).mono ?_); rintro e u ⟨rfl, hb⟩; replace H := H.callee hb; clear hb); refine hK _ _ (H.sub (by repeat (first | exact List.Sublist.refl _ | exact List.nil_sublist _ | apply List.Sublist.cons_cons | apply List.Sublist.cons | refine List.Sublist.trans ?_ (List.sublist_append_right _ _)))) ?_; clear hK K; try simp only [Act.put, List.setIfInBounds_toArray, List.set_cons_zero, List.set_cons_succ]) | (refine sq_eff (o := ⟨_, .store 22 _ _, _, _, _, _⟩) rfl rfl rfl (fun K hK => ?_); refine wp_store_part (l1 := [_]) H 22 _ _ rfl rfl rfl (by rw [row_size]; kernel_rfl) (by rw [memA_size, row_size]; omega) (row_oneCell _ _) (memA_putP _ _ _) ?_; clear H; intro u H; (try simp only [Value.cells, List.cons_append, List.nil_append] at H); refine hK _ _ ?_; clear hK K; simp only [Act.put, List.setIfInBounds_toArray, List.set_cons_zero, List.set_cons_succ]) | (refine sq_eff (o := ⟨_, .store 23 _ _, _, _, _, _⟩) rfl rfl rfl (fun K hK => ?_); refine wp_store_part (l1 := [_]) H 23 _ _ rfl rfl rfl (by rw [row_size]; kernel_rfl) (by rw [memA_size, row_size]; omega) (row_oneCell _ _) (memA_putX _ _ _) ?_; clear H; intro u H; (try simp only [Value.cells, List.cons_append, List.nil_append] at H); refine hK _ _ ?_; clear hK K; simp only [Act.put, List.setIfInBounds_toArray, List.set_cons_zero, List.set_cons_succ]) | (refine sq_free (o := ⟨_, _, _, _, _, _⟩) (v := ?_) rfl rfl rfl ?_ ?_; rotate_left; (intro w'; go_simp; try with_reducible rfl); simp only [Act.put, List.setIfInBounds_toArray, List.set_cons_zero, List.set_cons_succ]))
      refine sq_nil ?_
      have HM1 : Hid (putX (putP (m0F f 8) (pastI (pstM (m0F f 8)))) (histI (excM (m0F f 8))) = m1F f) := rfl
      rw [HM1.out] at H
      clear HM1
      have hb : (0 ≤ m1F f 96 % 32768 ∧ m1F f 96 % 32768 < 32768) ∧ (0 ≤ m1F f 97 % 18023 ∧ m1F f 97 % 18023 < 18023) ∧ (0 ≤ m1F f 98 % 60 ∧ m1F f 98 % 60 < 60) := by omega
      obtain ⟨⟨b1, b2⟩, ⟨b3, b4⟩, b5, b6⟩ := hb
      have sW : IntKind.i64.wrap (20 + m1F f 98 % 60) = 20 + m1F f 98 % 60 := IntWalk.i64_in _ (by omega)
      go_wp2_with fail
      refine wp_region_text [6] (by kernel_rfl) (by kernel_rfl) (by kernel_rfl) ?_; replace H := H.drew; generalize World.drew _ = u at *
      repeat (first | (refine ones_load_one (o := ⟨_, .load 3 _, _, _, _, _⟩) H 3 _ rfl rfl rfl rfl (by repeat (first | exact List.mem_cons_self | apply List.mem_cons_of_mem | apply List.mem_append_right)) (by kernel_rfl) (memA_get _ _ (by omega)) ?_; simp only [Act.put, List.setIfInBounds_toArray, List.set_cons_zero, List.set_cons_succ]) | (refine' ones_call (o := ⟨_, .call _, _, _, _, _⟩) rfl rfl _ _; rotate_left; (unfold CallOf; go_simp; exact spot_any _ _ _ (by omega) (by omega)); simp only [Act.put, List.setIfInBounds_toArray, List.set_cons_zero, List.set_cons_succ]) | (refine ones_eff (o := ⟨_, .store 3 _ _, _, _, _, _⟩) rfl rfl (fun K hK => ?_); refine wp_store_mem (l1 := [_]) H 3 _ _ rfl rfl rfl (by kernel_rfl) (by omega) ?_; clear H; intro u H; refine hK _ _ ?_; clear hK K; simp only [Act.put, List.setIfInBounds_toArray, List.set_cons_zero, List.set_cons_succ]; try simp only [Value.cells, List.cons_append, List.nil_append] at H) | (refine ones_free (v := ?_) rfl rfl ?_ ?_; rotate_left; (intro w'; go_simp; try with_reducible rfl); simp only [Act.put, List.setIfInBounds_toArray, List.set_cons_zero, List.set_cons_succ]))
      refine ones_nil ?_
      have HM2 : Hid (putI (putI (putI (m1F f) 96 (m1F f 96 % 32768)) 97 (m1F f 97 % 18023)) 98 (20 + m1F f 98 % 60) = m2F f) := rfl
      (try rw [sW] at H)
      rw [HM2.out] at H
      clear HM2 b1 b2 b3 b4 b5 b6
      have hb : (0 ≤ m2F f 99 % 7 ∧ m2F f 99 % 7 < 7) ∧ (0 ≤ m2F f 100 % 65536 ∧ m2F f 100 % 65536 < 65536) := by omega
      obtain ⟨⟨b1, b2⟩, b3, b4⟩ := hb
      go_wp2_with fail
      refine wp_region_text [6] (by kernel_rfl) (by kernel_rfl) (by kernel_rfl) ?_; replace H := H.drew; generalize World.drew _ = u at *
      repeat (first | (refine ones_load_one (o := ⟨_, .load 3 _, _, _, _, _⟩) H 3 _ rfl rfl rfl rfl (by repeat (first | exact List.mem_cons_self | apply List.mem_cons_of_mem | apply List.mem_append_right)) (by kernel_rfl) (memA_get _ _ (by omega)) ?_; simp only [Act.put, List.setIfInBounds_toArray, List.set_cons_zero, List.set_cons_succ]) | (refine' ones_call (o := ⟨_, .call _, _, _, _, _⟩) rfl rfl _ _; rotate_left; (unfold CallOf; go_simp; exact spot_any _ _ _ (by omega) (by omega)); simp only [Act.put, List.setIfInBounds_toArray, List.set_cons_zero, List.set_cons_succ]) | (refine ones_eff (o := ⟨_, .store 3 _ _, _, _, _, _⟩) rfl rfl (fun K hK => ?_); refine wp_store_mem (l1 := [_]) H 3 _ _ rfl rfl rfl (by kernel_rfl) (by omega) ?_; clear H; intro u H; refine hK _ _ ?_; clear hK K; simp only [Act.put, List.setIfInBounds_toArray, List.set_cons_zero, List.set_cons_succ]; try simp only [Value.cells, List.cons_append, List.nil_append] at H) | (refine ones_free (v := ?_) rfl rfl ?_ ?_; rotate_left; (intro w'; go_simp; try with_reducible rfl); simp only [Act.put, List.setIfInBounds_toArray, List.set_cons_zero, List.set_cons_succ]))
      refine ones_nil ?_
      have HM3 : Hid (putI (putI (m2F f) 99 (m2F f 99 % 7)) 100 (m2F f 100 % 65536) = memI f) := rfl
      rw [HM3.out] at H
      clear HM3 b1 b2 b3 b4
      go_wp2_with (first | ((refine wpList_on (o := ⟨_, .load 25 _, _, _, _, _⟩) rfl (fun K hK => ?_)); refine wp_load_all H 25 _ rfl rfl (by repeat (first | exact List.mem_cons_self | apply List.mem_cons_of_mem | apply List.mem_append_right)) (by rw [memA_size]; kernel_rfl) ?_; refine hK _ _ ?_; clear hK K) | ((refine wpList_on (o := ⟨_, .store 25 _ _, _, _, _, _⟩) rfl (fun K hK => ?_)); refine wp_store_all (l1 := []) H 25 _ _ rfl rfl rfl (by rw [memA_size]; kernel_rfl) (by rw [memA_size, memA_size]) (memA_one _ _) ?_; clear H; intro u H; refine hK _ _ ?_; clear hK K; try simp only [Value.cells, List.cons_append, List.nil_append] at H))
      refine bodyPost_ret (results_one rfl _ H rfl (by repeat (first | exact List.mem_cons_self | apply List.mem_cons_of_mem | apply List.mem_append_right)) (by rw [memA_size]; kernel_rfl)) rfl ⟨rfl, H.below⟩
set_option maxHeartbeats 3200000 in
set_option maxRecDepth 100000 in
theorem lost_any (w : World) : Calls Try.prog 8 #[] w fun e w' => e = .returned (.bool true) ∧ Below w.heap.size w w' := by
  have H := Has.start w
  have e99 : er2 (er1 freshF 0) 99 = 1 := by decide
  go_enter Try.func8, Try.ntmps8
  go_wp2_with (first | (go_at_call 18; (with_reducible refine (Fresh_any _).mono ?_); rintro e w1 ⟨rfl, hb⟩; replace H := H.callee hb; clear hb) | (go_at_call 7; (with_reducible refine (Erased_any freshF false 0 _ fresh_good ⟨by omega, by omega⟩).mono ?_); rintro e w1 ⟨g, rfl, hb⟩; replace H := H.join hb; clear hb; try simp only [Value.cells, List.cons_append, List.nil_append] at H) | (refine wpList_on (o := ⟨some 1, .alloc 25, _, _, _, _⟩) rfl (fun K hK => ?_); refine wp_alloc H 25 rfl (z := (.agg (memA (fun _ => 0) false))) (by kernel_rfl) ?_; clear H; intro u gm H; refine hK _ _ ?_; clear hK K; try simp only [Value.cells, List.cons_append, List.nil_append] at H) | ((refine wpList_on (o := ⟨_, .store 25 _ _, _, _, _, _⟩) rfl (fun K hK => ?_)); refine wp_store_all (l1 := []) H 25 _ _ rfl rfl rfl (by rw [memA_size]; kernel_rfl) (by rw [memA_size, memA_size]) (memA_one _ _) ?_; clear H; intro u H; refine hK _ _ ?_; clear hK K; try simp only [Value.cells, List.cons_append, List.nil_append] at H) | ((refine wpList_on (o := ⟨_, .load 3 _, _, _, _, _⟩) rfl (fun K hK => ?_)); refine wp_load_one H 3 _ rfl rfl (by repeat (first | exact List.mem_cons_self | apply List.mem_cons_of_mem | apply List.mem_append_right)) (by kernel_rfl) (memA_get _ _ (by omega)) ?_; refine hK _ _ ?_; clear hK K) | (go_at_call 11; (with_reducible refine (Good_any freshF false _ fresh_good).mono ?_); rintro e w1 ⟨rfl, hb⟩; replace H := H.callee hb; clear hb))
  go_ret
  exact ⟨rfl, H.below⟩
end Go.Proofs.Ythddmgnjahmceaa
