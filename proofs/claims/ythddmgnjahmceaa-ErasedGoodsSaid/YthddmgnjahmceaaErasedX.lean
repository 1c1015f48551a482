/-
  The walks of ErasedEnds and ErasedGoods. No statement is proved here.
-/
import Derived.Test.YthddmgnjahmceaaSilent
import Derived.Test.YthddmgnjahmceaaSpot
namespace Go.Proofs.Ythddmgnjahmceaa
open Go.RowKit
theorem putE_good {f : Nat → Int} (h : GoodM f) {v : Int} (hv : 0 ≤ v ∧ v ≤ 6) : GoodM (putI f 99 v) := by
  obtain ⟨h1, h2, h3, h4, h5, h6, h7, h8⟩ := h
  refine ⟨fun i hi => ?_, fun i hi => ?_, fun i hi => ?_, ?_, ?_, ?_, ?_, ?_⟩
  · unfold putI; rw [if_neg (by omega)]; exact h1 i hi
  · have := h2 i hi; unfold pstM putI at *; rw [if_neg (by omega)]; exact this
  · have := h3 i hi; unfold excM putI at *; rw [if_neg (by omega)]; exact this
  · exact h4
  · exact h5
  · exact h6
  · unfold putI; rw [if_pos rfl]; exact hv
  · exact h8
theorem noiseN_zero (s : Int) : noiseN s 0 = 0 := by
  unfold noiseN
  rw [show min (max (0 : Int) 0) 32767 = 0 from rfl, Int.mul_zero]; rfl
theorem erE_zero {f : Nat → Int} (h : f 99 = 6) (i : Nat) : erE f i = 0 := by
  have e : ∀ g, fade g 6 = 0 := fun g => if_pos (by omega)
  unfold erE erN mixF
  rw [h, e, e, Int.mul_zero]
  show sat16 ((0 + 8192) / 16384 + sat16 (noiseN (sdN (f 100) i) 0)) = 0
  rw [noiseN_zero]; rfl
set_option maxHeartbeats 6400000 in
set_option maxRecDepth 100000 in
theorem erasedEnds_in (f F : Nat → Int) (s : Bool) (X : Int) (w : World) (hG : GoodM F) (hX : 0 ≤ X ∧ X < 2)
    (c1 : ∀ w : World, Calls Try.prog 5 #[.agg (memA f s)] w fun e w' => e = .returned (.agg (memA F s)) ∧ Below w.heap.size w w')
    (c2 : ∀ w : World, Calls Try.prog 6 #[.int .i64 (F 99), .int .i64 2] w fun e w' => e = .returned (.int .i64 X) ∧ w = w') :
    Calls Try.prog 3 #[.agg (memA f s)] w fun e w' => e = .returned (.bool true) ∧ Below w.heap.size w w' := by
  have H := Has.start w
  have C1 := Lib.hid c1
  have C2 := Lib.hid c2
  obtain ⟨x1, x2⟩ := hX
  have c3 := fun w : World => Erased_any (putI F 99 (5 + X)) s 0 w (putE_good hG (by omega)) ⟨by omega, by omega⟩
  have h6 : er1 (putI F 99 (5 + X)) 0 99 = 6 := by
    unfold er1
    rw [if_pos rfl]
    show (if 6 < putI F 99 (5 + X) 99 + 1 then (6 : Int) else putI F 99 (5 + X) 99 + 1) = 6
    have e : putI F 99 (5 + X) 99 = 5 + X := if_pos rfl
    rw [e]; split <;> omega
  have e99 : er2 (er1 (putI F 99 (5 + X)) 0) 99 = 6 := h6
  have HZ : Hid (∀ i, erE (er1 (putI F 99 (5 + X)) 0) i = 0) := fun i => erE_zero h6 i
  generalize er1 (putI F 99 (5 + X)) 0 = G at *
  have C3 := Lib.hid c3
  have sX : IntKind.i64.wrap (5 + X) = 5 + X := IntWalk.i64_in _ (by omega)
  clear c1 c2 c3 hG h6
  go_enter Try.func3, Try.ntmps3
  go_wp2_with (first | ((refine wpList_on (o := ⟨_, .box _ (.tmp 0), _, _, _, _⟩) rfl (fun K hK => ?_)); refine wp_box H _ (.tmp 0) rfl (v := .agg (memA _ _)) rfl ?_; clear H; intro u gm H; refine hK _ _ ?_; clear hK K; try simp only [Value.cells, List.cons_append, List.nil_append] at H) | ((refine wpList_on (o := ⟨_, .load 25 _, _, _, _, _⟩) rfl (fun K hK => ?_)); refine wp_load_all H 25 _ rfl rfl (by repeat (first | exact List.mem_cons_self | apply List.mem_cons_of_mem | apply List.mem_append_right)) (by rw [memA_size]; kernel_rfl) ?_; refine hK _ _ ?_; clear hK K) | (go_at_call 5; (with_reducible refine (C1.out _).mono ?_); rintro e w1 ⟨rfl, hb⟩; replace H := H.callee hb; clear hb) | ((refine wpList_on (o := ⟨_, .store 25 _ _, _, _, _, _⟩) rfl (fun K hK => ?_)); refine wp_store_all (l1 := []) H 25 _ _ rfl rfl rfl (by rw [memA_size]; kernel_rfl) (by rw [memA_size, memA_size]) (memA_one _ _) ?_; clear H; intro u H; refine hK _ _ ?_; clear hK K; try simp only [Value.cells, List.cons_append, List.nil_append] at H) | ((refine wpList_on (o := ⟨_, .load 3 _, _, _, _, _⟩) rfl (fun K hK => ?_)); refine wp_load_one H 3 _ rfl rfl (by repeat (first | exact List.mem_cons_self | apply List.mem_cons_of_mem | apply List.mem_append_right)) (by kernel_rfl) (memA_get _ _ (by omega)) ?_; refine hK _ _ ?_; clear hK K) | (go_at_call 6; (with_reducible refine (C2.out _).mono ?_); rintro e w1 ⟨rfl, rfl⟩) | ((refine wpList_on (o := ⟨_, .store 3 _ _, _, _, _, _⟩) rfl (fun K hK => ?_)); refine wp_store_mem (l1 := []) H 3 _ _ rfl rfl rfl (by kernel_rfl) (by omega) ?_; clear H; intro u H; refine hK _ _ ?_; clear hK K; try simp only [Value.cells, List.cons_append, List.nil_append] at H) | (go_at_call 7; (with_reducible refine (C3.out _).mono ?_); rintro e w1 ⟨g, rfl, hb⟩; replace H := H.join hb; clear hb; (try simp only [List.cons_append, List.nil_append] at H)) | (refine wpList_on (o := ⟨some 3, .alloc 25, _, _, _, _⟩) rfl (fun K hK => ?_); refine wp_alloc H 25 rfl (z := (.agg (memA (fun _ => 0) false))) (by kernel_rfl) ?_; clear H; intro u gn H; refine hK _ _ ?_; clear hK K; try simp only [Value.cells, List.cons_append, List.nil_append] at H) | (go_at_call 8; (with_reducible refine (lost_any _).mono ?_); rintro e w1 ⟨rfl, hb⟩; replace H := H.callee hb; clear hb) | ((refine wpList_on (o := ⟨some 31, .makeSlice _ _ _, _, _, _, _⟩) rfl (fun K hK => ?_)); refine wp_make_has (t_ := 28) (e := 3) H _ _ rfl 40 .i64 .i64 rfl rfl ?_ ?_ ?_ ?_ ?_; (kernel_rfl); (kernel_rfl); (omega); (omega); (clear H; intro u gk H; refine hK _ _ ?_; clear hK K; try simp only [Value.cells, List.cons_append, List.nil_append] at H)))
  refine (same_l (by omega) ((H.lies (f := erE G) (m := 40) (n := 40) (by repeat (first | exact List.mem_cons_self | apply List.mem_cons_of_mem | apply List.mem_append_right)) (by omega)).congr fun i _ => HZ.out i) (H.lies (m := 40) (n := 40) (by repeat (first | exact List.mem_cons_self | apply List.mem_cons_of_mem | apply List.mem_append_right)) (by omega))).mono ?_
  rintro e w1 ⟨rfl, hb⟩
  replace H := H.callee hb
  clear hb
  go_wp2_with fail
  go_ret
  exact ⟨rfl, H.below⟩
theorem erasedEnds_walk (f : Nat → Int) (s : Bool) (w : World) : Calls Try.prog 3 #[.agg (memA f s)] w fun e w' => e = .returned (.bool true) ∧ Below w.heap.size w w' :=
  erasedEnds_in f (memI f) s (memI f 99 % 2) w (memI_good f) (by omega) (fun w => memory_any f s w) (fun w => spot_any _ 2 w (by omega) (by omega))
theorem noise_8 (s : Int) (i : Nat) : -8 ≤ noiseF s 8 i ∧ noiseF s 8 i ≤ 8 := by
  unfold noiseF noiseN
  have := seedN_bd (sdN s i)
  rw [show min (max (8 : Int) 0) 32767 = 8 from rfl]
  omega
theorem er2_high (F : Nat → Int) (k : Nat) (hk : k < 40) : er2 F (16 + (40 + k)) = erE F k := by
  unfold er2 putX
  rw [if_pos (by omega), show 16 + (40 + k) - 16 = 40 + k by omega]
  unfold keepF
  rw [if_neg (by omega), show 40 + k - 40 = k by omega]
  exact sat16_in (mixF_bd _ _ _ _ k)
theorem er2_low (F : Nat → Int) (k : Nat) (hk : k < 40) : er2 F (16 + k) = F (16 + (40 + k)) := by
  unfold er2 putX
  rw [if_pos (by omega), show 16 + k - 16 = k by omega]
  unfold keepF
  rw [if_pos (by omega)]
  rfl
theorem er1_at (F : Nat → Int) (half : Int) (k : Nat) (hk : k < 99) : er1 F half k = F k := by
  unfold er1
  split
  · exact if_neg (by omega)
  · rfl
set_option maxHeartbeats 12800000 in
set_option maxRecDepth 100000 in
theorem erasedGoods_in (f F : Nat → Int) (s : Bool) (half hh : Int) (w : World) (hG : GoodM F) (hX : 0 ≤ hh ∧ hh < 2)
    (c1 : ∀ w : World, Calls Try.prog 5 #[.agg (memA f s)] w fun e w' => e = .returned (.agg (memA F s)) ∧ Below w.heap.size w w')
    (c2 : ∀ w : World, Calls Try.prog 6 #[.int .i64 half, .int .i64 2] w fun e w' => e = .returned (.int .i64 hh) ∧ w = w') :
    Calls Try.prog 4 #[.agg (memA f s), .int .i64 half] w fun e w' => e = .returned (.bool true) ∧ Below w.heap.size w w' := by
  have H := Has.start w
  have C1 := Lib.hid c1
  have C2 := Lib.hid c2
  have c3 := fun w : World => Erased_any F s hh w hG hX
  have c4 := fun w : World => Silent_any F s w hG
  have g1 := fun w : World => Good_any F s w hG
  have g2 := fun w : World => Good_any (er2 (er1 F hh)) s w (er2_good (er1_good hG hh))
  have g3 := fun w : World => Good_any (si2 F) s w (si2_good hG)
  have HI : Hid (∀ k, -32768 ≤ erE (er1 F hh) k ∧ erE (er1 F hh) k ≤ 32767) := fun k => mixF_bd _ _ _ _ k
  have HA : Hid (∀ k, k < 40 → er2 (er1 F hh) (16 + (40 + k)) = erE (er1 F hh) k) := fun k hk => er2_high _ k hk
  have HB : Hid (∀ k, k < 40 → er2 (er1 F hh) (16 + k) = F (16 + (40 + k))) := fun k hk => (er2_low _ k hk).trans (er1_at F hh _ (by omega))
  have HN : Hid (∀ i, -8 ≤ noiseF (F 100) 8 i ∧ noiseF (F 100) 8 i ≤ 8) := fun i => noise_8 _ i
  have C3 := Lib.hid c3
  have C4 := Lib.hid c4
  have G1 := Lib.hid g1
  have G2 := Lib.hid g2
  have G3 := Lib.hid g3
  clear c1 c2 c3 c4 g1 g2 g3 hG hX
  go_enter Try.func4, Try.ntmps4
  go_wp2_with (first | ((refine wpList_on (o := ⟨_, .box _ (.tmp 0), _, _, _, _⟩) rfl (fun K hK => ?_)); refine wp_box H _ (.tmp 0) rfl (v := .agg (memA _ _)) rfl ?_; clear H; intro u gm H; refine hK _ _ ?_; clear hK K; try simp only [Value.cells, List.cons_append, List.nil_append] at H) | ((refine wpList_on (o := ⟨_, .load 25 _, _, _, _, _⟩) rfl (fun K hK => ?_)); refine wp_load_all H 25 _ rfl rfl (by repeat (first | exact List.mem_cons_self | apply List.mem_cons_of_mem | apply List.mem_append_right)) (by rw [memA_size]; kernel_rfl) ?_; refine hK _ _ ?_; clear hK K) | (go_at_call 5; (with_reducible refine (C1.out _).mono ?_); rintro e w1 ⟨rfl, hb⟩; replace H := H.callee hb; clear hb) | ((refine wpList_on (o := ⟨_, .store 25 _ _, _, _, _, _⟩) rfl (fun K hK => ?_)); refine wp_store_all (l1 := []) H 25 _ _ rfl rfl rfl (by rw [memA_size]; kernel_rfl) (by rw [memA_size, memA_size]) (memA_one _ _) ?_; clear H; intro u H; refine hK _ _ ?_; clear hK K; try simp only [Value.cells, List.cons_append, List.nil_append] at H) | (go_at_call 6; (with_reducible refine (C2.out _).mono ?_); rintro e w1 ⟨rfl, rfl⟩) | (go_at_call 7; (with_reducible refine (C3.out _).mono ?_); rintro e w1 ⟨gx, rfl, hb⟩; replace H := H.join hb; clear hb; (try simp only [List.cons_append, List.nil_append] at H)) | (go_at_call 10; (with_reducible refine (C4.out _).mono ?_); rintro e w1 ⟨gk, rfl, hb⟩; replace H := H.join hb; clear hb; (try simp only [List.cons_append, List.nil_append] at H)) | (refine wpList_on (o := ⟨some 5, .alloc 25, _, _, _, _⟩) rfl (fun K hK => ?_); refine wp_alloc H 25 rfl (z := (.agg (memA (fun _ => 0) false))) (by kernel_rfl) ?_; clear H; intro u gn H; refine hK _ _ ?_; clear hK K; try simp only [Value.cells, List.cons_append, List.nil_append] at H) | (refine wpList_on (o := ⟨some 8, .alloc 25, _, _, _, _⟩) rfl (fun K hK => ?_); refine wp_alloc H 25 rfl (z := (.agg (memA (fun _ => 0) false))) (by kernel_rfl) ?_; clear H; intro u gq H; refine hK _ _ ?_; clear hK K; try simp only [Value.cells, List.cons_append, List.nil_append] at H))
  clear C1 C2 C3 C4
  generalize er2 (er1 F hh) = N at *
  generalize erE (er1 F hh) = X at *
  generalize noiseF (F 100) 8 = Z at *
  generalize si2 F = S2 at *
  go_loopw [11] (fun c wr => ∃ k : Nat, k ≤ 40 ∧ c = .int .i64 k ∧ Has w wr [(gq, 25, memA S2 s), (gk, 3, row 40 Z), (gn, 25, memA N s), (gx, 3, row 40 X), (gm, 25, memA F s)]) (fun c _ => 40 - (intOf c).toNat)
  case atStart => exact ⟨0, by omega, rfl, H⟩
  clear H
  case round =>
    obtain ⟨k, hk, rfl, H⟩ := hrel
    by_cases hlt : k < 40
    · have a1 := HA.out k hlt
      have a2 := HB.out k hlt
      obtain ⟨x1, x2⟩ := HI.out k
      have d1 := lt_no x1
      have d2 := lt_no x2
      have q1 : (k : Int) < 40 := by omega
      have q2 : (40 : Int) + k < 80 := by omega
      have s1 : IntKind.i64.wrap (40 + (k : Int)) = 40 + k := IntWalk.i64_in _ (by omega)
      have s2 : (40 + (k : Int)).toNat = 40 + k := by omega
      have s3 : (0 : Int) ≤ 40 + k := by omega
      have q3 : 40 + k < 80 := by omega
      have q4 : k < 80 := by omega
      have q5 : (k : Int) < 80 := by omega
      go_wp2_with fail
      refine wp_region_text [] (by kernel_rfl) (by kernel_rfl) (by kernel_rfl) ?_; replace H := H.drew; generalize World.drew _ = u at *
      repeat (first | (refine ones_load_one (o := ⟨_, .load 3 _, _, _, _, _⟩) H 3 _ rfl rfl rfl rfl (by repeat (first | exact List.mem_cons_self | apply List.mem_cons_of_mem | apply List.mem_append_right)) (by kernel_rfl) (row_get _ (by omega)) ?_; simp only [Act.put, List.setIfInBounds_toArray, List.set_cons_zero, List.set_cons_succ]) | (refine ones_load_one (o := ⟨_, .load 3 _, _, _, _, _⟩) H 3 _ rfl rfl rfl rfl (by repeat (first | exact List.mem_cons_self | apply List.mem_cons_of_mem | apply List.mem_append_right)) (by kernel_rfl) (memA_get _ _ (by omega)) ?_; simp only [Act.put, List.setIfInBounds_toArray, List.set_cons_zero, List.set_cons_succ]) | (refine ones_free (v := ?_) rfl rfl ?_ ?_; rotate_left; (intro w'; go_simp; try with_reducible rfl); simp only [Act.put, List.setIfInBounds_toArray, List.set_cons_zero, List.set_cons_succ]))
      refine ones_nil ?_
      go_wp2
      go_roundw
      case rel => exact ⟨k + 1, by omega, by go_num, H⟩
      case measure => simp [intOf]; omega
    · obtain rfl : k = 40 := by omega
      clear HA HB HI
      go_wp2
      simp only [show ((40 : Nat) : Int) = 40 from rfl]
      go_loopw [12] (fun c wr => ∃ k : Nat, k ≤ 40 ∧ c = .int .i64 k ∧ Has w wr [(gq, 25, memA S2 s), (gk, 3, row 40 Z), (gn, 25, memA N s), (gx, 3, row 40 X), (gm, 25, memA F s)]) (fun c _ => 40 - (intOf c).toNat)
      case atStart => exact ⟨0, by omega, rfl, H⟩
      clear H
      case round =>
        obtain ⟨k, hk, rfl, H⟩ := hrel
        by_cases hlt : k < 40
        · obtain ⟨x1, x2⟩ := HN.out k
          have d1 := lt_no x1
          have d2 := lt_no x2
          have q1 : (k : Int) < 40 := by omega
          go_wp2_with ((refine wpList_on (o := ⟨_, .load 3 _, _, _, _, _⟩) rfl (fun K hK => ?_)); refine wp_load_one H 3 _ rfl rfl (by repeat (first | exact List.mem_cons_self | apply List.mem_cons_of_mem | apply List.mem_append_right)) (by kernel_rfl) (row_get _ (by omega)) ?_; refine hK _ _ ?_; clear hK K)
          go_roundw
          case rel => exact ⟨k + 1, by omega, by go_num, H⟩
          case measure => simp [intOf]; omega
        · obtain rfl : k = 40 := by omega
          go_wp2_with (first | ((refine wpList_on (o := ⟨_, .load 25 _, _, _, _, _⟩) rfl (fun K hK => ?_)); refine wp_load_all H 25 _ rfl rfl (by repeat (first | exact List.mem_cons_self | apply List.mem_cons_of_mem | apply List.mem_append_right)) (by rw [memA_size]; kernel_rfl) ?_; refine hK _ _ ?_; clear hK K) | (go_at_call 8; (with_reducible refine (lost_any _).mono ?_); rintro e w1 ⟨rfl, hb⟩; replace H := H.callee hb; clear hb) | (go_at_call 11; (with_reducible refine (G1.out _).mono ?_); rintro e w1 ⟨rfl, hb⟩; replace H := H.callee hb; clear hb) | (go_at_call 11; (with_reducible refine (G2.out _).mono ?_); rintro e w1 ⟨rfl, hb⟩; replace H := H.callee hb; clear hb) | (go_at_call 11; (with_reducible refine (G3.out _).mono ?_); rintro e w1 ⟨rfl, hb⟩; replace H := H.callee hb; clear hb))
          go_ret
          exact ⟨rfl, H.below⟩
theorem erasedGoods_walk (f : Nat → Int) (s : Bool) (half : Int) (w : World) : Calls Try.prog 4 #[.agg (memA f s), .int .i64 half] w fun e w' => e = .returned (.bool true) ∧ Below w.heap.size w w' :=
  erasedGoods_in f (memI f) s half (half % 2) w (memI_good f) (by omega) (fun w => memory_any f s w) (fun w => spot_any _ 2 w (by omega) (by omega))
end Go.Proofs.Ythddmgnjahmceaa
