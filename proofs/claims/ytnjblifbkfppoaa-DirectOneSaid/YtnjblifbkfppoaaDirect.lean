import Derived.Test.YtnjblifbkfppoaaHas
namespace Go.Proofs.Ytnjblifbkfppoaa
open Go.RowKit

/-- The predictor of m reflections, in 24 bits. -/
def dirM (k : Nat → Int) : Nat → Nat → Int
  | 0, i => if i = 0 then 16777216 else 0
  | m + 1, i => if 1 ≤ i ∧ i ≤ m + 1 then dirM k m i + (k m * dirM k m (m + 1 - i)) / 32768 else dirM k m i
theorem dirM_succ (k : Nat → Int) (m i : Nat) : dirM k (m + 1) i = if 1 ≤ i ∧ i ≤ m + 1 then dirM k m i + (k m * dirM k m (m + 1 - i)) / 32768 else dirM k m i := rfl
def dirC : Nat → Nat → Int
  | 0, i => if i = 0 then 1 else 0
  | m + 1, i => if 1 ≤ i ∧ i ≤ m + 1 then dirC m i + dirC m (m + 1 - i) else dirC m i
theorem dirC_bd : ∀ m, m < 9 → ∀ i, i < 9 → 0 ≤ dirC m i ∧ dirC m i ≤ 70 := by decide
theorem part_bd (q x X : Int) (h1 : -32768 < q) (h2 : q < 32768) (h3 : -X ≤ x) (h4 : x ≤ X) : -X ≤ (q * x) / 32768 ∧ (q * x) / 32768 ≤ X := by
  have := mul_bd q x 32767 X (by omega) (by omega) h3 h4
  omega
theorem dirM_bd (k : Nat → Int) (hk : ∀ i, i < 8 → -32768 < k i ∧ k i < 32768) : ∀ m, m ≤ 8 → ∀ i, -(dirC m i * 16777216) ≤ dirM k m i ∧ dirM k m i ≤ dirC m i * 16777216
  | 0, _, i => by unfold dirM dirC; split <;> omega
  | m + 1, hm, i => by
    have ih := dirM_bd k hk m (by omega)
    have h1 := ih i
    have h2 := ih (m + 1 - i)
    have hp := part_bd (k m) _ _ (hk m (by omega)).1 (hk m (by omega)).2 h2.1 h2.2
    unfold dirM dirC
    split <;> omega
theorem dirM_70 (k : Nat → Int) (hk : ∀ i, i < 8 → -32768 < k i ∧ k i < 32768) {m i : Nat} (hm : m ≤ 8) (hi : i < 9) : -1174405120 ≤ dirM k m i ∧ dirM k m i ≤ 1174405120 := by
  have h1 := dirM_bd k hk m hm i
  have h2 := dirC_bd m (by omega) i hi
  omega
def dirIn (k : Nat → Int) (m i : Nat) : Nat → Int := fun j => if 1 ≤ j ∧ j < i then dirM k (m + 1) j else dirM k m j
theorem dirIn_step (k : Nat → Int) (m i : Nat) (h1 : 1 ≤ i) (h2 : i ≤ m + 1) : (fun j => if j = i then dirM k m i + k m * dirM k m (m + 1 - i) / 32768 else dirIn k m i j) = dirIn k m (i + 1) := by
  funext j
  unfold dirIn
  by_cases e : j = i
  · subst e
    have : 1 ≤ j ∧ j < j + 1 := by omega
    have h3 : 1 ≤ j ∧ j ≤ m + 1 := by omega
    rw [if_pos rfl, if_pos this, dirM_succ, if_pos h3]
  · have : (1 ≤ j ∧ j < i + 1) ↔ (1 ≤ j ∧ j < i) := by omega
    simp only [e, this, if_false]
theorem dirIn_one (k : Nat → Int) (m : Nat) : dirIn k m 1 = dirM k m := by
  funext j
  unfold dirIn
  rw [if_neg (by omega)]
theorem dirIn_all (k : Nat → Int) (m : Nat) : dirIn k m (m + 2) = dirM k (m + 1) := by
  funext j
  unfold dirIn
  split
  · rfl
  · rename_i h
    rw [dirM_succ, if_neg (by omega)]
def dirOut (k : Nat → Int) : Nat → Int := fun i => (dirM k 8 i + 2048) / 4096
def dirTo (k : Nat → Int) (n : Nat) : Nat → Int := fun i => if i < n then dirOut k i else dirM k 8 i
theorem dirTo_step (k : Nat → Int) (n : Nat) : (fun j => if j = n then (dirM k 8 n + 2048) / 4096 else dirTo k n j) = dirTo k (n + 1) := by
  funext j
  unfold dirTo
  by_cases e : j = n
  · subst e; simp [dirOut]
  · have : j < n + 1 ↔ j < n := by omega
    simp [e, this]
theorem dirTo_all (k : Nat → Int) : row 9 (dirTo k 9) = row 9 (dirOut k) := row_congr fun i hi => by simp [dirTo, hi]
theorem dirTo_zero (k : Nat → Int) : dirTo k 0 = dirM k 8 := by funext i; simp [dirTo]

set_option maxRecDepth 100000 in
set_option maxHeartbeats 800000 in
theorem direct_any (k : Nat → Int) (w : World) (hk : ∀ i, i < 8 → -32768 < k i ∧ k i < 32768) :
    Calls Try.prog 11 #[.agg (row 8 k)] w fun e w' => e = .returned (.tuple #[.agg (row 9 (dirOut k)), .int .i64 0]) ∧ Below w.heap.size w w' := by
  have HK := Lib.hid hk
  clear hk
  have H := Has.start w
  go_enter Try.func11, Try.ntmps11
  go_wp2_with (first | ((refine wpList_on (o := ⟨_, .box _ (.tmp 0), _, _, _, _⟩) rfl (fun K hK => ?_)); refine wp_box H _ (.tmp 0) rfl (v := .agg _) rfl ?_; clear H; intro u gk H; refine hK _ _ ?_; clear hK K; try simp only [Value.cells, List.cons_append, List.nil_append] at H) | (refine wpList_on (o := ⟨some 2, .alloc 28, _, _, _, _⟩) rfl (fun K hK => ?_); refine wp_alloc H 28 rfl (z := (.agg (row 9 fun _ => 0))) (by kernel_rfl) ?_; clear H; intro u gr H; refine hK _ _ ?_; clear hK K; try simp only [Value.cells, List.cons_append, List.nil_append] at H) | (refine wpList_on (o := ⟨some 4, .alloc 28, _, _, _, _⟩) rfl (fun K hK => ?_); refine wp_alloc H 28 rfl (z := (.agg (row 9 fun _ => 0))) (by kernel_rfl) ?_; clear H; intro u ga H; refine hK _ _ ?_; clear hK K; try simp only [Value.cells, List.cons_append, List.nil_append] at H) | ((refine wpList_on (o := ⟨_, .load 22 _, _, _, _, _⟩) rfl (fun K hK => ?_)); refine wp_load_all H 22 _ rfl rfl (by repeat (first | exact List.mem_cons_self | apply List.mem_cons_of_mem)) (by kernel_rfl) ?_; refine hK _ _ ?_; clear hK K) | (refine wpList_on (o := ⟨_, .store 28 (.tmp 4) (.tmp 12), _, _, _, _⟩) rfl (fun K hK => ?_); refine wp_store_all (l1 := []) H 28 _ _ rfl (cs' := row 9 (dirM k 0)) rfl rfl (by kernel_rfl) (by simp [row_size]) (row_one _ _) ?_; clear H; intro u H; refine hK _ _ ?_; clear hK K; simp only [List.nil_append] at H))
  go_loop [14] (fun i => ∃ j : Nat, j ≤ 8 ∧ i = .int .i64 j) (fun i => 8 - (intOf i).toNat)
  case atStart => exact ⟨0, by omega, rfl⟩
  case round =>
    obtain ⟨j, hj, rfl⟩ := hrel
    by_cases hlt : j < 8
    · obtain ⟨b1, b2⟩ := HK.out j hlt
      have d1 := le_no b1
      have d2 := le_no b2
      have hix := fun w => run_index_row (P := Try.prog) (n := 8) (i := j) Try.underlying22 Try.underlying3 (by kernel_rfl) (by kernel_rfl) k hlt w
      go_wp2
      go_round
      case rel => exact ⟨j + 1, by omega, by go_num⟩
      case measure => simp [intOf]; omega
    · obtain rfl : j = 8 := by omega
      go_wp2_with ((refine wpList_on (o := ⟨_, .load 22 _, _, _, _, _⟩) rfl (fun K hK => ?_)); refine wp_load_all H 22 _ rfl rfl (by repeat (first | exact List.mem_cons_self | apply List.mem_cons_of_mem)) (by kernel_rfl) ?_; refine hK _ _ ?_; clear hK K)
      go_loopw [26] (fun c wr => ∃ m : Nat, m ≤ 8 ∧ c = .int .i64 m ∧ Has w wr [(ga, 28, row 9 (dirM k m)), (gr, 28, row 9 fun _ => 0)]) (fun c _ => 8 - (intOf c).toNat)
      case atStart => exact ⟨0, by omega, rfl, (H.sub (by repeat (first | exact List.Sublist.refl _ | exact List.nil_sublist _ | apply List.Sublist.cons_cons | apply List.Sublist.cons)))⟩
      clear H
      case round =>
        obtain ⟨m, hm, rfl, H⟩ := hrel
        by_cases hlm : m < 8
        · have hix := fun w => run_index_row (P := Try.prog) (n := 8) (i := m) Try.underlying22 Try.underlying3 (by kernel_rfl) (by kernel_rfl) k hlm w
          have HD : Hid (∀ i, i < 9 → -1174405120 ≤ dirM k m i ∧ dirM k m i ≤ 1174405120) := fun i hi => dirM_70 k HK.out hm hi
          obtain ⟨bk1, bk2⟩ := HK.out m hlm
          go_wp2_with (first | ((refine wpList_on (o := ⟨_, .load 28 _, _, _, _, _⟩) rfl (fun K hK => ?_)); refine wp_load_all H 28 _ rfl rfl (by repeat (first | exact List.mem_cons_self | apply List.mem_cons_of_mem)) (by kernel_rfl) ?_; refine hK _ _ ?_; clear hK K) | (refine wpList_on (o := ⟨some 9, .alloc 28, _, _, _, _⟩) rfl (fun K hK => ?_); refine wp_alloc H 28 rfl (z := (.agg (row 9 fun _ => 0))) (by kernel_rfl) ?_; clear H; intro u gw H; refine hK _ _ ?_; clear hK K; try simp only [Value.cells, List.cons_append, List.nil_append] at H) | ((refine wpList_on (o := ⟨_, .store 28 _ _, _, _, _, _⟩) rfl (fun K hK => ?_)); refine wp_store_all (l1 := []) H 28 _ _ rfl rfl rfl (by kernel_rfl) (by simp [row_size]) (row_one _ _) ?_; clear H; intro u H; refine hK _ _ ?_; clear hK K; try simp only [Value.cells, List.cons_append, List.nil_append] at H))
          clear hix
          go_loopw [10] (fun c wr => ∃ i : Nat, 1 ≤ i ∧ i ≤ m + 2 ∧ c = .int .i64 i ∧ Has w wr [(gw, 28, row 9 (dirM k m)), (ga, 28, row 9 (dirIn k m i)), (gr, 28, row 9 fun _ => 0)]) (fun c _ => m + 2 - (intOf c).toNat)
          case atStart => exact ⟨1, by omega, by omega, rfl, by rw [dirIn_one]; exact H⟩
          clear H
          case round =>
            obtain ⟨i, hi1, hi2, rfl, H⟩ := hrel
            by_cases hli : i ≤ m + 1
            · obtain ⟨x1, x2⟩ := HD.out i (by omega)
              obtain ⟨y1, y2⟩ := HD.out (m + 1 - i) (by omega)
              obtain ⟨z1, z2⟩ := mul_bd (k m) (dirM k m (m + 1 - i)) 32768 1174405120 (by omega) (by omega) y1 y2
              have wz : IntKind.i64.wrap (k m * dirM k m (m + 1 - i)) = k m * dirM k m (m + 1 - i) := IntWalk.i64_in _ (by omega)
              have wy : IntKind.i64.wrap (dirM k m i + k m * dirM k m (m + 1 - i) / 32768) = dirM k m i + k m * dirM k m (m + 1 - i) / 32768 := IntWalk.i64_in _ (by omega)
              have s1 : IntKind.i64.wrap ((m : Int) + 1) = (m : Int) + 1 := IntWalk.i64_in _ (by omega)
              have s2 : IntKind.i64.wrap ((m : Int) + 1 - i) = (m : Int) + 1 - i := IntWalk.i64_in _ (by omega)
              have s3 : ((m : Int) + 1 - i).toNat = m + 1 - i := by omega
              have s4 : (0 : Int) ≤ (m : Int) + 1 - i := by omega
              have s5 : (m : Int) + 1 - i < 9 := by omega
              have s6 : (i : Int) < 9 := by omega
              have s7 : (0 : Int) ≤ (i : Int) := by omega
              go_wp2_with fail
              refine wp_region_text [] (by kernel_rfl) (by kernel_rfl) (by kernel_rfl) ?_; replace H := H.drew; generalize World.drew _ = u at *
              repeat (first | (refine ones_load_one (o := ⟨_, .load 3 _, _, _, _, _⟩) H 3 _ rfl rfl rfl rfl (by repeat (first | exact List.mem_cons_self | apply List.mem_cons_of_mem)) (by kernel_rfl) (row_get _ (by omega)) ?_; simp only [Act.put, List.setIfInBounds_toArray, List.set_cons_zero, List.set_cons_succ]) | (refine ones_free (v := ?_) rfl rfl ?_ ?_; rotate_left; (intro w'; go_simp; try with_reducible rfl); simp only [Act.put, List.setIfInBounds_toArray, List.set_cons_zero, List.set_cons_succ]) | (refine ones_eff (o := ⟨_, .store 3 _ _, _, _, _, _⟩) rfl rfl (fun K hK => ?_); refine wp_store_row_ (l1 := [_]) H 3 _ _ rfl rfl rfl (by kernel_rfl) (by omega) ?_; clear H; intro u H; refine hK _ _ ?_; clear hK K; simp only [Act.put, List.setIfInBounds_toArray, List.set_cons_zero, List.set_cons_succ]; try simp only [Value.cells, List.cons_append, List.nil_append] at H))
              refine ones_nil ?_
              rw [dirIn_step k m i hi1 hli] at H
              go_wp2
              go_roundw
              case rel => exact ⟨i + 1, by omega, by omega, by go_num, H⟩
              case measure => simp [intOf]; omega
            · obtain rfl : i = m + 2 := by omega
              rw [dirIn_all] at H
              go_wp2
              go_roundw
              case rel => exact ⟨m + 1, by omega, by go_num, H.tail⟩
              case measure => simp [intOf]; omega
        · obtain rfl : m = 8 := by omega
          go_wp2_with fail
          simp only [show ((8 : Nat) : Int) = 8 from rfl]
          go_loopw [53] (fun c wr => ∃ i : Nat, i ≤ 9 ∧ c = .int .i64 i ∧ Has w wr [(ga, 28, row 9 (dirTo k i)), (gr, 28, row 9 fun _ => 0)]) (fun c _ => 9 - (intOf c).toNat)
          case atStart => exact ⟨0, by omega, rfl, by rw [dirTo_zero]; exact H⟩
          clear H
          case round =>
            obtain ⟨i, hi, rfl, H⟩ := hrel
            by_cases hli : i < 9
            · obtain ⟨x1, x2⟩ := dirM_70 k HK.out (m := 8) (by omega) hli
              have ea : dirTo k i i = dirM k 8 i := by simp [dirTo]
              go_wp2_with (first | ((refine wpList_on (o := ⟨_, .load 3 _, _, _, _, _⟩) rfl (fun K hK => ?_)); refine wp_load_one H 3 _ rfl rfl (by repeat (first | exact List.mem_cons_self | apply List.mem_cons_of_mem)) (by kernel_rfl) (row_get _ (by omega)) ?_; refine hK _ _ ?_; clear hK K) | ((refine wpList_on (o := ⟨_, .store 3 _ _, _, _, _, _⟩) rfl (fun K hK => ?_)); refine wp_store_row_ (l1 := []) H 3 _ _ rfl rfl rfl (by kernel_rfl) (by omega) ?_; clear H; intro u H; refine hK _ _ ?_; clear hK K; try simp only [Value.cells, List.cons_append, List.nil_append] at H))
              go_roundw
              case rel =>
                refine ⟨i + 1, by omega, by go_num, ?_⟩
                rw [dirTo_step] at H
                exact H
              case measure => simp [intOf]; omega
            · obtain rfl : i = 9 := by omega
              rw [dirTo_all] at H
              go_wp2_with (first | ((refine wpList_on (o := ⟨_, .load 28 _, _, _, _, _⟩) rfl (fun K hK => ?_)); refine wp_load_all H 28 _ rfl rfl (by repeat (first | exact List.mem_cons_self | apply List.mem_cons_of_mem)) (by kernel_rfl) ?_; refine hK _ _ ?_; clear hK K) | ((refine wpList_on (o := ⟨_, .store 28 _ _, _, _, _, _⟩) rfl (fun K hK => ?_)); refine wp_store_all (l1 := [_]) H 28 _ _ rfl rfl rfl (by kernel_rfl) (by simp [row_size]) (row_one _ _) ?_; clear H; intro u H; refine hK _ _ ?_; clear hK K; try simp only [Value.cells, List.cons_append, List.nil_append] at H))
              refine bodyPost_ret (results_has rfl _ H rfl (by repeat (first | exact List.mem_cons_self | apply List.mem_cons_of_mem)) (by kernel_rfl)) rfl ⟨rfl, H.below⟩
end Go.Proofs.Ytnjblifbkfppoaa
