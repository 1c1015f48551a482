/-
  Several texts of this claim, one behind the other: Levinson, EncWalk, Cube. No statement is proved here.
-/
import Derived.Test.YtcoicmbjoaonoaaDoorZac
import Derived.Test.YtcoicmbjoaonoaaDoorZat
import Derived.WalkKit
import Derived.Lib.Mul64
import Derived.Laws.Bits64b
import Derived.Laws.Externs
namespace Go.Proofs.YtcoicmbjoaonoaaDoor
set_option linter.unusedVariables false
set_option linter.unusedSimpArgs false
open Go.RowKit
set_option maxRecDepth 100000

/-- Sums of which only the first is not nought. -/
def LevU (r : Nat → Int) : Prop := r 0 = 1073741824 ∧ ∀ i, 1 ≤ i → i < 9 → r i = 0
def LevPost (r : Nat → Int) (w : World) (e : Ending) (w' : World) : Prop :=
  ∃ (k : Nat → Int) (x : Int) (ok : Bool), e = .returned (.tuple #[.agg (row 8 k), .int .i64 x, .bool ok]) ∧ (∀ i, i < 8 → -32000 < k i ∧ k i < 32000) ∧ (ok = true → 0 < x ∧ x ≤ r 0) ∧ (LevU r → ok = true) ∧ Below w.heap.size w w'
def unitRow : Nat → Int := fun i => if i = 0 then 16777216 else 0
theorem lev_part (e q : Int) (h0 : 0 < e) (h1 : e ≤ 2147483647) (h2 : -32000 < q) (h3 : q < 32000) :
    (-100000000000000 ≤ e * q ∧ e * q ≤ 100000000000000) ∧ (-100000000000000 ≤ (e * q / 32768) * q ∧ (e * q / 32768) * q ≤ 100000000000000) ∧ 0 ≤ (e * q / 32768) * q / 32768 := by
  have m1 := mul_bd e q 2147483647 32000 (by omega) h1 (by omega) (by omega)
  have m2 := mul_bd (e * q / 32768) q 2097152000 32000 (by omega) (by omega) (by omega) (by omega)
  refine ⟨by omega, by omega, ?_⟩
  have : 0 ≤ (e * q / 32768) * q := by
    by_cases hq : 0 ≤ q
    · have hp : 0 ≤ e * q := Int.mul_nonneg (by omega) hq
      exact Int.mul_nonneg (by omega) hq
    · have hp : e * q ≤ 0 := Int.mul_nonpos_of_nonneg_of_nonpos (by omega) (by omega)
      have : e * q / 32768 ≤ 0 := by omega
      have := Int.mul_nonneg (show 0 ≤ -(e * q / 32768) by omega) (show 0 ≤ -q by omega)
      rw [Int.neg_mul_neg] at this
      exact this
  omega

theorem lev_q0 (e : Int) : wrap64 ((wrap64 (wrap64 (-0) * 32768)).tdiv e) = 0 := by
  have h0 : wrap64 0 = 0 := by unfold wrap64; rfl
  simp [h0]

set_option maxRecDepth 100000 in
set_option maxHeartbeats 1600000 in
theorem levinson_any (r : Nat → Int) (w : World) : Calls Tryd.prog 35 #[.agg (row 9 r)] w (LevPost r w) := by
  have H := Has.start w
  go_enter Tryd.func35, Tryd.ntmps35
  go_wp2_with (first | ((refine wpList_on (o := ⟨_, .box _ (.tmp 0), _, _, _, _⟩) rfl (fun K hK => ?_)); (try simp only [Act.put, List.setIfInBounds_toArray, List.set_cons_zero, List.set_cons_succ]); refine wp_box H _ (.tmp 0) rfl (v := .agg _) rfl ?_; clear H; intro u g1 H; refine hK _ _ ?_; clear hK K; try simp only [Value.cells, List.cons_append, List.nil_append] at H) | (refine wpList_on (o := ⟨some 2, .alloc 26, _, _, _, _⟩) rfl (fun K hK => ?_); refine wp_alloc H 26 rfl (z := (.agg (row 8 fun _ => 0))) (by kernel_rfl) ?_; clear H; intro u gr H; refine hK _ _ ?_; clear hK K; try simp only [Value.cells, List.cons_append, List.nil_append] at H) | (refine wpList_on (o := ⟨some 5, .alloc 26, _, _, _, _⟩) rfl (fun K hK => ?_); refine wp_alloc H 26 rfl (z := (.agg (row 8 fun _ => 0))) (by kernel_rfl) ?_; clear H; intro u gk H; refine hK _ _ ?_; clear hK K; try simp only [Value.cells, List.cons_append, List.nil_append] at H) | (refine wpList_on (o := ⟨some 6, .alloc 77, _, _, _, _⟩) rfl (fun K hK => ?_); refine wp_alloc H 77 rfl (z := (.agg (row 9 fun _ => 0))) (by kernel_rfl) ?_; clear H; intro u ga H; refine hK _ _ ?_; clear hK K; try simp only [Value.cells, List.cons_append, List.nil_append] at H) | ((refine wpList_on (o := ⟨_, .load 77 _, _, _, _, _⟩) rfl (fun K hK => ?_)); (try simp only [Act.put, List.setIfInBounds_toArray, List.set_cons_zero, List.set_cons_succ]); refine wp_load_all H 77 _ rfl rfl (by repeat (first | exact List.mem_cons_self | apply List.mem_cons_of_mem | apply List.mem_append_right)) (by kernel_rfl) ?_; refine hK _ _ ?_; clear hK K) | ((refine wpList_on (o := ⟨_, .load 3 _, _, _, _, _⟩) rfl (fun K hK => ?_)); (try simp only [Act.put, List.setIfInBounds_toArray, List.set_cons_zero, List.set_cons_succ]); refine wp_load_one H 3 _ rfl rfl (by repeat (first | exact List.mem_cons_self | apply List.mem_cons_of_mem | apply List.mem_append_right)) (by kernel_rfl) (row_get _ (by omega)) ?_; refine hK _ _ ?_; clear hK K) | (refine wpList_on (o := ⟨_, .store 77 (.tmp 6) (.tmp 16), _, _, _, _⟩) rfl (fun K hK => ?_); refine wp_store_all (l1 := []) H 77 _ _ rfl (cs' := row 9 unitRow) rfl rfl (by kernel_rfl) (by simp [row_size]) (row_one _ _) ?_; clear H; intro u H; refine hK _ _ ?_; clear hK K; simp only [List.nil_append] at H))
  go_loop [20] (fun c => ∃ j : Nat, j ≤ 9 ∧ c = .int .i64 j ∧ Hid (∀ i, i < j → -2147483647 ≤ r i ∧ r i ≤ 2147483647)) (fun c => 9 - (intOf c).toNat)
  case atStart => exact ⟨0, by omega, rfl, fun i hi => by omega⟩
  case round =>
    obtain ⟨j, hj, rfl, HR⟩ := hrel
    by_cases hlt : j < 9
    · have hix := fun w => run_index_row (P := Tryd.prog) (n := 9) (i := j) Tryd.underlying77 Tryd.underlying3 (by kernel_rfl) (by kernel_rfl) r hlt w
      by_cases hb : -2147483647 ≤ r j ∧ r j ≤ 2147483647
      · obtain ⟨b1, b2⟩ := hb
        have d1 := lt_no b1
        have d2 := lt_no b2
        go_wp2
        go_round
        case rel => exact ⟨j + 1, by omega, by go_num, fun i hi => by
          by_cases e : i = j
          · subst e; exact ⟨b1, b2⟩
          · exact HR.out i (by omega)⟩
        case measure => simp [intOf]; omega
      · have hnu : ¬ LevU r := fun hu => by
          by_cases e : j = 0
          · subst e; have := hu.1; omega
          · have := hu.2 j (by omega) hlt; omega
        by_cases hb2 : 2147483647 < r j
        · have d1 := lt_yes hb2
          go_wp2_with (first | ((refine wpList_on (o := ⟨_, .load 26 _, _, _, _, _⟩) rfl (fun K hK => ?_)); (try simp only [Act.put, List.setIfInBounds_toArray, List.set_cons_zero, List.set_cons_succ]); refine wp_load_all H 26 _ rfl rfl (by repeat (first | exact List.mem_cons_self | apply List.mem_cons_of_mem | apply List.mem_append_right)) (by kernel_rfl) ?_; refine hK _ _ ?_; clear hK K) | ((refine wpList_on (o := ⟨_, .store 26 _ _, _, _, _, _⟩) rfl (fun K hK => ?_)); (try simp only [Act.put, List.setIfInBounds_toArray, List.set_cons_zero, List.set_cons_succ]); refine wp_store_all (l1 := [_, _]) H 26 _ _ rfl rfl rfl (by kernel_rfl) (by simp [row_size]) (row_one _ _) ?_; clear H; intro u H; refine hK _ _ ?_; clear hK K; try simp only [Value.cells, List.cons_append, List.nil_append] at H))
          refine bodyPost_ret (results_has3 rfl _ H rfl (by repeat (first | exact List.mem_cons_self | apply List.mem_cons_of_mem | apply List.mem_append_right)) (by kernel_rfl)) rfl ⟨_, _, _, rfl, fun i _ => by omega, fun h => by simp at h, fun hu => absurd hu hnu, H.below⟩
        · have d1 := lt_no (show r j ≤ 2147483647 by omega)
          have d2 := lt_yes (show r j < -2147483647 by omega)
          go_wp2_with (first | ((refine wpList_on (o := ⟨_, .load 26 _, _, _, _, _⟩) rfl (fun K hK => ?_)); (try simp only [Act.put, List.setIfInBounds_toArray, List.set_cons_zero, List.set_cons_succ]); refine wp_load_all H 26 _ rfl rfl (by repeat (first | exact List.mem_cons_self | apply List.mem_cons_of_mem | apply List.mem_append_right)) (by kernel_rfl) ?_; refine hK _ _ ?_; clear hK K) | ((refine wpList_on (o := ⟨_, .store 26 _ _, _, _, _, _⟩) rfl (fun K hK => ?_)); (try simp only [Act.put, List.setIfInBounds_toArray, List.set_cons_zero, List.set_cons_succ]); refine wp_store_all (l1 := [_, _]) H 26 _ _ rfl rfl rfl (by kernel_rfl) (by simp [row_size]) (row_one _ _) ?_; clear H; intro u H; refine hK _ _ ?_; clear hK K; try simp only [Value.cells, List.cons_append, List.nil_append] at H))
          refine bodyPost_ret (results_has3 rfl _ H rfl (by repeat (first | exact List.mem_cons_self | apply List.mem_cons_of_mem | apply List.mem_append_right)) (by kernel_rfl)) rfl ⟨_, _, _, rfl, fun i _ => by omega, fun h => by simp at h, fun hu => absurd hu hnu, H.below⟩
    · obtain rfl : j = 9 := by omega
      obtain ⟨r1, r2⟩ := HR.out 0 (by omega)
      by_cases he : r 0 ≤ 0
      · have d1 := le_yes he
        go_wp2_with (first | ((refine wpList_on (o := ⟨_, .load 26 _, _, _, _, _⟩) rfl (fun K hK => ?_)); (try simp only [Act.put, List.setIfInBounds_toArray, List.set_cons_zero, List.set_cons_succ]); refine wp_load_all H 26 _ rfl rfl (by repeat (first | exact List.mem_cons_self | apply List.mem_cons_of_mem | apply List.mem_append_right)) (by kernel_rfl) ?_; refine hK _ _ ?_; clear hK K) | ((refine wpList_on (o := ⟨_, .store 26 _ _, _, _, _, _⟩) rfl (fun K hK => ?_)); (try simp only [Act.put, List.setIfInBounds_toArray, List.set_cons_zero, List.set_cons_succ]); refine wp_store_all (l1 := [_, _]) H 26 _ _ rfl rfl rfl (by kernel_rfl) (by simp [row_size]) (row_one _ _) ?_; clear H; intro u H; refine hK _ _ ?_; clear hK K; try simp only [Value.cells, List.cons_append, List.nil_append] at H))
        refine bodyPost_ret (results_has3 rfl _ H rfl (by repeat (first | exact List.mem_cons_self | apply List.mem_cons_of_mem | apply List.mem_append_right)) (by kernel_rfl)) rfl ⟨_, _, _, rfl, fun i _ => by omega, fun h => by simp at h, fun hu => absurd hu.1 (by omega), H.below⟩
      · have d1 := le_no (show 0 < r 0 by omega)
        go_wp2_with fail
        try simp only [show ((9 : Nat) : Int) = 9 from rfl]
        have he1 : 0 < r 0 := by omega
        clear HR he d1
        go_loopw [7, 10] (fun x c wr => ∃ (m : Nat) (e : Int) (k a : Nat → Int), 1 ≤ m ∧ m ≤ 9 ∧ c = .int .i64 m ∧ x = .int .i64 e ∧ 0 < e ∧ e ≤ r 0 ∧ Hid (∀ i, i < 8 → -32000 < k i ∧ k i < 32000) ∧ Hid (LevU r → e = r 0 ∧ ∀ i, a i = unitRow i) ∧ Has w wr [(ga, 77, row 9 a), (gk, 26, row 8 k), (gr, 26, row 8 fun _ => 0), (g1, 77, row 9 r)]) (fun _ c _ => 9 - (intOf c).toNat)
        case atStart => exact ⟨1, r 0, _, _, by omega, by omega, rfl, rfl, he1, by omega, fun i _ => by omega, fun _ => ⟨rfl, fun _ => rfl⟩, H⟩
        clear H
        case round =>
          obtain ⟨m, e, k, a, hm1, hm2, rfl, rfl, e1, e2, HK, HU, H⟩ := hrel
          by_cases hlm : m ≤ 8
          · go_wp2_with fail
            go_loopw [11, 39] (fun x c wr => ∃ (i : Nat) (s : Int), i ≤ m ∧ c = .int .i64 i ∧ x = .int .i64 s ∧ Hid (LevU r → s = 0) ∧ Has w wr [(ga, 77, row 9 a), (gk, 26, row 8 k), (gr, 26, row 8 fun _ => 0), (g1, 77, row 9 r)]) (fun _ c _ => m - (intOf c).toNat)
            case atStart => exact ⟨0, 0, by omega, rfl, rfl, fun _ => rfl, H⟩
            clear H
            case round =>
              obtain ⟨i, s, him, rfl, rfl, HS, H⟩ := hrel
              by_cases hli : i < m
              · have s1 : IntKind.i64.wrap ((m : Int) - i) = (m : Int) - i := IntWalk.i64_in _ (by omega)
                have s2 : ((m : Int) - i).toNat = m - i := by omega
                have s3 : (0 : Int) ≤ (m : Int) - i := by omega
                have s4 : (m : Int) - i < 9 := by omega
                have s5 : (i : Int) < 9 := by omega
                have s6 : (0 : Int) ≤ (i : Int) := by omega
                go_wp2_with fail
                refine wp_region_text [] (by kernel_rfl) (by kernel_rfl) (by kernel_rfl) ?_; replace H := H.drew; generalize World.drew _ = u at *
                repeat (first | (refine ones_load_one (o := ⟨_, .load 3 _, _, _, _, _⟩) H 3 _ rfl rfl rfl rfl (by repeat (first | exact List.mem_cons_self | apply List.mem_cons_of_mem | apply List.mem_append_right)) (by kernel_rfl) (row_get _ (by omega)) ?_; simp only [Act.put, List.setIfInBounds_toArray, List.set_cons_zero, List.set_cons_succ]) | (refine ones_free (v := ?_) rfl rfl ?_ ?_; rotate_left; (intro w'; go_simp; try with_reducible rfl); simp only [Act.put, List.setIfInBounds_toArray, List.set_cons_zero, List.set_cons_succ]))
                refine ones_nil ?_
                go_wp2
                go_roundw
                case rel =>
                  refine ⟨i + 1, _, by omega, by go_num, rfl, fun hu => ?_, H⟩
                  have h1 : a i / 512 * r (m - i) = 0 := by
                    by_cases e0 : i = 0
                    · subst e0
                      rw [hu.2 (m - 0) (by omega) (by omega)]; simp
                    · rw [(HU.out hu).2 i]
                      simp [unitRow, e0]
                  rw [HS.out hu, h1]
                  rfl
                case measure => simp [intOf]; omega
              · obtain rfl : i = m := by omega
                obtain ⟨q, hq⟩ : ∃ q, wrap64 ((wrap64 (wrap64 (-s) * 32768)).tdiv e) = q := ⟨_, rfl⟩
                have HQ : Hid (LevU r → q = 0) := fun hu => by rw [← hq, HS.out hu]; exact lev_q0 e
                have he0 : ¬ e = 0 := by omega
                by_cases hq1 : q ≤ -32000
                · have d1 := le_yes hq1
                  go_wp2_with (first | ((refine wpList_on (o := ⟨_, .load 26 _, _, _, _, _⟩) rfl (fun K hK => ?_)); (try simp only [Act.put, List.setIfInBounds_toArray, List.set_cons_zero, List.set_cons_succ]); refine wp_load_all H 26 _ rfl rfl (by repeat (first | exact List.mem_cons_self | apply List.mem_cons_of_mem | apply List.mem_append_right)) (by kernel_rfl) ?_; refine hK _ _ ?_; clear hK K) | ((refine wpList_on (o := ⟨_, .store 26 _ _, _, _, _, _⟩) rfl (fun K hK => ?_)); (try simp only [Act.put, List.setIfInBounds_toArray, List.set_cons_zero, List.set_cons_succ]); refine wp_store_all (l1 := [_, _]) H 26 _ _ rfl rfl rfl (by kernel_rfl) (by simp [row_size]) (row_one _ _) ?_; clear H; intro u H; refine hK _ _ ?_; clear hK K; try simp only [Value.cells, List.cons_append, List.nil_append] at H))
                  refine bodyPost_ret (results_has3 rfl _ H rfl (by repeat (first | exact List.mem_cons_self | apply List.mem_cons_of_mem | apply List.mem_append_right)) (by kernel_rfl)) rfl ⟨_, _, _, rfl, HK.out, fun h => by simp at h, fun hu => by have := HQ.out hu; omega, H.below⟩
                by_cases hq2 : 32000 ≤ q
                · have d1 := le_no (show -32000 < q by omega)
                  have d2 := le_yes hq2
                  go_wp2_with (first | ((refine wpList_on (o := ⟨_, .load 26 _, _, _, _, _⟩) rfl (fun K hK => ?_)); (try simp only [Act.put, List.setIfInBounds_toArray, List.set_cons_zero, List.set_cons_succ]); refine wp_load_all H 26 _ rfl rfl (by repeat (first | exact List.mem_cons_self | apply List.mem_cons_of_mem | apply List.mem_append_right)) (by kernel_rfl) ?_; refine hK _ _ ?_; clear hK K) | ((refine wpList_on (o := ⟨_, .store 26 _ _, _, _, _, _⟩) rfl (fun K hK => ?_)); (try simp only [Act.put, List.setIfInBounds_toArray, List.set_cons_zero, List.set_cons_succ]); refine wp_store_all (l1 := [_, _]) H 26 _ _ rfl rfl rfl (by kernel_rfl) (by simp [row_size]) (row_one _ _) ?_; clear H; intro u H; refine hK _ _ ?_; clear hK K; try simp only [Value.cells, List.cons_append, List.nil_append] at H))
                  refine bodyPost_ret (results_has3 rfl _ H rfl (by repeat (first | exact List.mem_cons_self | apply List.mem_cons_of_mem | apply List.mem_append_right)) (by kernel_rfl)) rfl ⟨_, _, _, rfl, HK.out, fun h => by simp at h, fun hu => by have := HQ.out hu; omega, H.below⟩
                have d1 := le_no (show -32000 < q by omega)
                have d2 := le_no (show q < 32000 by omega)
                have r2' : r 0 ≤ 2147483647 := r2
                obtain ⟨⟨p1, p2⟩, ⟨p3, p4⟩, p5⟩ := lev_part e q e1 (by omega) (by omega) (by omega)
                have s1 : IntKind.i64.wrap ((i : Int) - 1) = (i : Int) - 1 := IntWalk.i64_in _ (by omega)
                have s2 : ((i : Int) - 1).toNat = i - 1 := by omega
                go_wp2_with (first | ((refine wpList_on (o := ⟨_, .load 77 _, _, _, _, _⟩) rfl (fun K hK => ?_)); (try simp only [Act.put, List.setIfInBounds_toArray, List.set_cons_zero, List.set_cons_succ]); refine wp_load_all H 77 _ rfl rfl (by repeat (first | exact List.mem_cons_self | apply List.mem_cons_of_mem | apply List.mem_append_right)) (by kernel_rfl) ?_; refine hK _ _ ?_; clear hK K) | (refine wpList_on (o := ⟨some 14, .alloc 77, _, _, _, _⟩) rfl (fun K hK => ?_); refine wp_alloc H 77 rfl (z := (.agg (row 9 fun _ => 0))) (by kernel_rfl) ?_; clear H; intro u gw H; refine hK _ _ ?_; clear hK K; try simp only [Value.cells, List.cons_append, List.nil_append] at H) | ((refine wpList_on (o := ⟨_, .store 77 _ _, _, _, _, _⟩) rfl (fun K hK => ?_)); (try simp only [Act.put, List.setIfInBounds_toArray, List.set_cons_zero, List.set_cons_succ]); refine wp_store_all (l1 := []) H 77 _ _ rfl rfl rfl (by kernel_rfl) (by simp [row_size]) (row_one _ _) ?_; clear H; intro u H; refine hK _ _ ?_; clear hK K; try simp only [Value.cells, List.cons_append, List.nil_append] at H) | ((refine wpList_on (o := ⟨_, .store 3 _ _, _, _, _, _⟩) rfl (fun K hK => ?_)); (try simp only [Act.put, List.setIfInBounds_toArray, List.set_cons_zero, List.set_cons_succ]); refine wp_store_row_ (l1 := [_]) H 3 _ _ rfl rfl rfl (by kernel_rfl) (by omega) ?_; clear H; intro u H; refine hK _ _ ?_; clear hK K; try simp only [Value.cells, List.cons_append, List.nil_append] at H))
                have HK' : Hid (∀ j, j < 8 → -32000 < (fun j => if j = i - 1 then q else k j) j ∧ (fun j => if j = i - 1 then q else k j) j < 32000) := fun j hj => by
                  have := HK.out j hj
                  by_cases e0 : j = i - 1 <;> simp only [e0, if_true, if_false] <;> omega
                rw [hq] at H
                clear hq s1 s2 d1 d2 hq1 hq2 hli
                go_loopw [15] (fun c wr => ∃ (j : Nat) (b : Nat → Int), 1 ≤ j ∧ j ≤ i + 1 ∧ c = .int .i64 j ∧ Hid (LevU r → ∀ x, b x = a x) ∧ Has w wr [(gw, 77, row 9 a), (ga, 77, row 9 b), (gk, 26, row 8 (fun j => if j = i - 1 then q else k j)), (gr, 26, row 8 fun _ => 0), (g1, 77, row 9 r)]) (fun c _ => i + 1 - (intOf c).toNat)
                case atStart => exact ⟨1, a, by omega, by omega, rfl, fun _ _ => rfl, H⟩
                clear H
                case round =>
                  obtain ⟨j, b, hj1, hj2, rfl, HB, H⟩ := hrel
                  by_cases hlj : j ≤ i
                  · have s1 : IntKind.i64.wrap ((i : Int) - j) = (i : Int) - j := IntWalk.i64_in _ (by omega)
                    have s2 : ((i : Int) - j).toNat = i - j := by omega
                    have s3 : (0 : Int) ≤ (i : Int) - j := by omega
                    have s4 : (i : Int) - j < 9 := by omega
                    have s5 : (j : Int) < 9 := by omega
                    have s6 : (0 : Int) ≤ (j : Int) := by omega
                    go_wp2_with fail
                    refine wp_region_text [] (by kernel_rfl) (by kernel_rfl) (by kernel_rfl) ?_; replace H := H.drew; generalize World.drew _ = u at *
                    repeat (first | (refine ones_load_one (o := ⟨_, .load 3 _, _, _, _, _⟩) H 3 _ rfl rfl rfl rfl (by repeat (first | exact List.mem_cons_self | apply List.mem_cons_of_mem | apply List.mem_append_right)) (by kernel_rfl) (row_get _ (by omega)) ?_; simp only [Act.put, List.setIfInBounds_toArray, List.set_cons_zero, List.set_cons_succ]) | (refine ones_free (v := ?_) rfl rfl ?_ ?_; rotate_left; (intro w'; go_simp; try with_reducible rfl); simp only [Act.put, List.setIfInBounds_toArray, List.set_cons_zero, List.set_cons_succ]) | (refine ones_eff (o := ⟨_, .store 3 _ _, _, _, _, _⟩) rfl rfl (fun K hK => ?_); refine wp_store_row_ (l1 := [_]) H 3 _ _ rfl rfl rfl (by kernel_rfl) (by omega) ?_; clear H; intro u H; refine hK _ _ ?_; clear hK K; simp only [Act.put, List.setIfInBounds_toArray, List.set_cons_zero, List.set_cons_succ]; try simp only [Value.cells, List.cons_append, List.nil_append] at H))
                    refine ones_nil ?_
                    go_wp2
                    go_roundw
                    case rel =>
                      refine ⟨j + 1, _, by omega, by omega, by go_num, fun hu x => ?_, H⟩
                      by_cases e0 : x = j
                      · subst e0
                        simp only [if_true]
                        rw [HQ.out hu, Int.zero_mul]
                        have h2 := (HU.out hu).2 x
                        unfold unitRow at h2
                        rw [if_neg (by omega)] at h2
                        rw [h2]; rfl
                      · simp only [e0, if_false]
                        exact HB.out hu x
                    case measure => simp [intOf]; omega
                  · obtain rfl : j = i + 1 := by omega
                    by_cases hx : e - e * q / 32768 * q / 32768 ≤ 0
                    · have d1 := le_yes hx
                      go_wp2_with (first | ((refine wpList_on (o := ⟨_, .load 26 _, _, _, _, _⟩) rfl (fun K hK => ?_)); (try simp only [Act.put, List.setIfInBounds_toArray, List.set_cons_zero, List.set_cons_succ]); refine wp_load_all H 26 _ rfl rfl (by repeat (first | exact List.mem_cons_self | apply List.mem_cons_of_mem | apply List.mem_append_right)) (by kernel_rfl) ?_; refine hK _ _ ?_; clear hK K) | ((refine wpList_on (o := ⟨_, .store 26 _ _, _, _, _, _⟩) rfl (fun K hK => ?_)); (try simp only [Act.put, List.setIfInBounds_toArray, List.set_cons_zero, List.set_cons_succ]); refine wp_store_all (l1 := [_, _, _]) H 26 _ _ rfl rfl rfl (by kernel_rfl) (by simp [row_size]) (row_one _ _) ?_; clear H; intro u H; refine hK _ _ ?_; clear hK K; try simp only [Value.cells, List.cons_append, List.nil_append] at H))
                      refine bodyPost_ret (results_has3 rfl _ H rfl (by repeat (first | exact List.mem_cons_self | apply List.mem_cons_of_mem | apply List.mem_append_right)) (by kernel_rfl)) rfl ⟨_, _, _, rfl, HK'.out, fun h => by simp at h, fun hu => ?_, H.below⟩
                      exfalso
                      have h1 := HQ.out hu
                      subst h1
                      simp at hx
                      omega
                    · have d1 := le_no (show 0 < e - e * q / 32768 * q / 32768 by omega)
                      go_wp2_with fail
                      go_roundw
                      case rel =>
                        refine ⟨i + 1, _, _, b, by omega, by omega, by go_num, rfl, by omega, by omega, HK', fun hu => ⟨?_, fun x => ?_⟩, H.tail⟩
                        · have h1 := HQ.out hu
                          have h2 := (HU.out hu).1
                          subst h1
                          simp [h2]
                        · rw [HB.out hu x]; exact (HU.out hu).2 x
                      case measure => simp [intOf]; omega
          · obtain rfl : m = 9 := by omega
            go_wp2_with (first | ((refine wpList_on (o := ⟨_, .load 26 _, _, _, _, _⟩) rfl (fun K hK => ?_)); (try simp only [Act.put, List.setIfInBounds_toArray, List.set_cons_zero, List.set_cons_succ]); refine wp_load_all H 26 _ rfl rfl (by repeat (first | exact List.mem_cons_self | apply List.mem_cons_of_mem | apply List.mem_append_right)) (by kernel_rfl) ?_; refine hK _ _ ?_; clear hK K) | ((refine wpList_on (o := ⟨_, .store 26 _ _, _, _, _, _⟩) rfl (fun K hK => ?_)); (try simp only [Act.put, List.setIfInBounds_toArray, List.set_cons_zero, List.set_cons_succ]); refine wp_store_all (l1 := [_, _]) H 26 _ _ rfl rfl rfl (by kernel_rfl) (by simp [row_size]) (row_one _ _) ?_; clear H; intro u H; refine hK _ _ ?_; clear hK K; try simp only [Value.cells, List.cons_append, List.nil_append] at H))
            refine bodyPost_ret (results_has3 rfl _ H rfl (by repeat (first | exact List.mem_cons_self | apply List.mem_cons_of_mem | apply List.mem_append_right)) (by kernel_rfl)) rfl ⟨_, _, _, rfl, HK.out, fun _ => ⟨e1, e2⟩, fun _ => rfl, H.below⟩
end Go.Proofs.YtcoicmbjoaonoaaDoor
/-
  coder.Encode walked where nobody speaks. No statement is proved here.
-/
namespace Go.Proofs.YtcoicmbjoaonoaaDoor
set_option linter.unusedVariables false
set_option linter.unusedSimpArgs false
open Go.RowKit
set_option maxRecDepth 100000
set_option maxHeartbeats 12800000 in
theorem encode_2 (q n f l h c : Nat → Int) (s : Bool) (P : Option Addr) (cap : Nat) (w : World) (ef : EncFront q l f h c s P cap w) (hn : ∀ i, i < 120 → In16 (n i)) (hk : sqS c 80 < 1280) (hG : GoodM f) (hT : Roots w) (hP : Gains w) (hW : Widths w) :
    Calls Tryd.prog 12 #[.agg (encA q n f s), .slice P 80 cap, .bool false] w (EncPost h f 2 w) := by
  have H := Has.start w
  have EF := Lib.hid ef
  have hin := Lib.hid (inpF_in (c := c) hn ef.clean)
  have cC := Lib.hid (fun (v : Value) (u : World) (L : Lies u v 120 (inpF n c)) => Correlate_l hin.out L)
  have cK := Lib.hid (fun (v : Value) (u : World) (L : Lies u v 80 c) => show Calls Tryd.prog 37 #[v] u fun e w' => e = .returned (.bool true) ∧ u = w' from by
    have h := quiet_any c (fun i _ => EF.out.clean i) L
    rw [decide_eq_true hk] at h
    exact h)
  have HG := Lib.hid hG
  clear ef hn hk hG
  go_enter Tryd.func12, Tryd.ntmps12
  go_wp2_with (first | ((refine wpList_on (o := ⟨_, .box _ (.tmp 0), _, _, _, _⟩) rfl (fun K hK => ?_)); (try simp only [Act.put, List.setIfInBounds_toArray, List.set_cons_zero, List.set_cons_succ]); refine wp_box H _ (.tmp 0) rfl (v := .agg (encA _ _ _ _)) rfl ?_; clear H; intro u g3 H; refine hK _ _ ?_; clear hK K; (try simp only [Value.cells] at H)) | (refine wpList_on (o := ⟨some 6, .alloc 31, _, _, _, _⟩) rfl (fun K hK => ?_); refine wp_alloc H 31 rfl (z := (.agg (encA (fun _ => 0) (fun _ => 0) (fun _ => 0) false))) (by kernel_rfl) ?_; clear H; intro u g6 H; refine hK _ _ ?_; clear hK K; try simp only [Value.cells, List.cons_append, List.nil_append] at H) | ((refine wpList_on (o := ⟨_, .load 29 _, _, _, _, _⟩) rfl (fun K hK => ?_)); (try simp only [Act.put, List.setIfInBounds_toArray, List.set_cons_zero, List.set_cons_succ]); refine wp_load_part (n := 102) H 29 _ rfl rfl (by repeat (first | exact List.mem_cons_self | apply List.mem_cons_of_mem | apply List.mem_append_right)) (by kernel_rfl) (by rw [encA_size]; omega) (encA_mem _ _ _ _) ?_; refine hK _ _ ?_; clear hK K) | (go_at_call 21; (with_reducible refine (EF.out.good _).mono ?_); rintro e w1 ⟨rfl, hb⟩; replace H := H.callee hb; clear hb) | ((refine wpList_on (o := ⟨_, .load 24 _, _, _, _, _⟩) rfl (fun K hK => ?_)); (try simp only [Act.put, List.setIfInBounds_toArray, List.set_cons_zero, List.set_cons_succ]); refine wp_load_part (n := 4) H 24 _ rfl rfl (by repeat (first | exact List.mem_cons_self | apply List.mem_cons_of_mem | apply List.mem_append_right)) (by kernel_rfl) (by rw [encA_size]; omega) (encA_high _ _ _ _) ?_; refine hK _ _ ?_; clear hK K) | (go_at_call 33; (with_reducible refine (EF.out.high _ H.below).mono ?_); rintro e w1 ⟨vo, tl, rfl, RO, hb⟩; obtain ⟨gc, capc, csc, rfl, rfl, hcapc, hszc, hcsc⟩ := RO.some_ (by omega); clear RO hszc; replace H := H.join hb; clear hb; (try simp only [List.cons_append, List.nil_append] at H)) | (refine wpList_on (o := ⟨some 11, .alloc 24, _, _, _, _⟩) rfl (fun K hK => ?_); refine wp_alloc H 24 rfl (z := (.agg (row 4 fun _ => 0))) (by kernel_rfl) ?_; clear H; intro u g11 H; refine hK _ _ ?_; clear hK K; try simp only [Value.cells, List.cons_append, List.nil_append] at H) | ((refine wpList_on (o := ⟨_, .store 24 _ _, _, _, _, _⟩) rfl (fun K hK => ?_)); (try simp only [Act.put, List.setIfInBounds_toArray, List.set_cons_zero, List.set_cons_succ]); refine wp_store_all (l1 := []) H 24 _ _ rfl rfl rfl (by kernel_rfl) (by simp [row_size]) (row_one _ _) ?_; clear H; intro u H; refine hK _ _ ?_; clear hK K; try simp only [Value.cells, List.cons_append, List.nil_append] at H) | ((refine wpList_on (o := ⟨_, .load 24 _, _, _, _, _⟩) rfl (fun K hK => ?_)); (try simp only [Act.put, List.setIfInBounds_toArray, List.set_cons_zero, List.set_cons_succ]); refine wp_load_all H 24 _ rfl rfl (by repeat (first | exact List.mem_cons_self | apply List.mem_cons_of_mem | apply List.mem_append_right)) (by kernel_rfl) ?_; refine hK _ _ ?_; clear hK K) | ((refine wpList_on (o := ⟨_, .store 24 _ _, _, _, _, _⟩) rfl (fun K hK => ?_)); (try simp only [Act.put, List.setIfInBounds_toArray, List.set_cons_zero, List.set_cons_succ]); refine wp_store_part (l1 := [_, _, _]) H 24 _ _ rfl rfl rfl (by rw [row_size]; kernel_rfl) (by rw [encA_size, row_size]; omega) (row_oneCell _ _) (encA_putH _ _ _ _ _) ?_; clear H; intro u H; refine hK _ _ ?_; clear hK K; (try simp only [List.cons_append, List.nil_append] at H)))
  refine wp_region_ordB [] [(0, 0), (1, 0), (2, 0), (3, 0), (4, 4)] (fun w' => Has w w' []) [] [[0, 1, 2, 3, 4]] (by kernel_rfl) (by kernel_rfl) (by kernel_rfl) ?_; replace H := H.drew; generalize World.drew _ = u at *; simp only [List.forall_mem_cons, List.not_mem_nil, false_imp_iff, implies_true, and_true]; (repeat' refine And.intro ?_ ?_)
  repeat (first | (refine sq_free (o := ⟨_, _, _, _, _, _⟩) (v := ?_) rfl rfl rfl ?_ ?_; rotate_left; (intro w'; go_simp; try with_reducible rfl); simp only [Act.put, List.setIfInBounds_toArray, List.set_cons_zero, List.set_cons_succ]) | (refine sq_eff (o := ⟨_, .call { callee := .builtin .copy, args := #[_, _], argTypes := #[35, 35] }, _, _, _, _⟩) rfl rfl rfl (fun K hK => ?_); refine wp_copy_has (l1 := [_, _, _]) (k := 4) (cs' := encA h (inp1 n) f s) H _ _ 35 35 3 rfl (m := 40) (nw := fun i => n (80 + i)) rfl rfl (by kernel_rfl) rfl (fun j hj => by rw [Addr.add_mid, (H.at_ (by repeat (first | exact List.mem_cons_self | apply List.mem_cons_of_mem | apply List.mem_append_right))).cell]; exact encA_at (by omega) (by omega)) (by rw [encA_size]; omega) (encA_copy1 _ _ _ _) ?_; clear H; intro u H; refine hK _ _ ?_; clear hK K; simp only [Act.put, List.setIfInBounds_toArray, List.set_cons_zero, List.set_cons_succ]; (try simp only [List.cons_append, List.nil_append] at H)))
  refine sq_nil ?_
  generalize goInt _ = zz
  go_wp2_with (first | ((refine wpList_on (o := ⟨_, .call { callee := .builtin .copy, args := #[_, _], argTypes := #[35, 35] }, _, _, _, _⟩) rfl (fun K hK => ?_)); (try simp only [Act.put, List.setIfInBounds_toArray, List.set_cons_zero, List.set_cons_succ]); refine wp_copy_has (l1 := [_, _, _]) (k := 44) (cs' := encA h (inpF n c) f s) H _ _ 35 35 3 rfl (m := 80) (nw := c) rfl rfl (by kernel_rfl) rfl (fun j hj => by rw [Addr.add_mid, (H.at_ (by repeat (first | exact List.mem_cons_self | apply List.mem_cons_of_mem | apply List.mem_append_right))).cell, Nat.zero_add]; exact hcsc j (by omega)) (by rw [encA_size]; omega) (encA_copy2 _ _ _ _ _) ?_; clear H; intro u H; refine hK _ _ ?_; clear hK K; (try simp only [List.cons_append, List.nil_append] at H)) | (go_at_call 34; (with_reducible refine (cC.out _ _ (H.liesE (by repeat (first | exact List.mem_cons_self | apply List.mem_cons_of_mem | apply List.mem_append_right)))).mono ?_); rintro e w1 ⟨R, nn, rfl, hR0, hR1, hb⟩; replace H := H.callee hb; clear hb hR0 hR1) | (refine wpList_on (o := ⟨some 13, .alloc 77, _, _, _, _⟩) rfl (fun K hK => ?_); refine wp_alloc H 77 rfl (z := (.agg (row 9 fun _ => 0))) (by kernel_rfl) ?_; clear H; intro u g13 H; refine hK _ _ ?_; clear hK K; try simp only [Value.cells, List.cons_append, List.nil_append] at H) | ((refine wpList_on (o := ⟨_, .store 77 _ _, _, _, _, _⟩) rfl (fun K hK => ?_)); (try simp only [Act.put, List.setIfInBounds_toArray, List.set_cons_zero, List.set_cons_succ]); refine wp_store_all (l1 := []) H 77 _ _ rfl rfl rfl (by kernel_rfl) (by simp [row_size]) (row_one _ _) ?_; clear H; intro u H; refine hK _ _ ?_; clear hK K; try simp only [Value.cells, List.cons_append, List.nil_append] at H) | (refine wpList_on (o := ⟨some 15, .alloc 44, _, _, _, _⟩) rfl (fun K hK => ?_); refine wp_alloc H 44 rfl (z := (.agg (row 25 fun _ => 0))) (by kernel_rfl) ?_; clear H; intro u g15 H; refine hK _ _ ?_; clear hK K; try simp only [Value.cells, List.cons_append, List.nil_append] at H) | ((refine wpList_on (o := ⟨_, .load 77 _, _, _, _, _⟩) rfl (fun K hK => ?_)); (try simp only [Act.put, List.setIfInBounds_toArray, List.set_cons_zero, List.set_cons_succ]); refine wp_load_all H 77 _ rfl rfl (by repeat (first | exact List.mem_cons_self | apply List.mem_cons_of_mem | apply List.mem_append_right)) (by kernel_rfl) ?_; refine hK _ _ ?_; clear hK K) | (go_at_call 35; (with_reducible refine (levinson_any R _).mono ?_); rintro e w1 ⟨kk, x, ok, rfl, hkk, hx1, hx2, hb⟩; replace H := H.callee hb; clear hb hx1 hx2; have cQ := Lib.hid (fun (u : World) (hu : Widths u) => AllQ_any kk u hu (levQE hkk)); have hal := Lib.hid (allF_bd (k := kk) (levQE hkk)); generalize allF kk = al at cQ hal; clear hkk) | (refine wpList_on (o := ⟨some 16, .alloc 26, _, _, _, _⟩) rfl (fun K hK => ?_); refine wp_alloc H 26 rfl (z := (.agg (row 8 fun _ => 0))) (by kernel_rfl) ?_; clear H; intro u g16 H; refine hK _ _ ?_; clear hK K; try simp only [Value.cells, List.cons_append, List.nil_append] at H) | ((refine wpList_on (o := ⟨_, .store 26 (.tmp 81) _, _, _, _, _⟩) rfl (fun K hK => ?_)); (try simp only [Act.put, List.setIfInBounds_toArray, List.set_cons_zero, List.set_cons_succ]); refine wp_store_part (l1 := [_]) H 26 _ _ rfl rfl rfl (by rw [row_size]; kernel_rfl) (by simp [row_size]) (row_oneCell _ _) (pkK_put _) ?_; clear H; intro u H; refine hK _ _ ?_; clear hK K; (try simp only [List.cons_append, List.nil_append] at H)) | ((refine wpList_on (o := ⟨_, .store 26 _ _, _, _, _, _⟩) rfl (fun K hK => ?_)); (try simp only [Act.put, List.setIfInBounds_toArray, List.set_cons_zero, List.set_cons_succ]); refine wp_store_all (l1 := []) H 26 _ _ rfl rfl rfl (by kernel_rfl) (by simp [row_size]) (row_one _ _) ?_; clear H; intro u H; refine hK _ _ ?_; clear hK K; try simp only [Value.cells, List.cons_append, List.nil_append] at H) | ((refine wpList_on (o := ⟨_, .load 26 _, _, _, _, _⟩) rfl (fun K hK => ?_)); (try simp only [Act.put, List.setIfInBounds_toArray, List.set_cons_zero, List.set_cons_succ]); refine wp_load_all H 26 _ rfl rfl (by repeat (first | exact List.mem_cons_self | apply List.mem_cons_of_mem | apply List.mem_append_right)) (by kernel_rfl) ?_; refine hK _ _ ?_; clear hK K) | (go_at_call 36; (with_reducible refine (cQ.out _ (hW.has H)).mono ?_); rintro e w1 ⟨rfl, hb⟩; replace H := H.callee hb; clear hb cQ) | ((refine wpList_on (o := ⟨_, .load 29 _, _, _, _, _⟩) rfl (fun K hK => ?_)); (try simp only [Act.put, List.setIfInBounds_toArray, List.set_cons_zero, List.set_cons_succ]); refine wp_load_part (n := 102) H 29 _ rfl rfl (by repeat (first | exact List.mem_cons_self | apply List.mem_cons_of_mem | apply List.mem_append_right)) (by kernel_rfl) (by rw [encA_size]; omega) (encA_mem _ _ _ _) ?_; refine hK _ _ ?_; clear hK K) | (refine wpList_on (o := ⟨some 19, .alloc 29, _, _, _, _⟩) rfl (fun K hK => ?_); refine wp_alloc H 29 rfl (z := (.agg (memA (fun _ => 0) false))) (by kernel_rfl) ?_; clear H; intro u g19 H; refine hK _ _ ?_; clear hK K; try simp only [Value.cells, List.cons_append, List.nil_append] at H) | ((refine wpList_on (o := ⟨_, .store 29 _ _, _, _, _, _⟩) rfl (fun K hK => ?_)); (try simp only [Act.put, List.setIfInBounds_toArray, List.set_cons_zero, List.set_cons_succ]); refine wp_store_all (l1 := []) H 29 _ _ rfl rfl rfl (by rw [memA_size]; kernel_rfl) (by rw [memA_size, memA_size]) (memA_one _ _) ?_; clear H; intro u H; refine hK _ _ ?_; clear hK K; try simp only [Value.cells, List.cons_append, List.nil_append] at H) | (go_at_call 37; (with_reducible refine (cK.out _ _ (lies_n H (by repeat (first | exact List.mem_cons_self | apply List.mem_cons_of_mem | apply List.mem_append_right)) hcsc)).mono ?_); rintro e w1 ⟨rfl, rfl⟩) | ((refine wpList_on (o := ⟨_, .store 3 _ _, _, _, _, _⟩) rfl (fun K hK => ?_)); (try simp only [Act.put, List.setIfInBounds_toArray, List.set_cons_zero, List.set_cons_succ]); refine wp_store_row_ (l1 := [_, _]) H 3 _ _ rfl rfl rfl (by kernel_rfl) (by omega) ?_; rw [pkK_kind]; clear H; intro u H; refine hK _ _ ?_; clear hK K; (try simp only [List.cons_append, List.nil_append] at H)) | ((refine wpList_on (o := ⟨_, .load 26 _, _, _, _, _⟩) rfl (fun K hK => ?_)); (try simp only [Act.put, List.setIfInBounds_toArray, List.set_cons_zero, List.set_cons_succ]); refine wp_load_part (n := 8) H 26 _ rfl rfl (by repeat (first | exact List.mem_cons_self | apply List.mem_cons_of_mem | apply List.mem_append_right)) (by kernel_rfl) (by simp [row_size]) (pkK_part _ _) ?_; refine hK _ _ ?_; clear hK K) | (go_at_call 38; (with_reducible refine (Values_any al _ (hW.has H) hal.out).mono ?_); rintro e w1 ⟨rfl, hb⟩; replace H := H.callee hb; clear hb) | (refine wpList_on (o := ⟨some 20, .alloc 26, _, _, _, _⟩) rfl (fun K hK => ?_); refine wp_alloc H 26 rfl (z := (.agg (row 8 fun _ => 0))) (by kernel_rfl) ?_; clear H; intro u g20 H; refine hK _ _ ?_; clear hK K; try simp only [Value.cells, List.cons_append, List.nil_append] at H))
  have hpk := Lib.hid (pkK_ok (.inr (.inr rfl)) hal.out : PkOk (pkK 2 al))
  replace H := H.sub (bs' := [(g20, 26, row 8 (valF al)), (g19, 29, memA f s), (g16, 26, row 8 kk), (g15, 44, row 25 (pkK 2 al)), (g13, 77, row 9 R), (g11, 24, row 4 h), (gc, 3, csc), (g6, 31, (encA (fun _ => 0) (fun _ => 0) (fun _ => 0) false)), (g3, 31, encA h (inpF n c) f s)]) (by repeat (first | exact List.Sublist.refl _ | exact List.nil_sublist _ | apply List.Sublist.cons_cons | apply List.Sublist.cons))
  go_loopw [98] (fun v wr => v = .int .i64 0 ∧ Has w wr [(g20, 26, row 8 (valF al)), (g19, 29, memA f s), (g16, 26, row 8 kk), (g15, 44, row 25 (pkK 2 al)), (g13, 77, row 9 R), (g11, 24, row 4 h), (gc, 3, csc), (g6, 31, (encA (fun _ => 0) (fun _ => 0) (fun _ => 0) false)), (g3, 31, encA h (inpF n c) f s)]) (fun _ _ => 0)
  case atStart => exact ⟨rfl, H⟩
  clear H
  case round =>
    obtain ⟨rfl, H⟩ := hrel
    go_wp2_with (first | ((refine wpList_on (o := ⟨_, .load 3 _, _, _, _, _⟩) rfl (fun K hK => ?_)); (try simp only [Act.put, List.setIfInBounds_toArray, List.set_cons_zero, List.set_cons_succ]); refine wp_load_one (v := .int .i64 2) H 3 _ rfl rfl (by repeat (first | exact List.mem_cons_self | apply List.mem_cons_of_mem | apply List.mem_append_right)) (by kernel_rfl) (row_get (n := 25) (i := 0) (pkK 2 al) (by omega)) ?_; refine hK _ _ ?_; clear hK K) | (go_at_call 23; (with_reducible refine (Pack_pk hpk.out _ (hW.has H)).mono ?_); rintro e w1 ⟨gp, rfl, hb⟩; replace H := H.join hb; clear hb; (try simp only [List.cons_append, List.nil_append] at H)) | ((refine wpList_on (o := ⟨_, .load 44 _, _, _, _, _⟩) rfl (fun K hK => ?_)); (try simp only [Act.put, List.setIfInBounds_toArray, List.set_cons_zero, List.set_cons_succ]); refine wp_load_all H 44 _ rfl rfl (by repeat (first | exact List.mem_cons_self | apply List.mem_cons_of_mem | apply List.mem_append_right)) (by kernel_rfl) ?_; refine hK _ _ ?_; clear hK K) | ((refine wpList_on (o := ⟨_, .load 29 _, _, _, _, _⟩) rfl (fun K hK => ?_)); (try simp only [Act.put, List.setIfInBounds_toArray, List.set_cons_zero, List.set_cons_succ]); refine wp_load_part (n := 102) H 29 _ rfl rfl (by repeat (first | exact List.mem_cons_self | apply List.mem_cons_of_mem | apply List.mem_append_right)) (by kernel_rfl) (by rw [encA_size]; omega) (encA_mem _ _ _ _) ?_; refine hK _ _ ?_; clear hK K) | (go_at_call 42; (with_reducible refine (frame_pk f s _ HG.out hpk.out (hT.has H) (hP.has H) (hW.has H)).mono ?_); rintro e w1 ⟨vf, tlf, rfl, RF, hb⟩; replace H := H.joinR hb; clear hb; (try simp only [List.cons_append, List.nil_append] at H)) | ((refine wpList_on (o := ⟨_, .store 29 (.tmp 151) _, _, _, _, _⟩) rfl (fun K hK => ?_)); (try simp only [Act.put, List.setIfInBounds_toArray, List.set_cons_zero, List.set_cons_succ]); refine wp_store_part (l1 := [_, _, _, _, _, _, _, _, _]) H 29 _ _ rfl rfl rfl (by rw [memA_size]; kernel_rfl) (by rw [encA_size, memA_size]; omega) (memA_one _ _) (encA_putM _ _ _ _ _ _) ?_; clear H; intro u H; refine hK _ _ ?_; clear hK K; (try simp only [List.cons_append, List.nil_append] at H)) | ((refine wpList_on (o := ⟨_, .load 31 _, _, _, _, _⟩) rfl (fun K hK => ?_)); (try simp only [Act.put, List.setIfInBounds_toArray, List.set_cons_zero, List.set_cons_succ]); refine wp_load_all H 31 _ rfl rfl (by repeat (first | exact List.mem_cons_self | apply List.mem_cons_of_mem | apply List.mem_append_right)) (by rw [encA_size]; kernel_rfl) ?_; refine hK _ _ ?_; clear hK K) | ((refine wpList_on (o := ⟨_, .store 31 _ _, _, _, _, _⟩) rfl (fun K hK => ?_)); (try simp only [Act.put, List.setIfInBounds_toArray, List.set_cons_zero, List.set_cons_succ]); refine wp_store_all (l1 := [_, _, _, _, _, _, _, _]) H 31 _ _ rfl rfl rfl (by rw [encA_size]; kernel_rfl) (by rw [encA_size, encA_size]) (encA_one _ _ _ _) ?_; clear H; intro u H; refine hK _ _ ?_; clear hK K; (try simp only [List.cons_append, List.nil_append] at H)))
    refine bodyPost_ret (results_has4 rfl _ H rfl (by repeat (first | exact List.mem_cons_self | apply List.mem_cons_of_mem | apply List.mem_append_right)) (by rw [encA_size]; kernel_rfl)) rfl ⟨inpF n c, natP (pkK 2 al), gp, vf, tlf, hin.out, pke_2 hal.out, rfl, RF, H.sub (by repeat (first | exact List.Sublist.refl _ | exact List.nil_sublist _ | apply List.Sublist.cons_cons | apply List.Sublist.cons))⟩
end Go.Proofs.YtcoicmbjoaonoaaDoor
/-
  math/bits.Mul64 walked (the arithmetic is the library's), cube. No statement is proved here.
-/
namespace Go.Proofs.YtcoicmbjoaonoaaDoor
set_option linter.unusedVariables false
set_option linter.unusedSimpArgs false
open Go.RowKit
set_option maxRecDepth 100000
theorem maskN (a : Nat) (ha : a < 18446744073709551616) : bits .and .u64 (a : Int) 4294967295 = ((a % 4294967296 : Nat) : Int) := by
  have h := bits_and_u64_nat a 4294967295 ha (by omega)
  have e : a &&& 4294967295 = a % 4294967296 := Nat.and_two_pow_sub_one_eq_mod a 32
  rw [e] at h
  exact h
theorem divN (a : Nat) : (a : Int) / 4294967296 = ((a / 4294967296 : Nat) : Int) := by omega
theorem mulN (a b : Nat) : (a : Int) * (b : Int) = ((a * b : Nat) : Int) := (Int.natCast_mul a b).symm
theorem addN (a b : Nat) : (a : Int) + (b : Int) = ((a + b : Nat) : Int) := (Int.natCast_add a b).symm
theorem wrapN (a : Nat) (ha : a < 18446744073709551616) : IntKind.u64.wrap (a : Int) = (a : Int) := by rw [IntKind.wrap_u64]; omega
theorem wrapM (a : Nat) : IntKind.u64.wrap (a : Int) = ((a % 18446744073709551616 : Nat) : Int) := by rw [IntKind.wrap_u64]; omega
set_option maxHeartbeats 1000000 in
theorem Mul64_nat (x y : Nat) (hx : x < 18446744073709551616) (hy : y < 18446744073709551616) (w : World) :
    Calls Tryd.prog 109 #[.int .u64 x, .int .u64 y] w fun e w' => e = .returned (.tuple #[.int .u64 ((x * y / 18446744073709551616 : Nat) : Int), .int .u64 ((x * y % 18446744073709551616 : Nat) : Int)]) ∧ w = w' := by
  obtain ⟨bd, bt, bw, hhi⟩ := Lib.mul64_hi x y hx hy
  have ba := Lib.half_mul_le (a := x / 4294967296) (b := y / 4294967296) (by omega) (by omega)
  have bb := Lib.half_mul_le (a := x / 4294967296) (b := y % 4294967296) (by omega) (by omega)
  have bc := Lib.half_mul_le (a := x % 4294967296) (b := y / 4294967296) (by omega) (by omega)
  have ba' : x / 4294967296 * (y / 4294967296) < 18446744073709551616 := by omega
  have bb' : x / 4294967296 * (y % 4294967296) < 18446744073709551616 := by omega
  have bc' : x % 4294967296 * (y / 4294967296) < 18446744073709551616 := by omega
  have bh1 : x / 4294967296 * (y / 4294967296) + (x / 4294967296 * (y % 4294967296) + x % 4294967296 * (y % 4294967296) / 4294967296) / 4294967296 < 18446744073709551616 := by omega
  have bh : x / 4294967296 * (y / 4294967296) + (x / 4294967296 * (y % 4294967296) + x % 4294967296 * (y % 4294967296) / 4294967296) / 4294967296 + ((x / 4294967296 * (y % 4294967296) + x % 4294967296 * (y % 4294967296) / 4294967296) % 4294967296 + x % 4294967296 * (y / 4294967296)) / 4294967296 < 18446744073709551616 := by omega
  go_enter Tryd.func109, Tryd.ntmps109
  go_wp2
  simp only [maskN x hx, maskN y hy, divN, mulN, addN, wrapN _ bd, wrapN _ bb', wrapN _ bt, maskN _ bt, wrapN _ bc', wrapN _ bw, wrapN _ ba', wrapN _ bh1, wrapN _ bh, wrapM (x * y)]
  rw [hhi]
  go_ret2
  exact ⟨rfl, rfl⟩
end Go.Proofs.YtcoicmbjoaonoaaDoor
