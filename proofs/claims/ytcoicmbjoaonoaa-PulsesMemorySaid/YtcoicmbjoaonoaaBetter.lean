/-
  cube and Better walked. No statement is proved here.
-/
import Derived.Test.YtcoicmbjoaonoaaCube
import Derived.Test.YtcoicmbjoaonoaaParts
namespace Go.Proofs.Ytcoicmbjoaonoaa
open Go.RowKit
theorem Mul64_int (x y : Int) (w : World) (hx : 0 ≤ x ∧ x < 18446744073709551616) (hy : 0 ≤ y ∧ y < 18446744073709551616) :
    Calls Try.prog 54 #[.int .u64 x, .int .u64 y] w fun e w' => e = .returned (.tuple #[.int .u64 (x * y / 18446744073709551616), .int .u64 (x * y % 18446744073709551616)]) ∧ w = w' := by
  obtain ⟨n, rfl⟩ := Int.eq_ofNat_of_zero_le hx.1
  obtain ⟨m, rfl⟩ := Int.eq_ofNat_of_zero_le hy.1
  have h := Mul64_nat n m (by omega) (by omega) w
  have e1 : ((n * m / 18446744073709551616 : Nat) : Int) = (n : Int) * m / 18446744073709551616 := by rw [Int.natCast_ediv, Int.natCast_mul]; rfl
  have e2 : ((n * m % 18446744073709551616 : Nat) : Int) = (n : Int) * m % 18446744073709551616 := by rw [Int.natCast_emod, Int.natCast_mul]; rfl
  rw [e1, e2] at h
  exact h
theorem Add64_run (x y : Int) (w : World) (hx : 0 ≤ x) (hy : 0 ≤ y) :
    (callFunc 55 #[.int .u64 x, .int .u64 y, .int .u64 0]).run Try.prog w = .ok (.value (.tuple #[.int .u64 ((x + y) % 18446744073709551616), .int .u64 ((x + y) / 18446744073709551616)])) w := by
  have h := run_callFunc_extern (P := Try.prog) (f := 55) (fn := _) (e := add64Entry) rfl (by kernel_rfl) (by kernel_rfl) (by kernel_rfl) (by kernel_rfl) #[.int .u64 x, .int .u64 y, .int .u64 0] w
  rw [h, run_add64 x y 0 hx hy (by omega) (by omega)]
  simp [Result.andThen]
/-- A number of 192 bits as three words. -/
def words (n : Int) : Array Value := #[.int .u64 (n / 340282366920938463463374607431768211456), .int .u64 (n / 18446744073709551616 % 18446744073709551616), .int .u64 (n % 18446744073709551616)]
set_option maxHeartbeats 1600000 in
theorem cube_in (c f h l p1 p0 q1 q0 m k : Int) (w : World) (hs : 0 ≤ q1 + k ∧ q1 + k < 18446744073709551616) 
    (e1 : ∀ w : World, Calls Try.prog 54 #[.int .u64 c, .int .u64 c] w fun e w' => e = .returned (.tuple #[.int .u64 h, .int .u64 l]) ∧ w = w')
    (e2 : ∀ w : World, Calls Try.prog 54 #[.int .u64 l, .int .u64 f] w fun e w' => e = .returned (.tuple #[.int .u64 p1, .int .u64 p0]) ∧ w = w')
    (e3 : ∀ w : World, Calls Try.prog 54 #[.int .u64 h, .int .u64 f] w fun e w' => e = .returned (.tuple #[.int .u64 q1, .int .u64 q0]) ∧ w = w')
    (e4 : ∀ w : World, (callFunc 55 #[.int .u64 p1, .int .u64 q0, .int .u64 0]).run Try.prog w = .ok (.value (.tuple #[.int .u64 m, .int .u64 k])) w) :
    Calls Try.prog 49 #[.int .u64 c, .int .u64 f] w fun e w' => e = .returned (.agg #[.int .u64 (q1 + k), .int .u64 m, .int .u64 p0]) ∧ Below w.heap.size w w' := by
  have H := Has.start w
  have E1 := Lib.hid e1; clear e1
  have E2 := Lib.hid e2; clear e2
  have E3 := Lib.hid e3; clear e3
  have sm : IntKind.u64.wrap (q1 + k) = q1 + k := by rw [IntKind.wrap_u64]; omega
  go_enter Try.func49, Try.ntmps49
  go_wp2_with (first | (refine wpList_on (o := ⟨some 4, .alloc 80, _, _, _, _⟩) rfl (fun K hK => ?_); refine wp_alloc H 80 rfl (z := .agg #[.int .u64 0, .int .u64 0, .int .u64 0]) (by kernel_rfl) ?_; clear H; intro u ga H; refine hK _ _ ?_; clear hK K; try simp only [Value.cells, List.cons_append, List.nil_append] at H) | (go_at_call 54; first | ((with_reducible refine (E1.out _).mono ?_); rintro e w1 ⟨rfl, rfl⟩) | ((with_reducible refine (E2.out _).mono ?_); rintro e w1 ⟨rfl, rfl⟩) | ((with_reducible refine (E3.out _).mono ?_); rintro e w1 ⟨rfl, rfl⟩)) | ((refine wpList_on (o := ⟨_, .store 80 _ _, _, _, _, _⟩) rfl (fun K hK => ?_)); refine wp_store_all (l1 := []) H 80 _ _ rfl rfl rfl (by kernel_rfl) (by simp) (by simp [Value.oneCell']) ?_; clear H; intro u H; refine hK _ _ ?_; clear hK K; try simp only [Value.cells, List.cons_append, List.nil_append] at H))
  refine bodyPost_ret (results_one rfl _ H rfl (by repeat (first | exact List.mem_cons_self | apply List.mem_cons_of_mem | apply List.mem_append_right)) (by kernel_rfl)) rfl ⟨rfl, H.below⟩
theorem cube_words (c f : Int) (hc : 0 ≤ c ∧ c < 18446744073709551616) (hf : 0 ≤ f ∧ f < 18446744073709551616) (w : World) :
    Calls Try.prog 49 #[.int .u64 c, .int .u64 f] w fun e w' => e = .returned (.agg (words (c * c * f))) ∧ Below w.heap.size w w' := by
  have b1 := mul_le_of c c 18446744073709551615 18446744073709551615 hc.1 (by omega) hc.1 (by omega)
  have hh : 0 ≤ c * c / 18446744073709551616 ∧ c * c / 18446744073709551616 ≤ 18446744073709551614 := by omega
  have hl : 0 ≤ c * c % 18446744073709551616 ∧ c * c % 18446744073709551616 < 18446744073709551616 := by omega
  have b2 := mul_le_of (c * c % 18446744073709551616) f 18446744073709551615 18446744073709551615 hl.1 (by omega) hf.1 (by omega)
  have b3 := mul_le_of (c * c / 18446744073709551616) f 18446744073709551614 18446744073709551615 hh.1 hh.2 hf.1 (by omega)
  have key : c * c * f = c * c / 18446744073709551616 * f * 18446744073709551616 + c * c % 18446744073709551616 * f := by
    have e := Int.mul_ediv_add_emod (c * c) 18446744073709551616
    have e' : c * c * f = (18446744073709551616 * (c * c / 18446744073709551616) + c * c % 18446744073709551616) * f := by rw [e]
    rw [e', Int.add_mul, Int.mul_assoc, Int.mul_comm 18446744073709551616]
  have e1 := fun w => Mul64_int c c w hc hc
  have e2 := fun w => Mul64_int (c * c % 18446744073709551616) f w hl hf
  have e3 := fun w => Mul64_int (c * c / 18446744073709551616) f w ⟨hh.1, by omega⟩ hf
  generalize c * c % 18446744073709551616 = l at *
  generalize c * c / 18446744073709551616 = h at *
  generalize c * c * f = n at *
  generalize l * f = p at *
  generalize h * f = q at *
  have e4 := fun w => Add64_run (p / 18446744073709551616) (q % 18446744073709551616) w (by omega) (by omega)
  have := cube_in c f h l _ _ _ _ _ _ w (by omega) e1 e2 e3 e4
  refine this.mono fun e w' ⟨h1, h2⟩ => ⟨?_, h2⟩
  rw [h1]
  unfold words
  rw [show q / 18446744073709551616 + (p / 18446744073709551616 + q % 18446744073709551616) / 18446744073709551616 = n / 340282366920938463463374607431768211456 by omega,
    show (p / 18446744073709551616 + q % 18446744073709551616) % 18446744073709551616 = n / 18446744073709551616 % 18446744073709551616 by omega,
    show p % 18446744073709551616 = n % 18446744073709551616 by omega]
/-- Is c * c / e greater than d * d / f? -/
def betterB (c e d f : Int) : Bool := if e ≤ 0 ∨ f ≤ 0 then decide (0 < e) else decide (max d 0 * max d 0 * e < max c 0 * max c 0 * f)
def wordF (n : Int) (i : Nat) : Int := if i = 0 then n / 340282366920938463463374607431768211456 else if i = 1 then n / 18446744073709551616 % 18446744073709551616 else n % 18446744073709551616
theorem words_one (n : Int) : (words n).all (·.oneCell') = true := by simp [words, Value.oneCell']
theorem words_get (n : Int) {i : Nat} (h : i < 3) : (words n)[i]? = some (.int .u64 (wordF n i)) := by
  have : i = 0 ∨ i = 1 ∨ i = 2 := by omega
  rcases this with rfl | rfl | rfl <;> simp [words, wordF]
/-- The first word that differs decides. -/
theorem words_lt {x y : Int} (hx : 0 ≤ x) (hy : 0 ≤ y) {i : Nat} (hi : i < 3) (hsame : ∀ j, j < i → wordF x j = wordF y j) (hne : wordF x i ≠ wordF y i) : decide (wordF y i < wordF x i) = decide (y < x) := by
  have h0 := hsame 0
  have h1 := hsame 1
  have : i = 0 ∨ i = 1 ∨ i = 2 := by omega
  apply decide_eq_decide.2
  rcases this with rfl | rfl | rfl <;> simp only [wordF, if_true, if_false] at * <;> simp at h0 h1 hne ⊢ <;> omega
theorem words_same {x y : Int} (h : ∀ j, j < 3 → wordF x j = wordF y j) : x = y := by
  have h0 := h 0 (by omega)
  have h1 := h 1 (by omega)
  have h2 := h 2 (by omega)
  simp [wordF] at h0 h1 h2
  omega
theorem u64_of {x : Int} (h0 : 0 ≤ x) (h : x ≤ 9223372036854775807) : IntKind.u64.wrap x = x := by rw [IntKind.wrap_u64]; omega
set_option maxHeartbeats 1600000 in
theorem Better_loop (c e d f x y : Int) (w : World) (hx : 0 ≤ x) (hy : 0 ≤ y) (C D : Int) (hC : (if c < 0 then 0 else c) = C) (hD : (if d < 0 then 0 else d) = D) (he : 1 ≤ e ∧ e ≤ 9223372036854775807) (hf : 1 ≤ f ∧ f ≤ 9223372036854775807)
    (uC : IntKind.u64.wrap C = C) (uD : IntKind.u64.wrap D = D)
    (e1 : ∀ w : World, Calls Try.prog 49 #[.int .u64 C, .int .u64 f] w fun e w' => e = .returned (.agg (words x)) ∧ Below w.heap.size w w')
    (e2 : ∀ w : World, Calls Try.prog 49 #[.int .u64 D, .int .u64 e] w fun e w' => e = .returned (.agg (words y)) ∧ Below w.heap.size w w') :
    Calls Try.prog 37 #[.int .i64 c, .int .i64 e, .int .i64 d, .int .i64 f] w fun r w' => r = .returned (.bool (decide (y < x))) ∧ Below w.heap.size w w' := by
  have H := Has.start w
  have E1 := Lib.hid e1; clear e1
  have E2 := Lib.hid e2; clear e2
  have d1 := le_no (show 0 < e by omega)
  have d2 := le_no (show 0 < f by omega)
  have ue := u64_of (x := e) (by omega) he.2
  have uf := u64_of (x := f) (by omega) hf.2
  go_enter Try.func37, Try.ntmps37
  go_wp2_with (first | (refine wpList_on (o := ⟨some 9, .alloc 80, _, _, _, _⟩) rfl (fun K hK => ?_); refine wp_alloc H 80 rfl (z := .agg #[.int .u64 0, .int .u64 0, .int .u64 0]) (by kernel_rfl) ?_; clear H; intro u gx H; refine hK _ _ ?_; clear hK K; try simp only [Value.cells, List.cons_append, List.nil_append] at H) | (refine wpList_on (o := ⟨some 10, .alloc 80, _, _, _, _⟩) rfl (fun K hK => ?_); refine wp_alloc H 80 rfl (z := .agg #[.int .u64 0, .int .u64 0, .int .u64 0]) (by kernel_rfl) ?_; clear H; intro u gy H; refine hK _ _ ?_; clear hK K; try simp only [Value.cells, List.cons_append, List.nil_append] at H) | (go_at_call 49; first | ((with_reducible refine (E1.out _).mono ?_); rintro r w1 ⟨rfl, hb⟩; replace H := H.callee hb; clear hb) | ((with_reducible refine (E2.out _).mono ?_); rintro r w1 ⟨rfl, hb⟩; replace H := H.callee hb; clear hb)) | ((refine wpList_on (o := ⟨_, .store 80 _ _, _, _, _, _⟩) rfl (fun K hK => ?_)); refine wp_store_all (l1 := [_]) H 80 _ _ rfl rfl rfl (by kernel_rfl) rfl (words_one _) ?_; clear H; intro u H; refine hK _ _ ?_; clear hK K; try simp only [Value.cells, List.cons_append, List.nil_append] at H) | ((refine wpList_on (o := ⟨_, .store 80 _ _, _, _, _, _⟩) rfl (fun K hK => ?_)); refine wp_store_all (l1 := []) H 80 _ _ rfl rfl rfl (by kernel_rfl) rfl (words_one _) ?_; clear H; intro u H; refine hK _ _ ?_; clear hK K; try simp only [Value.cells, List.cons_append, List.nil_append] at H))
  go_loopw [32] (fun i wr => ∃ k : Nat, k ≤ 3 ∧ i = .int .i64 k ∧ Hid (∀ j, j < k → wordF x j = wordF y j) ∧ Has w wr [(gy, 80, words y), (gx, 80, words x)]) (fun i _ => 3 - (intOf i).toNat)
  case atStart => exact ⟨0, by omega, rfl, fun j hj => by omega, H⟩
  clear H
  case round =>
    clear d1 d2 ue uf uC uD E1 E2 hC hD
    obtain ⟨k, hk, rfl, HS, H⟩ := hrel
    by_cases hlt : k < 3
    · have s5 : (k : Int) < 3 := by omega
      have s6 : (0 : Int) ≤ (k : Int) := by omega
      by_cases hq : wordF x k = wordF y k
      · have HQ := Lib.hid hq
        have b1 : (wordF x k != wordF y k) = false := by rw [hq]; simp
        clear hq
        go_wp2_with fail
        refine wp_region_text [] (by kernel_rfl) (by kernel_rfl) (by kernel_rfl) ?_; replace H := H.drew; generalize World.drew _ = u at *
        repeat (first | (refine ones_load_one (o := ⟨_, .load 78 _, _, _, _, _⟩) H 78 _ rfl rfl rfl rfl (by repeat (first | exact List.mem_cons_self | apply List.mem_cons_of_mem | apply List.mem_append_right)) (by kernel_rfl) (words_get _ hlt) ?_; simp only [Act.put, List.setIfInBounds_toArray, List.set_cons_zero, List.set_cons_succ]) | (refine ones_free (v := ?_) rfl rfl ?_ ?_; rotate_left; (intro w'; go_simp; try with_reducible rfl); simp only [Act.put, List.setIfInBounds_toArray, List.set_cons_zero, List.set_cons_succ]))
        refine ones_nil ?_
        go_wp2
        go_roundw
        case rel => exact ⟨k + 1, by omega, by go_num, fun j hj => by
          by_cases e0 : j = k
          · subst e0; exact HQ.out
          · exact HS.out j (by omega), H⟩
        case measure => simp [intOf]; omega
      · have HL : Hid (decide (wordF y k < wordF x k) = decide (y < x)) := words_lt hx hy hlt HS.out hq
        have b1 : (wordF x k != wordF y k) = true := by simpa using hq
        clear hq
        go_wp2_with fail
        refine wp_region_text [] (by kernel_rfl) (by kernel_rfl) (by kernel_rfl) ?_; replace H := H.drew; generalize World.drew _ = u at *
        repeat (first | (refine ones_load_one (o := ⟨_, .load 78 _, _, _, _, _⟩) H 78 _ rfl rfl rfl rfl (by repeat (first | exact List.mem_cons_self | apply List.mem_cons_of_mem | apply List.mem_append_right)) (by kernel_rfl) (words_get _ hlt) ?_; simp only [Act.put, List.setIfInBounds_toArray, List.set_cons_zero, List.set_cons_succ]) | (refine ones_free (v := ?_) rfl rfl ?_ ?_; rotate_left; (intro w'; go_simp; try with_reducible rfl); simp only [Act.put, List.setIfInBounds_toArray, List.set_cons_zero, List.set_cons_succ]))
        refine ones_nil ?_
        go_wp2
        refine wp_region_text [] (by kernel_rfl) (by kernel_rfl) (by kernel_rfl) ?_; replace H := H.drew; generalize World.drew _ = u at *
        repeat (first | (refine ones_load_one (o := ⟨_, .load 78 _, _, _, _, _⟩) H 78 _ rfl rfl rfl rfl (by repeat (first | exact List.mem_cons_self | apply List.mem_cons_of_mem | apply List.mem_append_right)) (by kernel_rfl) (words_get _ hlt) ?_; simp only [Act.put, List.setIfInBounds_toArray, List.set_cons_zero, List.set_cons_succ]) | (refine ones_free (v := ?_) rfl rfl ?_ ?_; rotate_left; (intro w'; go_simp; try with_reducible rfl); simp only [Act.put, List.setIfInBounds_toArray, List.set_cons_zero, List.set_cons_succ]))
        refine ones_nil ?_
        go_wp2
        go_ret
        exact ⟨congrArg (fun b => Ending.returned (.bool b)) HL.out, H.below⟩
    · obtain rfl : k = 3 := by omega
      have HE : Hid (decide (y < x) = false) := by
        show decide (y < x) = false
        rw [words_same HS.out]; simp
      go_wp2
      go_ret
      exact ⟨by rw [HE.out]; rfl, H.below⟩
theorem Better_any (c e d f : Int) (w : World) (hc : c ≤ 9223372036854775807) (he : e ≤ 9223372036854775807) (hd : d ≤ 9223372036854775807) (hf : f ≤ 9223372036854775807) :
    Calls Try.prog 37 #[.int .i64 c, .int .i64 e, .int .i64 d, .int .i64 f] w fun r w' => r = .returned (.bool (betterB c e d f)) ∧ Below w.heap.size w w' := by
  by_cases h : e ≤ 0 ∨ f ≤ 0
  · have HB : Hid (betterB c e d f = decide (0 < e)) := if_pos h
    have H := Has.start w
    by_cases h1 : e ≤ 0
    · have d1 := le_yes h1
      have d2 := lt_no h1
      go_enter Try.func37, Try.ntmps37
      go_wp2
      go_ret
      exact ⟨by rw [HB.out, d2]; rfl, H.below⟩
    · have d1 := le_no (show 0 < e by omega)
      have d2 := le_yes (show f ≤ 0 by omega)
      have d3 := lt_yes (show 0 < e by omega)
      go_enter Try.func37, Try.ntmps37
      go_wp2
      go_ret
      exact ⟨by rw [HB.out, d3]; rfl, H.below⟩
  · rw [show betterB c e d f = decide (max d 0 * max d 0 * e < max c 0 * max c 0 * f) from if_neg h]
    have eC : (if c < 0 then 0 else c) = max c 0 := by split <;> omega
    have eD : (if d < 0 then 0 else d) = max d 0 := by split <;> omega
    have bC : 0 ≤ max c 0 ∧ max c 0 ≤ 9223372036854775807 := by omega
    have bD : 0 ≤ max d 0 ∧ max d 0 ≤ 9223372036854775807 := by omega
    generalize max c 0 = C at *
    generalize max d 0 = D at *
    exact Better_loop c e d f (C * C * f) (D * D * e) w (Int.mul_nonneg (Int.mul_nonneg bC.1 bC.1) (by omega)) (Int.mul_nonneg (Int.mul_nonneg bD.1 bD.1) (by omega)) C D eC eD (by omega) (by omega) (u64_of bC.1 bC.2) (u64_of bD.1 bD.2)
      (fun w => cube_words C f (by omega) (by omega) w) (fun w => cube_words D e (by omega) (by omega) w)
end Go.Proofs.Ytcoicmbjoaonoaa
