/-
  Several texts of this claim, one behind the other: Better, BestLaw, PickR, Fold, EncB. No statement is proved here.
-/
import Derived.Test.YtcoicmbjoaonoaaDoorZau
import Derived.Test.YtcoicmbjoaonoaaDoorZac
import Derived.Test.YtcoicmbjoaonoaaDoorZai
import Derived.Test.YtcoicmbjoaonoaaDoorZad
import Derived.Test.YtcoicmbjoaonoaaDoorZag
import Derived.Test.YtcoicmbjoaonoaaDoorZas
import Derived.Test.YtcoicmbjoaonoaaDoorZal
/-
  cube and Better walked. No statement is proved here.
-/
namespace Go.Proofs.YtcoicmbjoaonoaaDoor
set_option linter.unusedVariables false
set_option linter.unusedSimpArgs false
open Go.RowKit
set_option maxRecDepth 100000
theorem Mul64_int (x y : Int) (w : World) (hx : 0 ≤ x ∧ x < 18446744073709551616) (hy : 0 ≤ y ∧ y < 18446744073709551616) :
    Calls Tryd.prog 109 #[.int .u64 x, .int .u64 y] w fun e w' => e = .returned (.tuple #[.int .u64 (x * y / 18446744073709551616), .int .u64 (x * y % 18446744073709551616)]) ∧ w = w' := by
  obtain ⟨n, rfl⟩ := Int.eq_ofNat_of_zero_le hx.1
  obtain ⟨m, rfl⟩ := Int.eq_ofNat_of_zero_le hy.1
  have h := Mul64_nat n m (by omega) (by omega) w
  have e1 : ((n * m / 18446744073709551616 : Nat) : Int) = (n : Int) * m / 18446744073709551616 := by rw [Int.natCast_ediv, Int.natCast_mul]; rfl
  have e2 : ((n * m % 18446744073709551616 : Nat) : Int) = (n : Int) * m % 18446744073709551616 := by rw [Int.natCast_emod, Int.natCast_mul]; rfl
  rw [e1, e2] at h
  exact h
theorem Add64_run (x y : Int) (w : World) (hx : 0 ≤ x) (hy : 0 ≤ y) :
    (callFunc 110 #[.int .u64 x, .int .u64 y, .int .u64 0]).run Tryd.prog w = .ok (.value (.tuple #[.int .u64 ((x + y) % 18446744073709551616), .int .u64 ((x + y) / 18446744073709551616)])) w := by
  have h := run_callFunc_extern (P := Tryd.prog) (f := 110) (fn := _) (e := add64Entry) rfl (by kernel_rfl) (by kernel_rfl) (by kernel_rfl) (by kernel_rfl) #[.int .u64 x, .int .u64 y, .int .u64 0] w
  rw [h, run_add64 x y 0 hx hy (by omega) (by omega)]
  simp [Result.andThen]
/-- A number of 192 bits as three words. -/
def words (n : Int) : Array Value := #[.int .u64 (n / 340282366920938463463374607431768211456), .int .u64 (n / 18446744073709551616 % 18446744073709551616), .int .u64 (n % 18446744073709551616)]
set_option maxHeartbeats 1600000 in
theorem cube_in (c f h l p1 p0 q1 q0 m k : Int) (w : World) (hs : 0 ≤ q1 + k ∧ q1 + k < 18446744073709551616) 
    (e1 : ∀ w : World, Calls Tryd.prog 109 #[.int .u64 c, .int .u64 c] w fun e w' => e = .returned (.tuple #[.int .u64 h, .int .u64 l]) ∧ w = w')
    (e2 : ∀ w : World, Calls Tryd.prog 109 #[.int .u64 l, .int .u64 f] w fun e w' => e = .returned (.tuple #[.int .u64 p1, .int .u64 p0]) ∧ w = w')
    (e3 : ∀ w : World, Calls Tryd.prog 109 #[.int .u64 h, .int .u64 f] w fun e w' => e = .returned (.tuple #[.int .u64 q1, .int .u64 q0]) ∧ w = w')
    (e4 : ∀ w : World, (callFunc 110 #[.int .u64 p1, .int .u64 q0, .int .u64 0]).run Tryd.prog w = .ok (.value (.tuple #[.int .u64 m, .int .u64 k])) w) :
    Calls Tryd.prog 105 #[.int .u64 c, .int .u64 f] w fun e w' => e = .returned (.agg #[.int .u64 (q1 + k), .int .u64 m, .int .u64 p0]) ∧ Below w.heap.size w w' := by
  have H := Has.start w
  have E1 := Lib.hid e1; clear e1
  have E2 := Lib.hid e2; clear e2
  have E3 := Lib.hid e3; clear e3
  have sm : IntKind.u64.wrap (q1 + k) = q1 + k := by rw [IntKind.wrap_u64]; omega
  go_enter Tryd.func105, Tryd.ntmps105
  go_wp2_with (first | (refine wpList_on (o := ⟨some 4, .alloc 149, _, _, _, _⟩) rfl (fun K hK => ?_); refine wp_alloc H 149 rfl (z := .agg #[.int .u64 0, .int .u64 0, .int .u64 0]) (by kernel_rfl) ?_; clear H; intro u ga H; refine hK _ _ ?_; clear hK K; try simp only [Value.cells, List.cons_append, List.nil_append] at H) | (go_at_call 109; first | ((with_reducible refine (E1.out _).mono ?_); rintro e w1 ⟨rfl, rfl⟩) | ((with_reducible refine (E2.out _).mono ?_); rintro e w1 ⟨rfl, rfl⟩) | ((with_reducible refine (E3.out _).mono ?_); rintro e w1 ⟨rfl, rfl⟩)) | ((refine wpList_on (o := ⟨_, .store 149 _ _, _, _, _, _⟩) rfl (fun K hK => ?_)); (try simp only [Act.put, List.setIfInBounds_toArray, List.set_cons_zero, List.set_cons_succ]); refine wp_store_all (l1 := []) H 149 _ _ rfl rfl rfl (by kernel_rfl) (by simp) (by simp [Value.oneCell']) ?_; clear H; intro u H; refine hK _ _ ?_; clear hK K; try simp only [Value.cells, List.cons_append, List.nil_append] at H))
  refine bodyPost_ret (results_one rfl _ H rfl (by repeat (first | exact List.mem_cons_self | apply List.mem_cons_of_mem | apply List.mem_append_right)) (by kernel_rfl)) rfl ⟨rfl, H.below⟩
theorem cube_words (c f : Int) (hc : 0 ≤ c ∧ c < 18446744073709551616) (hf : 0 ≤ f ∧ f < 18446744073709551616) (w : World) :
    Calls Tryd.prog 105 #[.int .u64 c, .int .u64 f] w fun e w' => e = .returned (.agg (words (c * c * f))) ∧ Below w.heap.size w w' := by
  have b1 := mul_le_of c c 18446744073709551615 18446744073709551615 hc.1 (by omega) hc.1 (by omega)
  have hh : 0 ≤ c * c / 18446744073709551616 ∧ c * c / 18446744073709551616 ≤ 18446744073709551614 := by omega
  have hl : 0 ≤ c * c % 18446744073709551616 ∧ c * c % 18446744073709551616 < 18446744073709551616 := by omega
  have b2 := mul_le_of (c * c % 18446744073709551616) f 18446744073709551615 18446744073709551615 hl.1 (by omega) hf.1 (by omega)
  have b3 := mul_le_of (c * c / 18446744073709551616) f 18446744073709551614 18446744073709551615 hh.1 hh.2 hf.1 (by omega)
  have key : c * c * f = c * c / 18446744073709551616 * f * 18446744073709551616 + c * c % 18446744073709551616 * f := by
    have e := Int.mul_ediv_add_emod (c * c) 18446744073709551616
    have e' : c * c * f = (18446744073709551616 * (c * c / 18446744073709551616) + c * c % 18446744073709551616) * f := by rw [e]
    rw [e', Int.add_mul, Int.mul_assoc, Int.mul_comm 18446744073709551616]
  have e1 := fun w => Mul64_int c c w hc hc
  have e2 := fun w => Mul64_int (c * c % 18446744073709551616) f w hl hf
  have e3 := fun w => Mul64_int (c * c / 18446744073709551616) f w ⟨hh.1, by omega⟩ hf
  generalize c * c % 18446744073709551616 = l at *
  generalize c * c / 18446744073709551616 = h at *
  generalize c * c * f = n at *
  generalize l * f = p at *
  generalize h * f = q at *
  have e4 := fun w => Add64_run (p / 18446744073709551616) (q % 18446744073709551616) w (by omega) (by omega)
  have := cube_in c f h l _ _ _ _ _ _ w (by omega) e1 e2 e3 e4
  refine this.mono fun e w' ⟨h1, h2⟩ => ⟨?_, h2⟩
  rw [h1]
  unfold words
  rw [show q / 18446744073709551616 + (p / 18446744073709551616 + q % 18446744073709551616) / 18446744073709551616 = n / 340282366920938463463374607431768211456 by omega,
    show (p / 18446744073709551616 + q % 18446744073709551616) % 18446744073709551616 = n / 18446744073709551616 % 18446744073709551616 by omega,
    show p % 18446744073709551616 = n % 18446744073709551616 by omega]
/-- Is c * c / e greater than d * d / f? -/
def betterB (c e d f : Int) : Bool := if e ≤ 0 ∨ f ≤ 0 then decide (0 < e) else decide (max d 0 * max d 0 * e < max c 0 * max c 0 * f)
def wordF (n : Int) (i : Nat) : Int := if i = 0 then n / 340282366920938463463374607431768211456 else if i = 1 then n / 18446744073709551616 % 18446744073709551616 else n % 18446744073709551616
theorem words_one (n : Int) : (words n).all (·.oneCell') = true := by simp [words, Value.oneCell']
theorem words_get (n : Int) {i : Nat} (h : i < 3) : (words n)[i]? = some (.int .u64 (wordF n i)) := by
  have : i = 0 ∨ i = 1 ∨ i = 2 := by omega
  rcases this with rfl | rfl | rfl <;> simp [words, wordF]
/-- The first word that differs decides. -/
theorem words_lt {x y : Int} (hx : 0 ≤ x) (hy : 0 ≤ y) {i : Nat} (hi : i < 3) (hsame : ∀ j, j < i → wordF x j = wordF y j) (hne : wordF x i ≠ wordF y i) : decide (wordF y i < wordF x i) = decide (y < x) := by
  have h0 := hsame 0
  have h1 := hsame 1
  have : i = 0 ∨ i = 1 ∨ i = 2 := by omega
  apply decide_eq_decide.2
  rcases this with rfl | rfl | rfl <;> simp only [wordF, if_true, if_false] at * <;> simp at h0 h1 hne ⊢ <;> omega
theorem words_same {x y : Int} (h : ∀ j, j < 3 → wordF x j = wordF y j) : x = y := by
  have h0 := h 0 (by omega)
  have h1 := h 1 (by omega)
  have h2 := h 2 (by omega)
  simp [wordF] at h0 h1 h2
  omega
theorem u64_of {x : Int} (h0 : 0 ≤ x) (h : x ≤ 9223372036854775807) : IntKind.u64.wrap x = x := by rw [IntKind.wrap_u64]; omega
set_option maxHeartbeats 1600000 in
theorem Better_loop (c e d f x y : Int) (w : World) (hx : 0 ≤ x) (hy : 0 ≤ y) (C D : Int) (hC : (if c < 0 then 0 else c) = C) (hD : (if d < 0 then 0 else d) = D) (he : 1 ≤ e ∧ e ≤ 9223372036854775807) (hf : 1 ≤ f ∧ f ≤ 9223372036854775807)
    (uC : IntKind.u64.wrap C = C) (uD : IntKind.u64.wrap D = D)
    (e1 : ∀ w : World, Calls Tryd.prog 105 #[.int .u64 C, .int .u64 f] w fun e w' => e = .returned (.agg (words x)) ∧ Below w.heap.size w w')
    (e2 : ∀ w : World, Calls Tryd.prog 105 #[.int .u64 D, .int .u64 e] w fun e w' => e = .returned (.agg (words y)) ∧ Below w.heap.size w w') :
    Calls Tryd.prog 95 #[.int .i64 c, .int .i64 e, .int .i64 d, .int .i64 f] w fun r w' => r = .returned (.bool (decide (y < x))) ∧ Below w.heap.size w w' := by
  have H := Has.start w
  have E1 := Lib.hid e1; clear e1
  have E2 := Lib.hid e2; clear e2
  have d1 := le_no (show 0 < e by omega)
  have d2 := le_no (show 0 < f by omega)
  have ue := u64_of (x := e) (by omega) he.2
  have uf := u64_of (x := f) (by omega) hf.2
  go_enter Tryd.func95, Tryd.ntmps95
  go_wp2_with (first | (refine wpList_on (o := ⟨some 9, .alloc 149, _, _, _, _⟩) rfl (fun K hK => ?_); refine wp_alloc H 149 rfl (z := .agg #[.int .u64 0, .int .u64 0, .int .u64 0]) (by kernel_rfl) ?_; clear H; intro u gx H; refine hK _ _ ?_; clear hK K; try simp only [Value.cells, List.cons_append, List.nil_append] at H) | (refine wpList_on (o := ⟨some 10, .alloc 149, _, _, _, _⟩) rfl (fun K hK => ?_); refine wp_alloc H 149 rfl (z := .agg #[.int .u64 0, .int .u64 0, .int .u64 0]) (by kernel_rfl) ?_; clear H; intro u gy H; refine hK _ _ ?_; clear hK K; try simp only [Value.cells, List.cons_append, List.nil_append] at H) | (go_at_call 105; first | ((with_reducible refine (E1.out _).mono ?_); rintro r w1 ⟨rfl, hb⟩; replace H := H.callee hb; clear hb) | ((with_reducible refine (E2.out _).mono ?_); rintro r w1 ⟨rfl, hb⟩; replace H := H.callee hb; clear hb)) | ((refine wpList_on (o := ⟨_, .store 149 _ _, _, _, _, _⟩) rfl (fun K hK => ?_)); (try simp only [Act.put, List.setIfInBounds_toArray, List.set_cons_zero, List.set_cons_succ]); refine wp_store_all (l1 := [_]) H 149 _ _ rfl rfl rfl (by kernel_rfl) rfl (words_one _) ?_; clear H; intro u H; refine hK _ _ ?_; clear hK K; try simp only [Value.cells, List.cons_append, List.nil_append] at H) | ((refine wpList_on (o := ⟨_, .store 149 _ _, _, _, _, _⟩) rfl (fun K hK => ?_)); (try simp only [Act.put, List.setIfInBounds_toArray, List.set_cons_zero, List.set_cons_succ]); refine wp_store_all (l1 := []) H 149 _ _ rfl rfl rfl (by kernel_rfl) rfl (words_one _) ?_; clear H; intro u H; refine hK _ _ ?_; clear hK K; try simp only [Value.cells, List.cons_append, List.nil_append] at H))
  go_loopw [32] (fun i wr => ∃ k : Nat, k ≤ 3 ∧ i = .int .i64 k ∧ Hid (∀ j, j < k → wordF x j = wordF y j) ∧ Has w wr [(gy, 149, words y), (gx, 149, words x)]) (fun i _ => 3 - (intOf i).toNat)
  case atStart => exact ⟨0, by omega, rfl, fun j hj => by omega, H⟩
  clear H
  case round =>
    clear d1 d2 ue uf uC uD E1 E2 hC hD
    obtain ⟨k, hk, rfl, HS, H⟩ := hrel
    by_cases hlt : k < 3
    · have s5 : (k : Int) < 3 := by omega
      have s6 : (0 : Int) ≤ (k : Int) := by omega
      by_cases hq : wordF x k = wordF y k
      · have HQ := Lib.hid hq
        have b1 : (wordF x k != wordF y k) = false := by rw [hq]; simp
        clear hq
        go_wp2_with fail
        refine wp_region_text [] (by kernel_rfl) (by kernel_rfl) (by kernel_rfl) ?_; replace H := H.drew; generalize World.drew _ = u at *
        repeat (first | (refine ones_load_one (o := ⟨_, .load 147 _, _, _, _, _⟩) H 147 _ rfl rfl rfl rfl (by repeat (first | exact List.mem_cons_self | apply List.mem_cons_of_mem | apply List.mem_append_right)) (by kernel_rfl) (words_get _ hlt) ?_; simp only [Act.put, List.setIfInBounds_toArray, List.set_cons_zero, List.set_cons_succ]) | (refine ones_free (v := ?_) rfl rfl ?_ ?_; rotate_left; (intro w'; go_simp; try with_reducible rfl); simp only [Act.put, List.setIfInBounds_toArray, List.set_cons_zero, List.set_cons_succ]))
        refine ones_nil ?_
        go_wp2
        go_roundw
        case rel => exact ⟨k + 1, by omega, by go_num, fun j hj => by
          by_cases e0 : j = k
          · subst e0; exact HQ.out
          · exact HS.out j (by omega), H⟩
        case measure => simp [intOf]; omega
      · have HL : Hid (decide (wordF y k < wordF x k) = decide (y < x)) := words_lt hx hy hlt HS.out hq
        have b1 : (wordF x k != wordF y k) = true := by simpa using hq
        clear hq
        go_wp2_with fail
        refine wp_region_text [] (by kernel_rfl) (by kernel_rfl) (by kernel_rfl) ?_; replace H := H.drew; generalize World.drew _ = u at *
        repeat (first | (refine ones_load_one (o := ⟨_, .load 147 _, _, _, _, _⟩) H 147 _ rfl rfl rfl rfl (by repeat (first | exact List.mem_cons_self | apply List.mem_cons_of_mem | apply List.mem_append_right)) (by kernel_rfl) (words_get _ hlt) ?_; simp only [Act.put, List.setIfInBounds_toArray, List.set_cons_zero, List.set_cons_succ]) | (refine ones_free (v := ?_) rfl rfl ?_ ?_; rotate_left; (intro w'; go_simp; try with_reducible rfl); simp only [Act.put, List.setIfInBounds_toArray, List.set_cons_zero, List.set_cons_succ]))
        refine ones_nil ?_
        go_wp2
        refine wp_region_text [] (by kernel_rfl) (by kernel_rfl) (by kernel_rfl) ?_; replace H := H.drew; generalize World.drew _ = u at *
        repeat (first | (refine ones_load_one (o := ⟨_, .load 147 _, _, _, _, _⟩) H 147 _ rfl rfl rfl rfl (by repeat (first | exact List.mem_cons_self | apply List.mem_cons_of_mem | apply List.mem_append_right)) (by kernel_rfl) (words_get _ hlt) ?_; simp only [Act.put, List.setIfInBounds_toArray, List.set_cons_zero, List.set_cons_succ]) | (refine ones_free (v := ?_) rfl rfl ?_ ?_; rotate_left; (intro w'; go_simp; try with_reducible rfl); simp only [Act.put, List.setIfInBounds_toArray, List.set_cons_zero, List.set_cons_succ]))
        refine ones_nil ?_
        go_wp2
        go_ret
        exact ⟨congrArg (fun b => Ending.returned (.bool b)) HL.out, H.below⟩
    · obtain rfl : k = 3 := by omega
      have HE : Hid (decide (y < x) = false) := by
        show decide (y < x) = false
        rw [words_same HS.out]; simp
      go_wp2
      go_ret
      exact ⟨by rw [HE.out]; rfl, H.below⟩
theorem Better_any (c e d f : Int) (w : World) (hc : c ≤ 9223372036854775807) (he : e ≤ 9223372036854775807) (hd : d ≤ 9223372036854775807) (hf : f ≤ 9223372036854775807) :
    Calls Tryd.prog 95 #[.int .i64 c, .int .i64 e, .int .i64 d, .int .i64 f] w fun r w' => r = .returned (.bool (betterB c e d f)) ∧ Below w.heap.size w w' := by
  by_cases h : e ≤ 0 ∨ f ≤ 0
  · have HB : Hid (betterB c e d f = decide (0 < e)) := if_pos h
    have H := Has.start w
    by_cases h1 : e ≤ 0
    · have d1 := le_yes h1
      have d2 := lt_no h1
      go_enter Tryd.func95, Tryd.ntmps95
      go_wp2
      go_ret
      exact ⟨by rw [HB.out, d2]; rfl, H.below⟩
    · have d1 := le_no (show 0 < e by omega)
      have d2 := le_yes (show f ≤ 0 by omega)
      have d3 := lt_yes (show 0 < e by omega)
      go_enter Tryd.func95, Tryd.ntmps95
      go_wp2
      go_ret
      exact ⟨by rw [HB.out, d3]; rfl, H.below⟩
  · rw [show betterB c e d f = decide (max d 0 * max d 0 * e < max c 0 * max c 0 * f) from if_neg h]
    have eC : (if c < 0 then 0 else c) = max c 0 := by split <;> omega
    have eD : (if d < 0 then 0 else d) = max d 0 := by split <;> omega
    have bC : 0 ≤ max c 0 ∧ max c 0 ≤ 9223372036854775807 := by omega
    have bD : 0 ≤ max d 0 ∧ max d 0 ≤ 9223372036854775807 := by omega
    generalize max c 0 = C at *
    generalize max d 0 = D at *
    exact Better_loop c e d f (C * C * f) (D * D * e) w (Int.mul_nonneg (Int.mul_nonneg bC.1 bC.1) (by omega)) (Int.mul_nonneg (Int.mul_nonneg bD.1 bD.1) (by omega)) C D eC eD (by omega) (by omega) (u64_of bC.1 bC.2) (u64_of bD.1 bD.2)
      (fun w => cube_words C f (by omega) (by omega) w) (fun w => cube_words D e (by omega) (by omega) w)
end Go.Proofs.YtcoicmbjoaonoaaDoor
/-
  Sums of products, and which one goes best: laws. No statement is proved here.
-/
namespace Go.Proofs.YtcoicmbjoaonoaaDoor
set_option linter.unusedVariables false
set_option linter.unusedSimpArgs false
open Go.RowKit
set_option maxRecDepth 100000
theorem best_self (c e : Int) : betterB c e c e = false := by
  unfold betterB
  split
  · rename_i h; simp; omega
  · simp
theorem best_chain {c e d f g h : Int} (he : 0 < e) (hf : 0 < f) (hh : 0 < h) (h1 : betterB c e d f = true) (h2 : betterB d f g h = true) : betterB c e g h = true := by
  unfold betterB at *
  rw [if_neg (by omega)] at *
  simp only [decide_eq_true_eq] at *
  generalize max c 0 * max c 0 = C at *
  generalize hD : max d 0 * max d 0 = D at *
  have hG0 : 0 ≤ max g 0 * max g 0 := Int.mul_nonneg (by omega) (by omega)
  generalize max g 0 * max g 0 = G at *
  have a1 : D * e * h < C * f * h := Int.mul_lt_mul_of_pos_right h1 hh
  have a2 : G * f * e < D * h * e := Int.mul_lt_mul_of_pos_right h2 he
  have e1 : D * e * h = D * h * e := by rw [Int.mul_assoc, Int.mul_comm e h, ← Int.mul_assoc]
  have e2 : C * f * h = C * h * f := by rw [Int.mul_assoc, Int.mul_comm f h, ← Int.mul_assoc]
  have e3 : G * f * e = G * e * f := by rw [Int.mul_assoc, Int.mul_comm f e, ← Int.mul_assoc]
  have a3 : G * e * f < C * h * f := by omega
  exact Int.lt_of_mul_lt_mul_right a3 (by omega)
def dotF (a b : Nat → Int) (n : Nat) : Int := sumTo n (fun i => a i * b i)
theorem sum_zero_all {f : Nat → Int} : ∀ n : Nat, (∀ i, i < n → 0 ≤ f i) → sumTo n f = 0 → ∀ i, i < n → f i = 0
  | 0, _, _, i, hi => by omega
  | n + 1, h, hs, i, hi => by
    have h1 := sumTo_nonneg n (fun i hi => h i (by omega))
    have h2 := h n (by omega)
    rw [sumTo] at hs
    by_cases e : i = n
    · subst e; omega
    · exact sum_zero_all n (fun i hi => h i (by omega)) (by omega) i (by omega)
theorem dot_nonneg (b : Nat → Int) (n : Nat) : 0 ≤ dotF b b n := sumTo_nonneg n fun i _ => sq_nonneg _
theorem dot_pos {a b : Nat → Int} {n : Nat} (h : 0 < dotF a b n) : 0 < dotF b b n := by
  have h0 := dot_nonneg b n
  by_cases hz : dotF b b n = 0
  · exfalso
    have hall := sum_zero_all n (fun i _ => sq_nonneg (b i)) hz
    have : dotF a b n = 0 := sumTo_zero n fun i hi => by
      have := hall i hi
      have hb : b i = 0 := by
        rcases Int.mul_eq_zero.1 this with h | h <;> exact h
      rw [hb, Int.mul_zero]
    omega
  · omega
theorem dot_bd {a b : Nat → Int} {n : Nat} (ha : ∀ i, i < n → In16 (a i)) (hb : ∀ i, i < n → In16 (b i)) : -(n * 1073741824) ≤ dotF a b n ∧ dotF a b n ≤ n * 1073741824 :=
  sumTo_bd n fun i hi => by
    have h1 := ha i hi
    have h2 := hb i hi
    unfold In16 at h1 h2
    exact mul_bd _ _ 32768 32768 (by omega) (by omega) (by omega) (by omega)
/-- The best one so far. -/
def BestOf (c e : Nat → Int) (k : Nat) (bc be : Int) (best : Nat) : Prop :=
  (bc = 0 ∧ be = 0 ∧ best = 20 ∧ ∀ j, 20 ≤ j → j < k → c j ≤ 0) ∨ (20 ≤ best ∧ best < k ∧ bc = c best ∧ be = e best ∧ 0 < bc ∧ 0 < be ∧ ∀ j, 20 ≤ j → j < k → 0 < c j → betterB (c j) (e j) bc be = false)
theorem best_none (c e : Nat → Int) : BestOf c e 20 0 0 20 := .inl ⟨rfl, rfl, rfl, fun j h1 h2 => by omega⟩
theorem best_skip {c e : Nat → Int} {k : Nat} {bc be : Int} {best : Nat} (h : BestOf c e k bc be best) (hc : c k ≤ 0) : BestOf c e (k + 1) bc be best := by
  rcases h with ⟨h1, h2, h3, h4⟩ | ⟨h1, h2, h3, h4, h5, h6, h7⟩
  · refine .inl ⟨h1, h2, h3, fun j hj hk => ?_⟩
    by_cases e : j = k
    · subst e; exact hc
    · exact h4 j hj (by omega)
  · refine .inr ⟨h1, by omega, h3, h4, h5, h6, fun j hj hk hp => ?_⟩
    by_cases e : j = k
    · subst e; omega
    · exact h7 j hj (by omega) hp
theorem best_keep {c e : Nat → Int} {k : Nat} {bc be : Int} {best : Nat} (h : BestOf c e k bc be best) (hb : be ≠ 0) (hn : betterB (c k) (e k) bc be = false) : BestOf c e (k + 1) bc be best := by
  rcases h with ⟨_, h2, _⟩ | ⟨h1, h2, h3, h4, h5, h6, h7⟩
  · exact absurd h2 hb
  · refine .inr ⟨h1, by omega, h3, h4, h5, h6, fun j hj hk hp => ?_⟩
    by_cases e : j = k
    · subst e; exact hn
    · exact h7 j hj (by omega) hp
theorem best_take {c e : Nat → Int} {k : Nat} {bc be : Int} {best : Nat} (h : BestOf c e k bc be best) (hk : 20 ≤ k) (he : ∀ j, 0 < c j → 0 < e j) (hc : 0 < c k) (hb : be = 0 ∨ betterB (c k) (e k) bc be = true) : BestOf c e (k + 1) (c k) (e k) k := by
  refine .inr ⟨hk, by omega, rfl, rfl, hc, he k hc, fun j hj hlt hp => ?_⟩
  by_cases e0 : j = k
  · subst e0; exact best_self _ _
  · rcases h with ⟨_, _, _, h4⟩ | ⟨h1, h2, h3, h4, h5, h6, h7⟩
    · have := h4 j hj (by omega); omega
    · rcases hb with hb | hb
      · omega
      · by_cases hx : betterB (c j) (e j) (c k) (e k) = true
        · have := best_chain (he j hp) (he k hc) h6 hx hb
          rw [h7 j hj (by omega) hp] at this
          cases this
        · simpa using hx
theorem best_lag {c e : Nat → Int} {k : Nat} {bc be : Int} {best : Nat} (h : BestOf c e k bc be best) (hk : 20 ≤ k) : 20 ≤ best ∧ (best < k ∨ best = 20) ∧ 0 ≤ bc ∧ 0 ≤ be := by
  rcases h with ⟨h1, h2, h3, _⟩ | ⟨h1, h2, h3, h4, h5, h6, _⟩ <;> omega
end Go.Proofs.YtcoicmbjoaonoaaDoor
/-
  pitch: sat, right, dot walked. No statement is proved here.
-/
namespace Go.Proofs.YtcoicmbjoaonoaaDoor
set_option linter.unusedVariables false
set_option linter.unusedSimpArgs false
open Go.RowKit
set_option maxRecDepth 100000
theorem pitchSat_any (x : Int) (w : World) : Calls Tryd.prog 104 #[.int .i64 x] w fun e w' => e = .returned (.int .i64 (sat16 x)) ∧ w = w' := by
  go_enter Tryd.func104, Tryd.ntmps104
  go_wp2_with (go_at_call 87; (with_reducible refine (Sat16_any _ _).mono ?_); rintro e w1 ⟨rfl, rfl⟩)
  go_ret
  exact ⟨rfl, rfl⟩
theorem pitchSat_in (x : Int) (w : World) (h : In16 x) : Calls Tryd.prog 104 #[.int .i64 x] w fun e w' => e = .returned (.int .i64 x) ∧ w = w' := by
  have := pitchSat_any x w
  rw [sat16_in h] at this; exact this
set_option maxHeartbeats 800000 in
theorem pitchRight_l {f : Nat → Int} {n : Nat} {v : Value} {w : World} (hn : n ≤ 9223372036854775807) (hf : ∀ i, i < n → In16 (f i)) (L : Lies w v n f) : Calls Tryd.prog 93 #[v] w fun e w' => e = .returned (.bool true) ∧ w = w' := by
  obtain ⟨P, cap, b, o, rfl, hR⟩ := L
  have HF := Lib.hid hf
  clear hf
  go_enter Tryd.func93, Tryd.ntmps93
  go_wp2
  go_loop [7] (fun c => ∃ k : Nat, k ≤ n ∧ c = .int .i64 k) (fun c => n - (intOf c).toNat)
  case atStart => exact ⟨0, by omega, rfl⟩
  case round =>
    obtain ⟨k, hk, rfl⟩ := hrel
    by_cases hlt : k < n
    · obtain rfl := hR.ptr (by omega)
      have c1 := fun w => pitchSat_in (f k) w (HF.out k hlt)
      have C1 := Lib.hid c1
      clear c1
      go_wp2_with (first | ((refine wpList_on (o := ⟨_, .load 3 _, _, _, _, _⟩) rfl (fun K hK => ?_)); refine wp_load_num hR 3 _ rfl rfl (by kernel_rfl) hlt ?_; refine hK _ _ ?_; clear hK K) | (go_at_call 104; (with_reducible refine (C1.out _).mono ?_); rintro e w1 ⟨rfl, rfl⟩))
      go_round
      case rel => exact ⟨k + 1, by omega, by go_num⟩
      case measure => simp [intOf]; omega
    · obtain rfl : k = n := by omega
      go_wp2
      go_ret
      exact ⟨rfl, rfl⟩
set_option maxHeartbeats 1600000 in
theorem pitchDot_l {a b : Nat → Int} {n : Nat} {v v' : Value} {w : World} (hn : n ≤ 80) (ha : ∀ i, i < n → In16 (a i)) (hb : ∀ i, i < n → In16 (b i)) (L : Lies w v n a) (L' : Lies w v' n b) :
    Calls Tryd.prog 94 #[v, v'] w fun e w' => e = .returned (.int .i64 (dotF a b n)) ∧ w = w' := by
  obtain ⟨P, cap, g, o, rfl, hR1⟩ := L
  obtain ⟨P', cap', g', o', rfl, hR2⟩ := L'
  have HS : Hid (∀ k, k ≤ n → -(k * 1073741824) ≤ dotF a b k ∧ dotF a b k ≤ k * 1073741824) := fun k hk => dot_bd (fun i hi => ha i (by omega)) (fun i hi => hb i (by omega))
  have HT : Hid (∀ i, i < n → -1073741824 ≤ a i * b i ∧ a i * b i ≤ 1073741824) := fun i hi => by
    have h1 := ha i hi
    have h2 := hb i hi
    unfold In16 at h1 h2
    exact mul_bd _ _ 32768 32768 (by omega) (by omega) (by omega) (by omega)
  clear ha hb
  go_enter Tryd.func94, Tryd.ntmps94
  go_wp2
  go_loop [5, 10] (fun s c => ∃ k : Nat, k ≤ n ∧ c = .int .i64 k ∧ s = .int .i64 (dotF a b k)) (fun _ c => n - (intOf c).toNat)
  case atStart => exact ⟨0, by omega, rfl, rfl⟩
  case round =>
    obtain ⟨k, hk, rfl, rfl⟩ := hrel
    by_cases hlt : k < n
    · obtain rfl := hR1.ptr (by omega)
      obtain rfl := hR2.ptr (by omega)
      obtain ⟨b1, b2⟩ := HS.out k hk
      obtain ⟨t1, t2⟩ := HT.out k hlt
      have HN : Hid (dotF a b (k + 1) = dotF a b k + a k * b k) := rfl
      have s1 : IntKind.i64.wrap (a k * b k) = a k * b k := IntWalk.i64_in _ (by omega)
      generalize dotF a b k = S at *
      go_wp2_with (first | ((refine wpList_on (o := ⟨_, .load 3 _, _, _, _, _⟩) rfl (fun K hK => ?_)); refine wp_load_num hR1 3 _ rfl rfl (by kernel_rfl) hlt ?_; refine hK _ _ ?_; clear hK K) | ((refine wpList_on (o := ⟨_, .load 3 _, _, _, _, _⟩) rfl (fun K hK => ?_)); refine wp_load_num hR2 3 _ rfl rfl (by kernel_rfl) hlt ?_; refine hK _ _ ?_; clear hK K))
      go_round
      case rel => exact ⟨k + 1, by omega, by go_num, by
        rw [HN.out]⟩
      case measure => simp [intOf]; omega
    · obtain rfl : k = n := by omega
      go_wp2
      go_ret
      exact ⟨rfl, rfl⟩
end Go.Proofs.YtcoicmbjoaonoaaDoor
/-
  synth.Fold walked. No statement is proved here.
-/
namespace Go.Proofs.YtcoicmbjoaonoaaDoor
set_option linter.unusedVariables false
set_option linter.unusedSimpArgs false
open Go.RowKit
set_option maxRecDepth 100000
def FoldPost (a b : Nat → Int) (n : Nat) (w : World) (e : Ending) (w' : World) : Prop :=
  ∃ v tl, e = .returned (.tuple #[v, .int .i64 0]) ∧ Rowed 3 1 v n (fun i => .int .i64 (foldOut a b i)) tl ∧ Has w w' tl
theorem fold_term {a b : Nat → Int} {n : Nat} (ha : ∀ i, i < n → In16 (a i)) (hb : ∀ i, i < n → In16 (b i)) (x y : Nat) (hx : x < n) (hy : y < n) : -1073741824 ≤ a x * b y ∧ a x * b y ≤ 1073741824 := by
  have h1 := (ha x hx).bd
  have h2 := (hb y hy).bd
  exact mul_bd _ _ 32768 32768 (by omega) (by omega) (by omega) (by omega)
set_option maxHeartbeats 6400000 in
set_option maxRecDepth 100000 in
theorem Fold_any (a b : Nat → Int) (P P' : Option Addr) (n cap g o cap' g' o' : Nat) (w : World) (hn : n ≤ 80) (ha : ∀ i, i < n → In16 (a i)) (hb : ∀ i, i < n → In16 (b i)) (hR1 : Reads w P n g o a) (hR2 : Reads w P' n g' o' b) :
    Calls Tryd.prog 69 #[.slice P n cap, .slice P' n cap'] w (FoldPost a b n w) := by
  have H := Has.start w
  have HA := Lib.hid ha
  have HB := Lib.hid hb
  have HS : Hid (∀ k j, k < n → j ≤ k + 1 → -(j * 1073741824) ≤ sumTo j (fun i => a i * b (k - i)) ∧ sumTo j (fun i => a i * b (k - i)) ≤ j * 1073741824) := fun k j hk hj => sumTo_bd j fun i hi => fold_term ha hb _ _ (by omega) (by omega)
  clear ha hb
  have d1 := lt_no (show (n : Int) ≤ 80 by omega)
  have d2 : decide (80 < n) = false := by simp; omega
  go_enter Tryd.func69, Tryd.ntmps69
  go_wp2
  go_loopw [6, 22] (fun v c wr => ∃ (k : Nat) (tl : List (Nat × TypeId × Array Value)), k ≤ n ∧ c = .int .i64 k ∧ Hid (Rowed 3 1 v k (fun i => .int .i64 (foldOut a b i)) tl) ∧ Has w wr tl) (fun _ c _ => n - (intOf c).toNat)
  case atStart => exact ⟨0, [], by omega, rfl, Rowed.nil _ _ _, H⟩
  clear H d1 d2
  case round =>
    obtain ⟨k, tl, hk, rfl, RO, H⟩ := hrel
    replace RO := RO.out
    by_cases hlt : k < n
    · obtain rfl := hR1.ptr (by omega)
      obtain rfl := hR2.ptr (by omega)
      go_wp2
      go_loopw [8, 9] (fun s c wr2 => ∃ j : Nat, j ≤ k + 1 ∧ c = .int .i64 j ∧ s = .int .i64 (2048 + sumTo j (fun i => a i * b (k - i))) ∧ Has w wr2 tl) (fun _ c _ => k + 1 - (intOf c).toNat)
      case atStart => exact ⟨0, by omega, rfl, rfl, H⟩
      clear H
      case round =>
        obtain ⟨j, hj, rfl, rfl, H⟩ := hrel
        obtain ⟨b1, b2⟩ := HS.out k j hlt hj
        by_cases hjk : j ≤ k
        · obtain ⟨y, hy⟩ : ∃ y, y = k - j := ⟨_, rfl⟩
          have HN : Hid (sumTo (j + 1) (fun i => a i * b (k - i)) = sumTo j (fun i => a i * b (k - i)) + a j * b y) := by rw [hy]; exact rfl
          obtain ⟨t1, t2⟩ := fold_term HA.out HB.out j y (by omega) (by omega)
          have hjn : j < n := by omega
          have hyn : y < n := by omega
          have k0 : IntKind.i64.wrap ((k : Int) - (j : Int)) = (y : Int) := by rw [IntWalk.i64_in _ (by omega)]; omega
          have k1 : (0 : Int) ≤ (j : Int) := by omega
          have k2 : (j : Int) < (n : Int) := by omega
          have k3 : (0 : Int) ≤ (y : Int) := by omega
          have k4 : (y : Int) < (n : Int) := by omega
          have k5 : (j : Int) ≤ (k : Int) := by omega
          have k6 : IntKind.i64.wrap (a j * b y) = a j * b y := IntWalk.i64_in _ (by omega)
          have e1 : (a j != a j) = false := by simp
          have e2 : (b y != b y) = false := by simp
          have HY := Lib.hid hy
          clear hy
          generalize sumTo j (fun i => a i * b (k - i)) = S at *
          go_wp2_with fail
          refine wp_region_text [89] (by kernel_rfl) (by kernel_rfl) (by kernel_rfl) ?_; replace H := H.drew; generalize World.drew _ = u at *
          have R1 := Reads.has hR1 H
          have R2 := Reads.has hR2 H
          repeat (first | (refine ones_load_num R1 (o := ⟨_, .load 3 _, _, _, _, _⟩) 3 _ rfl rfl rfl rfl (by kernel_rfl) hjn ?_; simp only [Act.put, List.setIfInBounds_toArray, List.set_cons_zero, List.set_cons_succ]) | (refine ones_load_num R2 (o := ⟨_, .load 3 _, _, _, _, _⟩) 3 _ rfl rfl rfl rfl (by kernel_rfl) hyn ?_; simp only [Act.put, List.setIfInBounds_toArray, List.set_cons_zero, List.set_cons_succ]) | (refine' ones_call (o := ⟨_, .call _, _, _, _, _⟩) rfl rfl _ _; rotate_left; (unfold CallOf; go_simp; exact synthSat_in _ _ (HA.out _ hjn)); simp only [Act.put, List.setIfInBounds_toArray, List.set_cons_zero, List.set_cons_succ]) | (refine' ones_call (o := ⟨_, .call _, _, _, _, _⟩) rfl rfl _ _; rotate_left; (unfold CallOf; go_simp; exact synthSat_in _ _ (HB.out _ hyn)); simp only [Act.put, List.setIfInBounds_toArray, List.set_cons_zero, List.set_cons_succ]) | (refine ones_free (v := ?_) rfl rfl ?_ ?_; rotate_left; (intro w'; go_simp; try with_reducible rfl); simp only [Act.put, List.setIfInBounds_toArray, List.set_cons_zero, List.set_cons_succ]))
          refine ones_nil ?_
          clear R1 R2
          go_wp2_with fail
          refine wp_region_text [] (by kernel_rfl) (by kernel_rfl) (by kernel_rfl) ?_; replace H := H.drew; generalize World.drew _ = u at *
          have R1 := Reads.has hR1 H
          have R2 := Reads.has hR2 H
          repeat (first | (refine ones_load_num R1 (o := ⟨_, .load 3 _, _, _, _, _⟩) 3 _ rfl rfl rfl rfl (by kernel_rfl) hjn ?_; simp only [Act.put, List.setIfInBounds_toArray, List.set_cons_zero, List.set_cons_succ]) | (refine ones_load_num R2 (o := ⟨_, .load 3 _, _, _, _, _⟩) 3 _ rfl rfl rfl rfl (by kernel_rfl) hyn ?_; simp only [Act.put, List.setIfInBounds_toArray, List.set_cons_zero, List.set_cons_succ]) | (refine ones_free (v := ?_) rfl rfl ?_ ?_; rotate_left; (intro w'; go_simp; try with_reducible rfl); simp only [Act.put, List.setIfInBounds_toArray, List.set_cons_zero, List.set_cons_succ]))
          refine ones_nil ?_
          clear R1 R2
          go_wp2
          go_roundw
          case rel => exact ⟨j + 1, by omega, by go_num, by
            rw [HN.out]
            generalize a j * b y = q at *
            rw [IntWalk.i64_in (2048 + S + q) (by omega)]
            congr 1; omega, H⟩
          case measure => simp [intOf]; omega
        · obtain rfl : j = k + 1 := by omega
          have HF : Hid (foldOut a b k = sat16 ((2048 + sumTo (k + 1) (fun i => a i * b (k - i))) / 4096)) := rfl
          generalize sumTo (k + 1) (fun i => a i * b (k - i)) = S at *
          have HE : Hid (¬ ((k : Int) + 1 ≤ k)) := fun h => by omega
          have d3 : decide (((k + 1 : Nat) : Int) ≤ (k : Int)) = false := by simp; omega
          have d4 : decide (k + 1 ≤ k) = false := by simp
          go_wp2_with (first | (go_at_call 89; (with_reducible refine (synthSat_any _ _).mono ?_); rintro e w1 ⟨rfl, rfl⟩) | ((refine wpList_on (o := ⟨some 73, .buildSlice _ _ _, _, _, _, _⟩) rfl (fun K hK => ?_)); refine wp_made H (elem := 3) (n := 1) (cs := #[.int .i64 (sat16 ((2048 + S) / 4096))]) (by kernel_rfl) ?_; clear H; intro u gs H; refine hK _ _ ?_; clear hK K) | ((refine wpList_on (o := ⟨some 74, .call _, _, _, _, _⟩) rfl (fun K hK => ?_)); refine wp_append_has (bs := [_]) (e := 3) (s := 1) (B := 8) (m := 1) (nw := fun _ => .int .i64 (sat16 ((2048 + S) / 4096))) _ _ 35 rfl H RO rfl rfl ?_ ?_ ?_ ?_ ?_; (kernel_rfl); (refine From.block (e := 3) (B := 8) H ?_ (by repeat (first | exact List.mem_cons_self | apply List.mem_cons_of_mem | apply List.mem_append_right)) ?_ ?_; (kernel_rfl); (intro j hj; have e0 : j = 0 := (by omega); subst e0; rfl); (intro j hj; rfl)); (unfold maxLen; omega); (omega); (clear H RO; intro v' u tl' RO H; refine hK _ _ ?_; clear hK K; try simp only [Value.cells, List.cons_append, List.nil_append] at H)))
          go_roundw
          case rel => exact ⟨k + 1, tl', by omega, by go_num, RO.snoc HF.out, H.tail⟩
          case measure => simp [intOf]; omega
    · obtain rfl : k = n := by omega
      go_wp2
      go_ret2
      exact ⟨_, tl, rfl, RO, H⟩
theorem Fold_l {a b : Nat → Int} {n : Nat} {v v' : Value} {u : World} (hn : n ≤ 80) (ha : ∀ i, i < n → In16 (a i)) (hb : ∀ i, i < n → In16 (b i)) (L : Lies u v n a) (L' : Lies u v' n b) :
    Calls Tryd.prog 69 #[v, v'] u (FoldPost a b n u) := by
  obtain ⟨P, cap, g, o, rfl, R⟩ := L
  obtain ⟨P', cap', g', o', rfl, R'⟩ := L'
  exact Fold_any a b P P' n cap g o cap' g' o' u hn ha hb R R'
end Go.Proofs.YtcoicmbjoaonoaaDoor
/-
  synth.Ring, gain.One, pitch.Nearest at whatever sums, and the folder of choose walked. No statement is proved here.
-/
namespace Go.Proofs.YtcoicmbjoaonoaaDoor
set_option linter.unusedVariables false
set_option linter.unusedSimpArgs false
open Go.RowKit
set_option maxRecDepth 100000
def unit40 (i : Nat) : Int := if i = 0 then 4096 else 0
theorem unit40_in (i : Nat) (_ : i < 40) : In16 (unit40 i) := by unfold unit40 In16; split <;> omega
def RingPost (r : Nat → Int) (w : World) (e : Ending) (w' : World) : Prop := ∃ v tl, e = .returned (.tuple #[v, .int .i64 0]) ∧ Rowed 3 1 v 40 (fun i => .int .i64 (r i)) tl ∧ Has w w' tl
def ringF (a : Nat → Int) : Nat → Int := mkOut a unit40 (fun _ => 0)
theorem ringF_in (a : Nat → Int) (i : Nat) : In16 (ringF a i) := mkOut_bd _ _ _ _
set_option maxHeartbeats 1600000 in
theorem Ring_any (a : Nat → Int) (w : World) (ha : FilOk a) : Calls Tryd.prog 67 #[.agg (row 9 a), .int .i64 40] w (RingPost (ringF a) w) := by
  have H := Has.start w
  have c1 := Lib.hid (fun (v : Value) (u : World) (L : Lies u v 40 unit40) => show Calls Tryd.prog 65 #[.agg (row 9 a), .agg #[.int .i64 0, .int .i64 0, .int .i64 0, .int .i64 0, .int .i64 0, .int .i64 0, .int .i64 0, .int .i64 0], v] u (MkPost a unit40 (fun _ => 0) 40 u) from Make_l (p := fun _ => 0) (n := 40) (by omega) ha.bd ha.head (fun i _ => by unfold In16; omega) unit40_in L)
  clear ha
  go_enter Tryd.func67, Tryd.ntmps67
  go_wp2_with (first | ((refine wpList_on (o := ⟨_, .box _ (.tmp 0), _, _, _, _⟩) rfl (fun K hK => ?_)); (try simp only [Act.put, List.setIfInBounds_toArray, List.set_cons_zero, List.set_cons_succ]); refine wp_box H _ (.tmp 0) rfl (v := .agg _) rfl ?_; clear H; intro u g2 H; refine hK _ _ ?_; clear hK K; try simp only [Value.cells, List.cons_append, List.nil_append] at H) | ((refine wpList_on (o := ⟨some 17, .makeSlice _ _ _, _, _, _, _⟩) rfl (fun K hK => ?_)); refine wp_make_has (t_ := 35) (e := 3) H _ _ rfl 40 .i64 .i64 rfl rfl ?_ ?_ ?_ ?_ ?_; (kernel_rfl); (kernel_rfl); (omega); (omega); (clear H; intro u g H; refine hK _ _ ?_; clear hK K; try simp only [Value.cells, List.cons_append, List.nil_append] at H)) | ((refine wpList_on (o := ⟨_, .store 3 _ _, _, _, _, _⟩) rfl (fun K hK => ?_)); (try simp only [Act.put, List.setIfInBounds_toArray, List.set_cons_zero, List.set_cons_succ]); refine wp_store_row_ (l1 := []) H 3 _ _ rfl rfl rfl (by kernel_rfl) (by omega) ?_; clear H; intro u H; refine hK _ _ ?_; clear hK K; try simp only [Value.cells, List.cons_append, List.nil_append] at H) | ((refine wpList_on (o := ⟨_, .load 77 _, _, _, _, _⟩) rfl (fun K hK => ?_)); (try simp only [Act.put, List.setIfInBounds_toArray, List.set_cons_zero, List.set_cons_succ]); refine wp_load_all H 77 _ rfl rfl (by repeat (first | exact List.mem_cons_self | apply List.mem_cons_of_mem | apply List.mem_append_right)) (by kernel_rfl) ?_; refine hK _ _ ?_; clear hK K))
  have H1 : Has w u [(g, 3, row 40 unit40), (g2, 77, row 9 a)] := H
  clear H
  have H := H1
  clear H1
  refine (c1.out _ _ (H.lies (by repeat (first | exact List.mem_cons_self | apply List.mem_cons_of_mem | apply List.mem_append_right)) (Nat.le_refl _))).mono ?_
  rintro e w1 ⟨vo, tl, rfl, RO, hb⟩
  replace H := H.joinR hb
  clear hb
  simp only [List.cons_append, List.nil_append] at H
  go_wp2_with (first | (refine wpList_on (o := ⟨some 8, .alloc 26, _, _, _, _⟩) rfl (fun K hK => ?_); refine wp_alloc H 26 rfl (z := (.agg (row 8 fun _ => 0))) (by kernel_rfl) ?_; clear H; intro u g8 H; refine hK _ _ ?_; clear hK K; try simp only [Value.cells, List.cons_append, List.nil_append] at H) | ((refine wpList_on (o := ⟨_, .store 26 _ _, _, _, _, _⟩) rfl (fun K hK => ?_)); (try simp only [Act.put, List.setIfInBounds_toArray, List.set_cons_zero, List.set_cons_succ]); refine wp_store_all (l1 := []) H 26 _ _ rfl rfl rfl (by kernel_rfl) (by simp [row_size]) (row_one _ _) ?_; clear H; intro u H; refine hK _ _ ?_; clear hK K; try simp only [Value.cells, List.cons_append, List.nil_append] at H))
  refine bodyPost_ret (results_tmp2 rfl _ _ _) rfl ⟨vo, tl, rfl, RO, H.sub (by repeat (first | exact List.Sublist.refl _ | apply List.Sublist.cons))⟩

set_option maxHeartbeats 1600000 in
theorem GOne_ex (c e : Int) (w : World) (hR : Roots w) (hc : c ≤ 1125899906842624) (he : e ≤ 1099511627776) :
    Calls Tryd.prog 78 #[.int .i64 c, .int .i64 e] w fun x w' => ∃ n : Int, 0 ≤ n ∧ n ≤ 31 ∧ x = .returned (.int .i64 n) ∧ w = w' := by
  by_cases h1 : c ≤ 0
  · have d1 := le_yes h1
    go_enter Tryd.func78, Tryd.ntmps78
    go_wp2
    go_ret
    exact ⟨0, by omega, by omega, rfl, rfl⟩
  · have d1 := le_no (show 0 < c by omega)
    by_cases h2 : e ≤ 0
    · have d2 := le_yes h2
      go_enter Tryd.func78, Tryd.ntmps78
      go_wp2
      go_ret
      exact ⟨0, by omega, by omega, rfl, rfl⟩
    · have d2 := le_no (show 0 < e by omega)
      have m1 : (if (1152921504606846976 : Int) < c then (1152921504606846976 : Int) else c) = c := if_neg (by omega)
      have m2 : (if (17592186044416 : Int) < e then (17592186044416 : Int) else e) = e := if_neg (by omega)
      go_enter Tryd.func78, Tryd.ntmps78
      go_wp2
      go_loop [5, 6] (fun b n => ∃ k j : Nat, k ≤ 31 ∧ j ≤ 31 ∧ n = .int .i64 ((k : Int) + 1) ∧ b = .int .i64 (j : Nat)) (fun _ n => (32 - intOf n).toNat)
      case atStart => exact ⟨0, 0, by omega, by omega, rfl, rfl⟩
      case round =>
        clear d1 d2 m1 m2
        obtain ⟨k, j, hk, hj, rfl, rfl⟩ := hrel
        by_cases hlt : k < 31
        · have l1 := lev_bd (n := (k : Int)) (by omega) (by omega)
          have l2 := lev_bd (n := (k : Int) + 1) (by omega) (by omega)
          have c1 := Lib.hid (fun w : World => fun hR : Roots w => GLevel_any (k : Int) w hR (by omega) (by omega))
          have c2 := Lib.hid (fun w : World => fun hR : Roots w => GLevel_any ((k : Int) + 1) w hR (by omega) (by omega))
          generalize lev (k : Int) = A at *
          generalize lev ((k : Int) + 1) = B at *
          have m1 := mul_le_of (A + B) e 65534 1099511627776 (by omega) (by omega) (by omega) he
          have s1 : IntKind.i64.wrap ((A + B) * e) = (A + B) * e := IntWalk.i64_in _ (by omega)
          have s2 : IntKind.i64.wrap (2 * c) = 2 * c := IntWalk.i64_in _ (by omega)
          have q1 : (k : Int) + 1 ≤ 31 := by omega
          by_cases hg : (A + B) * e < 2 * c
          · have d3 := lt_yes hg
            go_wp2_with (first | (go_at_call 80; (with_reducible refine (c1.out _ hR).mono ?_); rintro e w1 ⟨rfl, rfl⟩) | (go_at_call 80; (with_reducible refine (c2.out _ hR).mono ?_); rintro e w1 ⟨rfl, rfl⟩))
            go_round
            case rel => exact ⟨k + 1, k + 1, by omega, by omega, by go_num, by go_num⟩
            case measure => simp [intOf]; omega
          · have d3 := lt_no (show 2 * c ≤ (A + B) * e by omega)
            go_wp2_with (first | (go_at_call 80; (with_reducible refine (c1.out _ hR).mono ?_); rintro e w1 ⟨rfl, rfl⟩) | (go_at_call 80; (with_reducible refine (c2.out _ hR).mono ?_); rintro e w1 ⟨rfl, rfl⟩))
            go_round
            case rel => exact ⟨k + 1, j, by omega, by omega, by go_num, rfl⟩
            case measure => simp [intOf]; omega
        · obtain rfl : k = 31 := by omega
          go_wp2
          go_ret
          exact ⟨j, by omega, by omega, rfl, rfl⟩
theorem Nearest_0 (c e : Int) (w : World) (h : c ≤ 0 ∨ e ≤ 0) : Calls Tryd.prog 71 #[.int .i64 c, .int .i64 e] w fun x w' => x = .returned (.int .i64 0) ∧ w = w' := by
  by_cases h1 : c ≤ 0
  · have d1 := le_yes h1
    go_enter Tryd.func71, Tryd.ntmps71
    go_wp2
    go_ret
    exact ⟨rfl, rfl⟩
  · have d1 := le_no (show 0 < c by omega)
    have d2 := le_yes (show e ≤ 0 by omega)
    go_enter Tryd.func71, Tryd.ntmps71
    go_wp2
    go_ret
    exact ⟨rfl, rfl⟩
/-- The folder of choose. -/
theorem chooser_any (r x : Nat → Int) (gb : Nat) {rv v : Value} {u : World} (hr : ∀ i, i < 40 → In16 (r i)) (hx : ∀ i, i < 40 → In16 (x i)) (hc : u.cell? ⟨gb, 0, none⟩ = some rv) (LR : Lies u rv 40 r) (LX : Lies u v 40 x) :
    Calls Tryd.prog 68 #[v, .pointer (some ⟨gb, 0, none⟩)] u fun e w' => ∃ v' tl, e = .returned v' ∧ Rowed 3 1 v' 40 (fun i => .int .i64 (foldOut r x i)) tl ∧ Has u w' tl := by
  have H := Has.start u
  have c1 := Lib.hid (fun (w : World) (hb : Below u.heap.size u w) => Fold_l (u := w) (n := 40) (by omega) hr hx (LR.below hb) (LX.below hb))
  go_enter Tryd.func68, Tryd.ntmps68
  go_wp2_with (first | ((refine wpList_on (o := ⟨_, .load 35 _, _, _, _, _⟩) rfl (fun K hK => ?_)); refine wp_load_old H 35 _ rfl rfl (by kernel_rfl) (hc) ?_; refine hK _ _ ?_; clear hK K) | (go_at_call 69; (with_reducible refine (c1.out _ H.below).mono ?_); rintro e w1 ⟨vf, tl, rfl, RO, hb⟩; replace H := H.join hb; clear hb; (try simp only [List.append_nil] at H)))
  go_ret
  exact ⟨vf, tl, rfl, RO, H⟩
end Go.Proofs.YtcoicmbjoaonoaaDoor
