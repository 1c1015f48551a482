/-
  The walk of BasicExact. No statement is proved here.
-/
import Derived.Test.YtkfaghcjahhlgaaAwake
namespace Go.Proofs.Ytkfaghcjahhlgaa
open Go.RowKit

theorem Add_in (a b : Int) (w : World) (ha : -32768 ≤ a ∧ a ≤ 32767) (hb : -32768 ≤ b ∧ b ≤ 32767) : Calls Try.prog 11 #[.int .i64 a, .int .i64 b] w fun e w' => e = .returned (.tuple #[.int .i64 (sat16 (a + b)), .bool (over16 (a + b))]) ∧ w = w' := by
  have := Add_any a b w
  rwa [sat16_in ha, sat16_in hb] at this
theorem Sub_in (a b : Int) (w : World) (ha : -32768 ≤ a ∧ a ≤ 32767) (hb : -32768 ≤ b ∧ b ≤ 32767) : Calls Try.prog 17 #[.int .i64 a, .int .i64 b] w fun e w' => e = .returned (.tuple #[.int .i64 (sat16 (a - b)), .bool (over16 (a - b))]) ∧ w = w' := by
  have := Sub_any a b w
  rwa [sat16_in ha, sat16_in hb] at this
theorem LMult_in (a b : Int) (w : World) (ha : -32768 ≤ a ∧ a ≤ 32767) (hb : -32768 ≤ b ∧ b ≤ 32767) : Calls Try.prog 14 #[.int .i64 a, .int .i64 b] w fun e w' => e = .returned (.tuple #[.int .i64 (sat32 (2 * a * b)), .bool (over32 (2 * a * b))]) ∧ w = w' := by
  have := LMult_any a b w
  rwa [sat16_in ha, sat16_in hb] at this

/-- A sum that stops or not, as the law tells it. -/
theorem sat16_ways (s : Int) : (sat16 s = s ∧ over16 s = false) ∨ (sat16 s = 32767 ∧ over16 s = true ∧ 32767 < s) ∨ (sat16 s = -32768 ∧ over16 s = true ∧ s < -32768) := by
  by_cases h : s < -32768
  · exact .inr (.inr ⟨clamp_lo h, over_lo h, h⟩)
  · by_cases h1 : 32767 < s
    · exact .inr (.inl ⟨clamp_hi h h1, over_hi h1, h1⟩)
    · exact .inl ⟨clamp_in h h1, over_in h h1⟩
theorem twice_ways (a b : Int) (ha : -32768 ≤ a ∧ a ≤ 32767) (hb : -32768 ≤ b ∧ b ≤ 32767) :
    (a = -32768 ∧ b = -32768 ∧ over32 (2 * a * b) = true) ∨ (¬ (a = -32768 ∧ b = -32768) ∧ over32 (2 * a * b) = false ∧ sat32 (2 * a * b) = 2 * a * b) := by
  by_cases h : a = -32768 ∧ b = -32768
  · exact .inl ⟨h.1, h.2, by rw [h.1, h.2]; rfl⟩
  · right
    have hm : -2147483648 ≤ 2 * a * b ∧ 2 * a * b ≤ 2147483647 := by
      rw [Int.mul_assoc]
      by_cases h1 : a = -32768
      · subst h1; omega
      · have := mul_bd a b 32767 32768 (by omega) (by omega) (by omega) (by omega)
        omega
    exact ⟨h, over32_in hm, sat32_in hm⟩
theorem eq_no {a b : Int} (h : ¬ a = b) : (a == b) = false := beq_false_of_ne h
theorem eq_yes {a b : Int} (h : a = b) : (a == b) = true := beq_iff_eq.2 h


theorem exact_top (a b : Int) (w : World) (ha : -32768 ≤ a ∧ a ≤ 32767) (hb : -32768 ≤ b ∧ b ≤ 32767) (a' b' : Int) (c1 : Calls Try.prog 16 #[.int .i64 a'] w fun e w' => e = .returned (.int .i64 a) ∧ w = w') (c2 : Calls Try.prog 16 #[.int .i64 b'] w fun e w' => e = .returned (.int .i64 b) ∧ w = w') (z1 : a = -32768) (z2 : b = -32768) : Calls Try.prog 4 #[.int .i64 a', .int .i64 b'] w fun e w' => e = .returned (.bool true) ∧ w = w' := by
  subst z1 z2
  have e1 : over16 (-32768 + -32768) = true := rfl
  have e2 : sat16 (-32768 + -32768) = -32768 := rfl
  have e3 : over16 (-32768 - -32768) = false := rfl
  have e4 : sat16 (-32768 - -32768) = 0 := rfl
  have e5 : over32 (2 * -32768 * -32768) = true := rfl
  go_enter Try.func4, Try.ntmps4
  go_wp2_with (first | (go_at_call 16; (with_reducible refine (c1).mono ?_); rintro e w1 ⟨rfl, rfl⟩) | (go_at_call 16; (with_reducible refine (c2).mono ?_); rintro e w1 ⟨rfl, rfl⟩) | (first | (go_at_call 11; (with_reducible refine (Add_in _ _ _ (by omega) (by omega)).mono ?_); rintro e w1 ⟨rfl, rfl⟩) | (go_at_call 17; (with_reducible refine (Sub_in _ _ _ (by omega) (by omega)).mono ?_); rintro e w1 ⟨rfl, rfl⟩) | (go_at_call 14; (with_reducible refine (LMult_in _ _ _ (by omega) (by omega)).mono ?_); rintro e w1 ⟨rfl, rfl⟩) | (go_at_call 15; (with_reducible refine (awake_any _).mono ?_); rintro e w1 ⟨rfl, rfl⟩)))
  go_ret
  exact ⟨rfl, rfl⟩

set_option maxRecDepth 100000 in
set_option maxHeartbeats 6400000 in
theorem exact_mid (a b : Int) (w : World) (ha : -32768 ≤ a ∧ a ≤ 32767) (hb : -32768 ≤ b ∧ b ≤ 32767) (a' b' : Int) (c1 : Calls Try.prog 16 #[.int .i64 a'] w fun e w' => e = .returned (.int .i64 a) ∧ w = w') (c2 : Calls Try.prog 16 #[.int .i64 b'] w fun e w' => e = .returned (.int .i64 b) ∧ w = w') (ea : (a == -32768) = false) (z2 : over32 (2 * a * b) = false) (z3 : sat32 (2 * a * b) = 2 * a * b) : Calls Try.prog 4 #[.int .i64 a', .int .i64 b'] w fun e w' => e = .returned (.bool true) ∧ w = w' := by
  have s1 : IntKind.i64.wrap (a + b) = a + b := IntWalk.i64_in _ (by omega)
  have s2 : IntKind.i64.wrap (a - b) = a - b := IntWalk.i64_in _ (by omega)
  have mb := mul_bd a b 32768 32768 (by omega) (by omega) (by omega) (by omega)
  have s3 : IntKind.i64.wrap (2 * a) = 2 * a := IntWalk.i64_in _ (by omega)
  have s4 : IntKind.i64.wrap (2 * a * b) = 2 * a * b := IntWalk.i64_in _ (by rw [Int.mul_assoc]; omega)
  clear mb
  rcases sat16_ways (a + b) with ⟨x1, x2⟩ | ⟨x1, x2, x3⟩ | ⟨x1, x2, x3⟩ <;> rcases sat16_ways (a - b) with ⟨y1, y2⟩ | ⟨y1, y2, y3⟩ | ⟨y1, y2, y3⟩
  all_goals
    (try replace x3 := lt_yes x3)
    (try replace y3 := lt_yes y3)
    go_enter Try.func4, Try.ntmps4
    go_wp2_with (first | (go_at_call 16; (with_reducible refine (c1).mono ?_); rintro e w1 ⟨rfl, rfl⟩) | (go_at_call 16; (with_reducible refine (c2).mono ?_); rintro e w1 ⟨rfl, rfl⟩) | (first | (go_at_call 11; (with_reducible refine (Add_in _ _ _ (by omega) (by omega)).mono ?_); rintro e w1 ⟨rfl, rfl⟩) | (go_at_call 17; (with_reducible refine (Sub_in _ _ _ (by omega) (by omega)).mono ?_); rintro e w1 ⟨rfl, rfl⟩) | (go_at_call 14; (with_reducible refine (LMult_in _ _ _ (by omega) (by omega)).mono ?_); rintro e w1 ⟨rfl, rfl⟩) | (go_at_call 15; (with_reducible refine (awake_any _).mono ?_); rintro e w1 ⟨rfl, rfl⟩)))
    go_ret
    exact ⟨rfl, rfl⟩

set_option maxRecDepth 100000 in
set_option maxHeartbeats 6400000 in
theorem exact_low (a b : Int) (w : World) (ha : -32768 ≤ a ∧ a ≤ 32767) (hb : -32768 ≤ b ∧ b ≤ 32767) (a' b' : Int) (c1 : Calls Try.prog 16 #[.int .i64 a'] w fun e w' => e = .returned (.int .i64 a) ∧ w = w') (c2 : Calls Try.prog 16 #[.int .i64 b'] w fun e w' => e = .returned (.int .i64 b) ∧ w = w') (ea : (a == -32768) = true) (eb : (b == -32768) = false) (z2 : over32 (2 * a * b) = false) (z3 : sat32 (2 * a * b) = 2 * a * b) : Calls Try.prog 4 #[.int .i64 a', .int .i64 b'] w fun e w' => e = .returned (.bool true) ∧ w = w' := by
  have s1 : IntKind.i64.wrap (a + b) = a + b := IntWalk.i64_in _ (by omega)
  have s2 : IntKind.i64.wrap (a - b) = a - b := IntWalk.i64_in _ (by omega)
  have mb := mul_bd a b 32768 32768 (by omega) (by omega) (by omega) (by omega)
  have s3 : IntKind.i64.wrap (2 * a) = 2 * a := IntWalk.i64_in _ (by omega)
  have s4 : IntKind.i64.wrap (2 * a * b) = 2 * a * b := IntWalk.i64_in _ (by rw [Int.mul_assoc]; omega)
  clear mb
  rcases sat16_ways (a + b) with ⟨x1, x2⟩ | ⟨x1, x2, x3⟩ | ⟨x1, x2, x3⟩ <;> rcases sat16_ways (a - b) with ⟨y1, y2⟩ | ⟨y1, y2, y3⟩ | ⟨y1, y2, y3⟩
  all_goals
    (try replace x3 := lt_yes x3)
    (try replace y3 := lt_yes y3)
    go_enter Try.func4, Try.ntmps4
    go_wp2_with (first | (go_at_call 16; (with_reducible refine (c1).mono ?_); rintro e w1 ⟨rfl, rfl⟩) | (go_at_call 16; (with_reducible refine (c2).mono ?_); rintro e w1 ⟨rfl, rfl⟩) | (first | (go_at_call 11; (with_reducible refine (Add_in _ _ _ (by omega) (by omega)).mono ?_); rintro e w1 ⟨rfl, rfl⟩) | (go_at_call 17; (with_reducible refine (Sub_in _ _ _ (by omega) (by omega)).mono ?_); rintro e w1 ⟨rfl, rfl⟩) | (go_at_call 14; (with_reducible refine (LMult_in _ _ _ (by omega) (by omega)).mono ?_); rintro e w1 ⟨rfl, rfl⟩) | (go_at_call 15; (with_reducible refine (awake_any _).mono ?_); rintro e w1 ⟨rfl, rfl⟩)))
    go_ret
    exact ⟨rfl, rfl⟩

theorem exact_in (a b : Int) (w : World) (ha : -32768 ≤ a ∧ a ≤ 32767) (hb : -32768 ≤ b ∧ b ≤ 32767) (a' b' : Int) (c1 : Calls Try.prog 16 #[.int .i64 a'] w fun e w' => e = .returned (.int .i64 a) ∧ w = w') (c2 : Calls Try.prog 16 #[.int .i64 b'] w fun e w' => e = .returned (.int .i64 b) ∧ w = w') : Calls Try.prog 4 #[.int .i64 a', .int .i64 b'] w fun e w' => e = .returned (.bool true) ∧ w = w' := by
  rcases twice_ways a b ha hb with ⟨z1, z2, z3⟩ | ⟨z1, z2, z3⟩
  · exact exact_top a b w ha hb a' b' c1 c2 z1 z2
  · by_cases ea : a = -32768
    · exact exact_low a b w ha hb a' b' c1 c2 (eq_yes ea) (eq_no (by omega)) z2 z3
    · exact exact_mid a b w ha hb a' b' c1 c2 (eq_no ea) z2 z3
theorem basicExact_walk (a b : Int) (w : World) :
    Calls Try.prog 4 #[.int .i64 a, .int .i64 b] w fun e w' => e = .returned (.bool true) ∧ w = w' :=
  exact_in (a % 65536 - 32768) (b % 65536 - 32768) w (by omega) (by omega) a b (s16_any a w) (s16_any b w)
end Go.Proofs.Ytkfaghcjahhlgaa
