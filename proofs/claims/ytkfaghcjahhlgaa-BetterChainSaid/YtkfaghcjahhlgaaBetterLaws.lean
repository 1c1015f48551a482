/-
  The walks of BetterOnly and BetterChain. No statement is proved here.
-/
import Derived.Test.YtkfaghcjahhlgaaBetter
import Derived.Test.YtkfaghcjahhlgaaSpot
namespace Go.Proofs.Ytkfaghcjahhlgaa
open Go.RowKit
theorem better_self (c e : Int) : betterB c e c e = false := by
  unfold betterB
  split
  · rename_i h; simp; omega
  · simp
theorem better_only (c e d f : Int) : (betterB c e d f && betterB d f c e) = false := by
  unfold betterB
  by_cases h : e ≤ 0 ∨ f ≤ 0
  · rw [if_pos h, if_pos (Or.symm h)]
    rw [Bool.and_eq_false_iff]
    rcases h with h | h
    · left; simp; omega
    · right; simp; omega
  · rw [if_neg h, if_neg (fun h' => h (Or.symm h'))]
    rw [Bool.and_eq_false_iff]
    simp only [decide_eq_false_iff_not]
    omega
theorem better_chain {c e d f g h : Int} (he : 0 < e) (hf : 0 < f) (hh : 0 < h) (h1 : betterB c e d f = true) (h2 : betterB d f g h = true) : betterB c e g h = true := by
  unfold betterB at *
  rw [if_neg (by omega)] at *
  simp only [decide_eq_true_eq] at *
  have hC : 0 ≤ max c 0 * max c 0 := Int.mul_nonneg (by omega) (by omega)
  generalize max c 0 * max c 0 = C at *
  generalize max d 0 * max d 0 = D at *
  generalize max g 0 * max g 0 = G at *
  -- D e < C f, G f < D h
  have a1 := Int.mul_lt_mul_of_pos_right h1 hh
  have a2 := Int.mul_lt_mul_of_pos_right h2 he
  have e1 : D * h * e = D * e * h := by rw [Int.mul_assoc, Int.mul_comm h e, ← Int.mul_assoc]
  have e2 : G * f * e = G * e * f := by rw [Int.mul_assoc, Int.mul_comm f e, ← Int.mul_assoc]
  have e3 : C * f * h = C * h * f := by rw [Int.mul_assoc, Int.mul_comm f h, ← Int.mul_assoc]
  have a3 : G * e * f < C * h * f := by omega
  exact Int.lt_of_mul_lt_mul_right a3 (by omega)
theorem Better_21 (w : World) : Calls Try.prog 22 #[.int .i64 2, .int .i64 1, .int .i64 1, .int .i64 1] w fun r w' => r = .returned (.bool true) ∧ Below w.heap.size w w' :=
  Better_any 2 1 1 1 w (by omega) (by omega) (by omega) (by omega)
abbrev BetterIs (c e d f : Int) (x : Bool) : Prop := ∀ w : World, Calls Try.prog 22 #[.int .i64 c, .int .i64 e, .int .i64 d, .int .i64 f] w fun r w' => r = .returned (.bool x) ∧ Below w.heap.size w w'
set_option maxHeartbeats 1600000 in
theorem betterOnly_in (c e d f : Int) (x y : Bool) (w : World) (hxy : (x && y) = false) (b1 : BetterIs c e d f x) (b2 : BetterIs d f c e y) (b3 : BetterIs c e c e false) :
    Calls Try.prog 6 #[.int .i64 c, .int .i64 e, .int .i64 d, .int .i64 f] w fun r w' => r = .returned (.bool true) ∧ Below w.heap.size w w' := by
  have H := Has.start w
  have B1 := Lib.hid b1
  have B2 := Lib.hid b2
  have B3 := Lib.hid b3
  clear b1 b2 b3
  cases x <;> cases y
  case true.true => simp at hxy
  all_goals
    clear hxy
    go_enter Try.func6, Try.ntmps6
    go_wp2_with (first | (go_at_call 22; (with_reducible refine (Better_21 _).mono ?_); rintro e w1 ⟨rfl, hb⟩; replace H := H.callee hb; clear hb) | (go_at_call 22; (with_reducible refine (B1.out _).mono ?_); rintro e w1 ⟨rfl, hb⟩; replace H := H.callee hb; clear hb) | (go_at_call 22; (with_reducible refine (B2.out _).mono ?_); rintro e w1 ⟨rfl, hb⟩; replace H := H.callee hb; clear hb) | (go_at_call 22; (with_reducible refine (B3.out _).mono ?_); rintro e w1 ⟨rfl, hb⟩; replace H := H.callee hb; clear hb))
    go_ret
    exact ⟨rfl, H.below⟩
theorem betterOnly_walk (c : Int) (hc : -9223372036854775808 ≤ c ∧ c ≤ 9223372036854775807) (e : Int) (he : -9223372036854775808 ≤ e ∧ e ≤ 9223372036854775807) (d : Int) (hd : -9223372036854775808 ≤ d ∧ d ≤ 9223372036854775807) (f : Int) (hf : -9223372036854775808 ≤ f ∧ f ≤ 9223372036854775807) (w : World) :
    Calls Try.prog 6 #[.int .i64 c, .int .i64 e, .int .i64 d, .int .i64 f] w fun r w' => r = .returned (.bool true) ∧ Below w.heap.size w w' := by
  have b3 : BetterIs c e c e (betterB c e c e) := fun w => Better_any c e c e w hc.2 he.2 hc.2 he.2
  rw [better_self] at b3
  exact betterOnly_in c e d f _ _ w (better_only c e d f) (fun w => Better_any c e d f w hc.2 he.2 hd.2 hf.2) (fun w => Better_any d f c e w hd.2 hf.2 hc.2 he.2) b3
set_option maxHeartbeats 3200000 in
theorem betterChain_in (c e d f g h E F H1 : Int) (x y z : Bool) (w : World) (hE : 0 ≤ E ∧ E ≤ 1099511627775) (hF : 0 ≤ F ∧ F ≤ 1099511627775) (hH : 0 ≤ H1 ∧ H1 ≤ 1099511627775) (hxy : x = true → y = true → z = true)
    (c1 : Calls Try.prog 19 #[.int .i64 e, .int .i64 1099511627776] w fun e w' => e = .returned (.int .i64 E) ∧ w = w')
    (c2 : Calls Try.prog 19 #[.int .i64 f, .int .i64 1099511627776] w fun e w' => e = .returned (.int .i64 F) ∧ w = w')
    (c3 : Calls Try.prog 19 #[.int .i64 h, .int .i64 1099511627776] w fun e w' => e = .returned (.int .i64 H1) ∧ w = w')
    (b1 : BetterIs c (E + 1) d (F + 1) x) (b2 : BetterIs d (F + 1) g (H1 + 1) y) (b3 : BetterIs c (E + 1) g (H1 + 1) z) :
    Calls Try.prog 7 #[.int .i64 c, .int .i64 e, .int .i64 d, .int .i64 f, .int .i64 g, .int .i64 h] w fun r w' => r = .returned (.bool true) ∧ Below w.heap.size w w' := by
  have H := Has.start w
  have B1 := Lib.hid b1
  have B2 := Lib.hid b2
  have B3 := Lib.hid b3
  clear b1 b2 b3
  cases x <;> cases y <;> cases z
  case true.true.false => simp at hxy
  all_goals
    clear hxy
    go_enter Try.func7, Try.ntmps7
    go_wp2_with (first | (go_at_call 19; (with_reducible refine (c1).mono ?_); rintro e w1 ⟨rfl, rfl⟩) | (go_at_call 19; (with_reducible refine (c2).mono ?_); rintro e w1 ⟨rfl, rfl⟩) | (go_at_call 19; (with_reducible refine (c3).mono ?_); rintro e w1 ⟨rfl, rfl⟩) | (first | (go_at_call 22; (with_reducible refine (Better_21 _).mono ?_); rintro e w1 ⟨rfl, hb⟩; replace H := H.callee hb; clear hb) | (go_at_call 22; (with_reducible refine (B1.out _).mono ?_); rintro e w1 ⟨rfl, hb⟩; replace H := H.callee hb; clear hb) | (go_at_call 22; (with_reducible refine (B2.out _).mono ?_); rintro e w1 ⟨rfl, hb⟩; replace H := H.callee hb; clear hb) | (go_at_call 22; (with_reducible refine (B3.out _).mono ?_); rintro e w1 ⟨rfl, hb⟩; replace H := H.callee hb; clear hb)))
    go_ret
    exact ⟨rfl, H.below⟩
theorem betterChain_walk (c : Int) (hc : -9223372036854775808 ≤ c ∧ c ≤ 9223372036854775807) (e : Int) (d : Int) (hd : -9223372036854775808 ≤ d ∧ d ≤ 9223372036854775807) (f : Int) (g : Int) (hg : -9223372036854775808 ≤ g ∧ g ≤ 9223372036854775807) (h : Int) (w : World) :
    Calls Try.prog 7 #[.int .i64 c, .int .i64 e, .int .i64 d, .int .i64 f, .int .i64 g, .int .i64 h] w fun r w' => r = .returned (.bool true) ∧ Below w.heap.size w w' := by
  have c1 := spot_any e 1099511627776 w (by omega) (by omega)
  have c2 := spot_any f 1099511627776 w (by omega) (by omega)
  have c3 := spot_any h 1099511627776 w (by omega) (by omega)
  have hE : 0 ≤ e % 1099511627776 ∧ e % 1099511627776 ≤ 1099511627775 := by omega
  have hF : 0 ≤ f % 1099511627776 ∧ f % 1099511627776 ≤ 1099511627775 := by omega
  have hH : 0 ≤ h % 1099511627776 ∧ h % 1099511627776 ≤ 1099511627775 := by omega
  generalize e % 1099511627776 = E at *
  generalize f % 1099511627776 = F at *
  generalize h % 1099511627776 = H1 at *
  exact betterChain_in c e d f g h E F H1 _ _ _ w hE hF hH (better_chain (c := c) (e := E + 1) (d := d) (f := F + 1) (g := g) (h := H1 + 1) (by omega) (by omega) (by omega)) c1 c2 c3
    (fun w => Better_any c (E + 1) d (F + 1) w hc.2 (by omega) hd.2 (by omega)) (fun w => Better_any d (F + 1) g (H1 + 1) w hd.2 (by omega) hg.2 (by omega)) (fun w => Better_any c (E + 1) g (H1 + 1) w hc.2 (by omega) hg.2 (by omega))
end Go.Proofs.Ytkfaghcjahhlgaa
