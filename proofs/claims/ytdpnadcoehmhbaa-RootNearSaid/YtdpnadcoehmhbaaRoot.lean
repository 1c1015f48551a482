/-
  dual.Root, and the walk of RootNear. No statement is proved here.
-/
import Derived.Test.YtdpnadcoehmhbaaDiv
namespace Go.Proofs.Ytdpnadcoehmhbaa
open Go.RowKit
/-- A bit laid beside higher ones. -/
theorem or_bit (m k : Nat) (hm : m < 65536) (hk : k ≤ 15) : bits .or .i64 ((m * 2 ^ (k + 1) : Nat) : Int) ((2 ^ k : Nat) : Int) = ((m * 2 ^ (k + 1) + 2 ^ k : Nat) : Int) := by
  have hk2 : (2 : Nat) ^ (k + 1) ≤ 2 ^ 16 := Nat.pow_le_pow_right (by omega) (by omega)
  have hk1 : (2 : Nat) ^ k < 2 ^ (k + 1) := Nat.pow_lt_pow_right (by omega) (by omega)
  have hb : m * 2 ^ (k + 1) ≤ 65535 * 65536 := Nat.mul_le_mul (by omega) hk2
  have e1 : (BitVec.ofInt 64 ((m * 2 ^ (k + 1) : Nat) : Int)).toNat = m * 2 ^ (k + 1) := by
    rw [BitVec.toNat_ofInt]; omega
  have e2 : (BitVec.ofInt 64 ((2 ^ k : Nat) : Int)).toNat = 2 ^ k := by
    rw [BitVec.toNat_ofInt]; omega
  show IntKind.i64.wrap ((BitVec.ofInt 64 ((m * 2 ^ (k + 1) : Nat) : Int) ||| BitVec.ofInt 64 ((2 ^ k : Nat) : Int)).toNat : Nat) = _
  rw [BitVec.toNat_or, e1, e2, Nat.mul_comm m, ← Nat.two_pow_add_eq_or_of_lt hk1 m, IntKind.wrap_i64]
  rw [Nat.mul_comm] at hb
  omega
theorem sq_le (x y : Int) (h0 : 0 ≤ x) (h : x ≤ y) : x * x ≤ y * y := Int.mul_le_mul h h h0 (by omega)
def RootAt (a : Int) (r p : Nat) : Prop := r + p ≤ 65536 ∧ (r : Int) * r ≤ a ∧ a < ((r : Int) + p) * ((r : Int) + p)

set_option maxHeartbeats 800000 in
theorem Root_any (a : Int) (w : World) (ha : 0 ≤ a) (ha2 : a ≤ 2147483647) :
    Calls Try.prog 14 #[.int .i64 a] w fun e w' => ∃ r : Int, 0 ≤ r ∧ r ≤ 65535 ∧ r * r ≤ a ∧ a < (r + 1) * (r + 1) ∧ e = .returned (.tuple #[.int .i64 r, .int .i64 0]) ∧ w = w' := by
  have d1 := lt_no ha
  have d2 := lt_no ha2
  go_enter Try.func14, Try.ntmps14
  go_wp2
  go_loop [4, 5] (fun r i => ∃ (k m : Nat), k ≤ 16 ∧ i = .int .i64 ((k : Int) - 1) ∧ r = .int .i64 ((m * 2 ^ k : Nat) : Int) ∧ RootAt a (m * 2 ^ k) (2 ^ k)) (fun _ i => (intOf i + 1).toNat)
  case atStart => exact ⟨16, 0, by omega, rfl, rfl, by omega, by simpa using ha, by simp; omega⟩
  case round =>
    clear d1 d2
    obtain ⟨k, m, hk, rfl, rfl, hr⟩ := hrel
    cases k with
    | zero =>
      rw [Nat.pow_zero, Nat.mul_one] at *
      obtain ⟨h0, h1, h2⟩ := hr
      have d : decide ((0 : Int) ≤ -1) = false := rfl
      have h1' := Lib.hid h1
      have h2' := Lib.hid h2
      clear h1 h2
      go_wp2
      go_ret2
      exact ⟨m, by omega, by omega, h1'.out, h2'.out, rfl, rfl⟩
    | succ k =>
      have hp : 0 < 2 ^ k := Nat.two_pow_pos k
      have hk2 : (2 : Nat) ^ k ≤ 2 ^ 15 := Nat.pow_le_pow_right (by omega) (by omega)
      have hR : m * 2 ^ (k + 1) = (2 * m) * 2 ^ k := by rw [Nat.pow_succ, Nat.mul_comm (2 ^ k) 2, Nat.mul_comm 2 m, Nat.mul_assoc]
      have hR1 : m * 2 ^ (k + 1) + 2 ^ k = (2 * m + 1) * 2 ^ k := by rw [hR, Nat.add_mul, Nat.one_mul]
      have hm : m < 65536 := by
        have := Nat.le_mul_of_pos_right m (Nat.two_pow_pos (k + 1))
        have := hr.1
        have := Nat.two_pow_pos (k + 1)
        omega
      have e0 : ((k + 1 : Nat) : Int) - 1 = k := by omega
      rw [e0]
      have e1 := or_bit m k hm (by omega)
      have e2 : IntKind.u64.wrap (k : Int) = k := by rw [IntKind.wrap_u64]; omega
      have d1 : decide ((0 : Int) ≤ (k : Int)) = true := le_yes (by omega)
      obtain ⟨h0, h1, h2⟩ := hr
      have hq : (2 : Nat) ^ (k + 1) = 2 * 2 ^ k := by rw [Nat.pow_succ, Nat.mul_comm]
      generalize m * 2 ^ (k + 1) = R at *
      rw [hq] at h0 h2
      clear hq
      have HP : Hid ((2 : Int) ^ k = ((2 ^ k : Nat) : Int)) := by
        show (2 : Int) ^ k = ((2 ^ k : Nat) : Int)
        simp
      generalize hpe : 2 ^ k = p at *
      have s1 : IntKind.i64.wrap (((R + p : Nat) : Int) * ((R + p : Nat) : Int)) = ((R + p : Nat) : Int) * ((R + p : Nat) : Int) := by
        have b1 := mul_le_of ((R + p : Nat) : Int) ((R + p : Nat) : Int) 65536 65536 (by omega) (by omega) (by omega) (by omega)
        have b2 := Int.mul_nonneg (show (0 : Int) ≤ ((R + p : Nat) : Int) by omega) (show (0 : Int) ≤ ((R + p : Nat) : Int) by omega)
        exact IntWalk.i64_in _ (by omega)
      rw [← HP.out] at e1
      have e3 : bits .or .i64 (R : Int) (wrap64 ((2 : Int) ^ k)) = ((R + p : Nat) : Int) := by
        rw [IntWalk.wrap64_in _ (by rw [HP.out]; omega)]; exact e1
      clear e1
      have hT : ((R + p : Nat) : Int) = (R : Int) + p := by omega
      have hN : RootAt a (R + p) p ∨ ¬ ((R + p : Nat) : Int) * ((R + p : Nat) : Int) ≤ a := by
        by_cases hc : ((R + p : Nat) : Int) * ((R + p : Nat) : Int) ≤ a
        · refine .inl ⟨by omega, hc, ?_⟩
          have : ((R + p : Nat) : Int) + (p : Nat) = (R : Int) + ((2 * p : Nat) : Int) := by omega
          rw [this]; exact h2
        · exact .inr hc
      have hL : ¬ ((R + p : Nat) : Int) * ((R + p : Nat) : Int) ≤ a → RootAt a R p := fun hc => ⟨by omega, h1, by rw [← hT]; omega⟩
      clear h1 h2
      have HT := Lib.hid (rfl : ((R + p : Nat) : Int) = ((R + p : Nat) : Int))
      obtain ⟨T, hTT⟩ : ∃ T : Int, T = ((R + p : Nat) : Int) := ⟨_, rfl⟩
      rw [← hTT] at e3 s1 hN hL
      clear hT HT
      have HTT := Lib.hid hTT
      clear hTT
      by_cases hc : T * T ≤ a
      · have HN : Hid (RootAt a (R + p) p) := hN.resolve_right fun h => h hc
        have HR1 := Lib.hid hR1
        have d2 := le_yes hc
        clear hR hR1 hc hN hL
        go_wp2
        go_round
        case rel => exact ⟨k, 2 * m + 1, by omega, by go_num, by rw [HTT.out, hpe, ← HR1.out], by rw [hpe, ← HR1.out]; exact HN.out⟩
        case measure => simp [intOf] <;> omega
      · have HN : Hid (RootAt a R p) := hL hc
        have HR1 := Lib.hid hR
        have d2 := le_no (show a < T * T by omega)
        clear hR hR1 hc hN hL
        go_wp2
        go_round
        case rel => exact ⟨k, 2 * m, by omega, by go_num, by rw [hpe, ← HR1.out], by rw [hpe, ← HR1.out]; exact HN.out⟩
        case measure => simp [intOf] <;> omega

theorem root_facts {A r : Int} (h0 : 0 ≤ r) (h1 : r ≤ 65535) (h2 : r * r ≤ A) (h3 : A < (r + 1) * (r + 1)) :
    IntKind.i64.wrap (r * r) = r * r ∧ IntKind.i64.wrap ((r + 1) * (r + 1)) = (r + 1) * (r + 1) ∧ decide (0 ≤ r) = true ∧ decide (r * r ≤ A) = true ∧ decide (A < (r + 1) * (r + 1)) = true := by
  have m1 := mul_le_of r r 65535 65535 h0 h1 h0 h1
  have m2 := mul_le_of (r + 1) (r + 1) 65536 65536 (by omega) (by omega) (by omega) (by omega)
  have m3 := Int.mul_nonneg h0 h0
  have m4 := Int.mul_nonneg (show 0 ≤ r + 1 by omega) (show 0 ≤ r + 1 by omega)
  exact ⟨IntWalk.i64_in _ (by omega), IntWalk.i64_in _ (by omega), le_yes h0, le_yes h2, lt_yes h3⟩
theorem rootNear_in (a A : Int) (w : World) (hA : 0 ≤ A) (hA2 : A ≤ 2147483647)
    (c1 : Calls Try.prog 11 #[.int .i64 a, .int .i64 2147483648] w fun e w' => e = .returned (.int .i64 A) ∧ w = w') :
    Calls Try.prog 5 #[.int .i64 a] w fun e w' => e = .returned (.bool true) ∧ w = w' := by
  go_enter Try.func5, Try.ntmps5
  go_wp2_with (first | (go_at_call 11; (with_reducible refine (c1).mono ?_); rintro e w1 ⟨rfl, rfl⟩) | (go_at_call 13; (with_reducible refine (half_any _).mono ?_); rintro e w1 ⟨rfl, rfl⟩) | (go_at_call 14; (with_reducible refine (Root_any A _ hA hA2).mono ?_); rintro e w1 ⟨r, h0, h1, h2, h3, rfl, rfl⟩; obtain ⟨s1, s2, d0, d1, d2⟩ := root_facts h0 h1 h2 h3; clear h2 h3))
  go_ret
  exact ⟨rfl, rfl⟩
theorem rootNear_walk (a : Int) (w : World) :
    Calls Try.prog 5 #[.int .i64 a] w fun e w' => e = .returned (.bool true) ∧ w = w' :=
  rootNear_in a (a % 2147483648) w (by omega) (by omega) (spot_any a 2147483648 w (by omega) (by omega))
end Go.Proofs.Ytdpnadcoehmhbaa
