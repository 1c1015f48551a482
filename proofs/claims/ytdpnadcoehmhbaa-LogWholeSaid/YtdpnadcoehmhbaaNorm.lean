/-
  Norm, and the walk of BasicNormal. No statement is proved here.
-/
import Derived.Test.YtdpnadcoehmhbaaSat
import Derived.Test.YtdpnadcoehmhbaaShift
namespace Go.Proofs.Ytdpnadcoehmhbaa
open Go.RowKit

/-- What Norm answers: the places by which 'x' (of 32 bits) can be moved. -/
def NormOf (x n : Int) : Prop := 0 ≤ n ∧ n ≤ 31 ∧ ((x = 0 ∧ n = 0) ∨ (x ≠ 0 ∧ (1073741824 ≤ x * 2 ^ n.toNat ∨ x * 2 ^ n.toNat < -1073741824) ∧ -2147483648 ≤ x * 2 ^ n.toNat ∧ x * 2 ^ n.toNat ≤ 2147483647))
theorem pow_small (x : Int) (k : Nat) (hx : x ≠ 0) (h : -1073741824 ≤ x * 2 ^ k ∧ x * 2 ^ k < 1073741824) : k ≤ 30 := by
  by_cases hk : k ≤ 30
  · exact hk
  · exfalso
    have h2 := two_le (show 31 ≤ k by omega)
    rw [show (2 : Int) ^ 31 = 2147483648 from rfl] at h2
    generalize (2 : Int) ^ k = p at *
    by_cases h0 : 0 < x
    · have := Int.mul_le_mul_of_nonneg_right (show (1 : Int) ≤ x by omega) (show 0 ≤ p by omega)
      omega
    · have := Int.mul_le_mul_of_nonneg_right (show (1 : Int) ≤ -x by omega) (show 0 ≤ p by omega)
      rw [Int.neg_mul] at this
      omega
theorem pow_step (x : Int) (k : Nat) : x * 2 ^ (k + 1) = x * 2 ^ k * 2 := by rw [Int.pow_succ, Int.mul_assoc]

theorem norm_ex (x : Int) (h0 : x ≠ 0) : ∀ (d k : Nat), k + d = 31 → (-2147483648 ≤ x * 2 ^ k ∧ x * 2 ^ k ≤ 2147483647) → ∃ n, NormOf x n
  | d, k, hd, hb => by
    by_cases hc : -1073741824 ≤ x * 2 ^ k ∧ x * 2 ^ k < 1073741824
    · have hs := pow_small _ k h0 hc
      cases d with
      | zero => omega
      | succ d => exact norm_ex x h0 d (k + 1) (by omega) (by rw [pow_step]; omega)
    · exact ⟨k, by omega, by omega, .inr ⟨h0, by rw [Int.toNat_natCast]; omega⟩⟩
theorem norm_lt {x n m : Int} (hn : NormOf x n) (hm : NormOf x m) : ¬ n < m := by
  intro h
  obtain ⟨n1, n2, n3⟩ := hn
  obtain ⟨m1, m2, m3⟩ := hm
  rcases n3 with ⟨n3, n4⟩ | ⟨n3, n4, n5, n6⟩
  · rcases m3 with ⟨m3, m4⟩ | ⟨m3, m4⟩ <;> omega
  · rcases m3 with ⟨m3, m4⟩ | ⟨m3, m4, m5, m6⟩
    · omega
    · obtain ⟨d, hd⟩ := Nat.exists_eq_add_of_le (show n.toNat + 1 ≤ m.toNat by omega)
      rw [hd, Int.pow_add, ← Int.mul_assoc, pow_step] at m5 m6
      have hp := two_pos d
      generalize x * 2 ^ n.toNat = X at *
      generalize (2 : Int) ^ d = p at *
      rcases n4 with h4 | h4
      · have := Int.mul_le_mul_of_nonneg_left (show (1 : Int) ≤ p by omega) (show 0 ≤ X * 2 by omega)
        omega
      · have := Int.mul_le_mul_of_nonneg_left (show (1 : Int) ≤ p by omega) (show 0 ≤ -(X * 2) by omega)
        simp only [Int.neg_mul, Int.mul_one] at this
        omega
theorem norm_uniq {x n m : Int} (hn : NormOf x n) (hm : NormOf x m) : n = m := by
  have := norm_lt hn hm
  have := norm_lt hm hn
  omega
open Classical in
/-- The number that Norm answers. -/
noncomputable def nrm (x : Int) : Int := if h : ∃ n, NormOf x n then h.choose else 0
theorem nrm_is {x n : Int} (h : NormOf x n) : nrm x = n := by
  unfold nrm
  rw [dif_pos ⟨n, h⟩]
  exact norm_uniq (Exists.choose_spec (⟨n, h⟩ : ∃ n, NormOf x n)) h
theorem nrm_of (x : Int) (hx : -2147483648 ≤ x ∧ x ≤ 2147483647) : NormOf x (nrm x) := by
  have : ∃ n, NormOf x n := by
    by_cases h0 : x = 0
    · exact ⟨0, by omega, by omega, .inl ⟨h0, rfl⟩⟩
    · exact norm_ex x h0 31 0 rfl (by rw [Int.pow_zero, Int.mul_one]; exact hx)
  obtain ⟨n, hn⟩ := this
  rw [nrm_is hn]
  exact hn

theorem Norm_any (a : Int) (w : World) : Calls Try.prog 18 #[.int .i64 a] w fun e w' => ∃ n : Int, NormOf (sat32 a) n ∧ e = .returned (.int .i64 n) ∧ w = w' := by
  have hx := sat32_bd a
  by_cases h0 : sat32 a = 0
  · refine (show Calls Try.prog 18 #[.int .i64 a] w fun e w' => e = .returned (.int .i64 0) ∧ w = w' from ?_).mono fun e w' h => ⟨0, ⟨by omega, by omega, .inl ⟨h0, rfl⟩⟩, h⟩
    go_enter Try.func18, Try.ntmps18
    go_wp2_with (first | (go_at_call 20; (with_reducible refine (in32_any _ _).mono ?_); rintro e w1 ⟨rfl, rfl⟩))
    go_ret
    exact ⟨rfl, rfl⟩
  · have hz := decide_eq_false h0
    go_enter Try.func18, Try.ntmps18
    go_wp2_with (first | (go_at_call 20; (with_reducible refine (in32_any _ _).mono ?_); rintro e w1 ⟨rfl, rfl⟩))
    go_loop [3, 4] (fun n x => ∃ k : Nat, k ≤ 31 ∧ n = .int .i64 k ∧ x = .int .i64 (sat32 a * 2 ^ k) ∧ -2147483648 ≤ sat32 a * 2 ^ k ∧ sat32 a * 2 ^ k ≤ 2147483647) (fun n _ => 32 - (intOf n).toNat)
    case atStart => exact ⟨0, by omega, rfl, by rw [Int.pow_zero, Int.mul_one], by rw [Int.pow_zero, Int.mul_one]; exact hx⟩
    case round =>
      clear hz
      obtain ⟨k, hk, rfl, rfl, hb⟩ := hrel
      by_cases hc : -1073741824 ≤ sat32 a * 2 ^ k ∧ sat32 a * 2 ^ k < 1073741824
      · have hs := pow_small _ k h0 hc
        have hst := Lib.hid (pow_step (sat32 a) k)
        obtain ⟨hc1, hc2⟩ := hc
        have d1 := lt_yes hc2
        have d2 := le_yes hc1
        generalize sat32 a * 2 ^ k = X at *
        go_wp2
        go_round
        case rel => exact ⟨k + 1, by omega, by go_num, by rw [hst.out], by rw [hst.out]; omega⟩
        case measure => simp [intOf]; omega
      · have hn : Hid (NormOf (sat32 a) k) := by
          refine ⟨by omega, by omega, .inr ⟨h0, ?_⟩⟩
          rw [Int.toNat_natCast]
          omega
        by_cases hc2 : sat32 a * 2 ^ k < 1073741824
        · have d1 := lt_yes hc2
          have d2 : decide (-1073741824 ≤ sat32 a * 2 ^ k) = false := le_no (by omega)
          clear hc
          generalize sat32 a * 2 ^ k = X at *
          go_wp2
          go_ret
          exact ⟨_, hn.out, rfl, rfl⟩
        · have d1 := lt_no (show 1073741824 ≤ sat32 a * 2 ^ k by omega)
          clear hc
          generalize sat32 a * 2 ^ k = X at *
          go_wp2
          go_ret
          exact ⟨_, hn.out, rfl, rfl⟩
theorem Norm_fn (a : Int) (w : World) : Calls Try.prog 18 #[.int .i64 a] w fun e w' => e = .returned (.int .i64 (nrm (sat32 a))) ∧ w = w' :=
  (Norm_any a w).mono (by rintro e w1 ⟨n, hn, rfl, rfl⟩; rw [nrm_is hn]; exact ⟨rfl, rfl⟩)
theorem Norm_fn_in (b : Int) (w : World) (hb : -2147483648 ≤ b ∧ b ≤ 2147483647) : Calls Try.prog 18 #[.int .i64 b] w fun e w' => e = .returned (.int .i64 (nrm b)) ∧ w = w' := by
  have := Norm_fn b w
  rwa [sat32_in hb] at this
end Go.Proofs.Ytdpnadcoehmhbaa
