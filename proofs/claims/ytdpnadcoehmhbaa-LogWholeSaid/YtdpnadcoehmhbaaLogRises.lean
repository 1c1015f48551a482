/-
  The walk of LogRises. No statement is proved here.
-/
import Derived.Test.YtdpnadcoehmhbaaLog
namespace Go.Proofs.Ytdpnadcoehmhbaa
open Go.RowKit
theorem nrm_top {a : Int} (ha : 1 ≤ a) (ha2 : a ≤ 2147483647) : 0 ≤ nrm a ∧ nrm a ≤ 30 := by
  obtain ⟨n1, n2, n3⟩ := nrm_of a (by omega)
  refine ⟨n1, ?_⟩
  by_cases h : nrm a ≤ 30
  · exact h
  · exfalso
    rw [show nrm a = 31 by omega, show (31 : Int).toNat = 31 from rfl, show (2 : Int) ^ 31 = 2147483648 from rfl] at n3
    omega
theorem log_bits {a : Int} (ha : 1 ≤ a) (ha2 : a ≤ 2147483647) : 0 ≤ (logS (a * 2 ^ (nrm a).toNat) 15).2 ∧ (logS (a * 2 ^ (nrm a).toNat) 15).2 ≤ 32767 := by
  obtain ⟨n1, n2, n3⟩ := nrm_of a (by omega)
  have hp := two_pos (nrm a).toNat
  have hpos : 0 ≤ a * 2 ^ (nrm a).toNat := Int.mul_nonneg (by omega) (by omega)
  have := (logS_bd (a * 2 ^ (nrm a).toNat) (by omega) 15).2
  rw [show (2 : Int) ^ 15 = 32768 from rfl] at this
  omega
set_option maxHeartbeats 1600000 in
theorem rises_in (a b A B m f n g : Int) (w : World) (hA : 0 ≤ A ∧ A ≤ 2147483646) (hB : 0 ≤ B ∧ B ≤ 2147483646) (hm : 0 ≤ m ∧ m ≤ 30) (hn : 0 ≤ n ∧ n ≤ 30) (hf : 0 ≤ f ∧ f ≤ 32767) (hg : 0 ≤ g ∧ g ≤ 32767)
    (hr : B < A ∨ m < n ∨ (m = n ∧ f ≤ g))
    (c1 : Calls Try.prog 11 #[.int .i64 a, .int .i64 2147483647] w fun e w' => e = .returned (.int .i64 A) ∧ w = w')
    (c2 : Calls Try.prog 11 #[.int .i64 b, .int .i64 2147483647] w fun e w' => e = .returned (.int .i64 B) ∧ w = w')
    (e1 : Calls Try.prog 15 #[.int .i64 (1 + A)] w fun e w' => e = .returned (.tuple #[.int .i64 m, .int .i64 f, .int .i64 0]) ∧ w = w')
    (e2 : Calls Try.prog 15 #[.int .i64 (1 + B)] w fun e w' => e = .returned (.tuple #[.int .i64 n, .int .i64 g, .int .i64 0]) ∧ w = w') :
    Calls Try.prog 6 #[.int .i64 a, .int .i64 b] w fun e w' => e = .returned (.bool true) ∧ w = w' := by
  have d1 : decide (f < 0) = false := lt_no hf.1
  have d2 : decide (32767 < f) = false := lt_no hf.2
  have d3 : decide (m < 0) = false := lt_no hm.1
  have d4 : decide (30 < m) = false := lt_no hm.2
  by_cases h1 : B < A
  · have d5 : decide (B < A) = true := lt_yes h1
    clear hr
    go_enter Try.func6, Try.ntmps6
    go_wp2_with (first | (go_at_call 11; (with_reducible refine (c1).mono ?_); rintro e w1 ⟨rfl, rfl⟩) | (go_at_call 11; (with_reducible refine (c2).mono ?_); rintro e w1 ⟨rfl, rfl⟩) | (go_at_call 13; (with_reducible refine (half_any _).mono ?_); rintro e w1 ⟨rfl, rfl⟩) | (go_at_call 15; (with_reducible refine (e1).mono ?_); rintro e w1 ⟨rfl, rfl⟩) | (go_at_call 15; (with_reducible refine (e2).mono ?_); rintro e w1 ⟨rfl, rfl⟩))
    go_ret
    exact ⟨rfl, rfl⟩
  · have d5 : decide (B < A) = false := lt_no (by omega)
    by_cases h2 : m < n
    · have d6 := lt_yes h2
      clear hr
      go_enter Try.func6, Try.ntmps6
      go_wp2_with (first | (go_at_call 11; (with_reducible refine (c1).mono ?_); rintro e w1 ⟨rfl, rfl⟩) | (go_at_call 11; (with_reducible refine (c2).mono ?_); rintro e w1 ⟨rfl, rfl⟩) | (go_at_call 13; (with_reducible refine (half_any _).mono ?_); rintro e w1 ⟨rfl, rfl⟩) | (go_at_call 15; (with_reducible refine (e1).mono ?_); rintro e w1 ⟨rfl, rfl⟩) | (go_at_call 15; (with_reducible refine (e2).mono ?_); rintro e w1 ⟨rfl, rfl⟩))
      go_ret
      exact ⟨rfl, rfl⟩
    · obtain ⟨h3, h4⟩ := (hr.resolve_left h1).resolve_left h2
      have d6 := lt_no (show n ≤ m by omega)
      have d7 : (m == n) = true := beq_iff_eq.2 h3
      have d8 := le_yes h4
      clear hr h3 h1 h2
      go_enter Try.func6, Try.ntmps6
      go_wp2_with (first | (go_at_call 11; (with_reducible refine (c1).mono ?_); rintro e w1 ⟨rfl, rfl⟩) | (go_at_call 11; (with_reducible refine (c2).mono ?_); rintro e w1 ⟨rfl, rfl⟩) | (go_at_call 13; (with_reducible refine (half_any _).mono ?_); rintro e w1 ⟨rfl, rfl⟩) | (go_at_call 15; (with_reducible refine (e1).mono ?_); rintro e w1 ⟨rfl, rfl⟩) | (go_at_call 15; (with_reducible refine (e2).mono ?_); rintro e w1 ⟨rfl, rfl⟩))
      go_ret
      exact ⟨rfl, rfl⟩
theorem logRises_walk (a b : Int) (w : World) :
    Calls Try.prog 6 #[.int .i64 a, .int .i64 b] w fun e w' => e = .returned (.bool true) ∧ w = w' := by
  have c1 := spot_any a 2147483647 w (by omega) (by omega)
  have c2 := spot_any b 2147483647 w (by omega) (by omega)
  have hA : 0 ≤ a % 2147483647 ∧ a % 2147483647 ≤ 2147483646 := by omega
  have hB : 0 ≤ b % 2147483647 ∧ b % 2147483647 ≤ 2147483646 := by omega
  generalize a % 2147483647 = A at *
  generalize b % 2147483647 = B at *
  have hm := nrm_top (a := 1 + A) (by omega) (by omega)
  have hn := nrm_top (a := 1 + B) (by omega) (by omega)
  refine rises_in a b A B _ _ _ _ w hA hB ?_ ?_ (log_bits (a := 1 + A) (by omega) (by omega)) (log_bits (a := 1 + B) (by omega) (by omega)) ?_ c1 c2 (Log_any (1 + A) w (by omega) (by omega)) (Log_any (1 + B) w (by omega) (by omega))
  · omega
  · omega
  · by_cases h : B < A
    · exact .inl h
    · rcases log_le (a := 1 + A) (b := 1 + B) (by omega) (by omega) (by omega) with h1 | ⟨h1, h2⟩
      · exact .inr (.inl h1)
      · exact .inr (.inr ⟨by rw [h1], h2⟩)
end Go.Proofs.Ytdpnadcoehmhbaa
