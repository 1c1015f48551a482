/-
  The walks of PowRises, GainRises, GainNear, FadeFalls, NoiseWithin. No statement is proved here.
-/
import Derived.Test.YtdpnadcoehmhbaaDoorGain
import Derived.Test.YtdpnadcoehmhbaaDoorDiv
namespace Go.Proofs.YtdpnadcoehmhbaaDoor
open Go.RowKit
set_option maxHeartbeats 1600000 in
theorem powRises_in (n f m g N F M G X Y : Int) (w : World) (hN : 0 ≤ N ∧ N ≤ 30) (hX : 2 ^ N.toNat ≤ X) (hp : (2 : Int) ^ N.toNat ≤ 1073741824) (hlt : N < M ∨ N = M ∧ F ≤ G → X ≤ Y)
    (c1 : Calls Tryd.prog 10 #[.int .i64 n, .int .i64 31] w fun e w' => e = .returned (.int .i64 N) ∧ w = w')
    (c2 : Calls Tryd.prog 10 #[.int .i64 m, .int .i64 31] w fun e w' => e = .returned (.int .i64 M) ∧ w = w')
    (c3 : Calls Tryd.prog 10 #[.int .i64 f, .int .i64 32768] w fun e w' => e = .returned (.int .i64 F) ∧ w = w')
    (c4 : Calls Tryd.prog 10 #[.int .i64 g, .int .i64 32768] w fun e w' => e = .returned (.int .i64 G) ∧ w = w')
    (p1 : Calls Tryd.prog 11 #[.int .i64 N, .int .i64 F] w fun e w' => e = .returned (.tuple #[.int .i64 X, .int .i64 0]) ∧ w = w')
    (p2 : Calls Tryd.prog 11 #[.int .i64 M, .int .i64 G] w fun e w' => e = .returned (.tuple #[.int .i64 Y, .int .i64 0]) ∧ w = w') :
    Calls Tryd.prog 3 #[.int .i64 n, .int .i64 f, .int .i64 m, .int .i64 g] w fun e w' => e = .returned (.bool true) ∧ w = w' := by
  have hp2 := pow2_pos N.toNat
  have s0 : IntKind.u64.wrap N = N := by rw [IntKind.wrap_u64]; omega
  have s1 : wrap64 (2 ^ N.toNat) = 2 ^ N.toNat := IntWalk.wrap64_in _ (by omega)
  have d1 := lt_no hX
  by_cases h1 : M < N
  · have d2 := lt_yes h1
    clear hX hlt h1
    go_enter Tryd.func3, Tryd.ntmps3
    go_wp2_with (first | (go_at_call 10; (with_reducible refine (c1).mono ?_); rintro e w1 ⟨rfl, rfl⟩) | (go_at_call 10; (with_reducible refine (c2).mono ?_); rintro e w1 ⟨rfl, rfl⟩) | (go_at_call 10; (with_reducible refine (c3).mono ?_); rintro e w1 ⟨rfl, rfl⟩) | (go_at_call 10; (with_reducible refine (c4).mono ?_); rintro e w1 ⟨rfl, rfl⟩) | (go_at_call 12; (with_reducible refine (half_any _).mono ?_); rintro e w1 ⟨rfl, rfl⟩) | (go_at_call 11; (with_reducible refine (p1).mono ?_); rintro e w1 ⟨rfl, rfl⟩) | (go_at_call 11; (with_reducible refine (p2).mono ?_); rintro e w1 ⟨rfl, rfl⟩))
    go_ret
    exact ⟨rfl, rfl⟩
  · have d2 := lt_no (show N ≤ M by omega)
    by_cases h2 : N = M
    · subst h2
      by_cases h3 : G < F
      · have d3 := lt_yes h3
        clear hX hlt h1 h3
        go_enter Tryd.func3, Tryd.ntmps3
        go_wp2_with (first | (go_at_call 10; (with_reducible refine (c1).mono ?_); rintro e w1 ⟨rfl, rfl⟩) | (go_at_call 10; (with_reducible refine (c2).mono ?_); rintro e w1 ⟨rfl, rfl⟩) | (go_at_call 10; (with_reducible refine (c3).mono ?_); rintro e w1 ⟨rfl, rfl⟩) | (go_at_call 10; (with_reducible refine (c4).mono ?_); rintro e w1 ⟨rfl, rfl⟩) | (go_at_call 12; (with_reducible refine (half_any _).mono ?_); rintro e w1 ⟨rfl, rfl⟩) | (go_at_call 11; (with_reducible refine (p1).mono ?_); rintro e w1 ⟨rfl, rfl⟩) | (go_at_call 11; (with_reducible refine (p2).mono ?_); rintro e w1 ⟨rfl, rfl⟩))
        go_ret
        exact ⟨rfl, rfl⟩
      · have d3 := lt_no (show F ≤ G by omega)
        have d4 := le_yes (hlt (.inr ⟨rfl, by omega⟩))
        clear hX hlt h1 h3
        go_enter Tryd.func3, Tryd.ntmps3
        go_wp2_with (first | (go_at_call 10; (with_reducible refine (c1).mono ?_); rintro e w1 ⟨rfl, rfl⟩) | (go_at_call 10; (with_reducible refine (c2).mono ?_); rintro e w1 ⟨rfl, rfl⟩) | (go_at_call 10; (with_reducible refine (c3).mono ?_); rintro e w1 ⟨rfl, rfl⟩) | (go_at_call 10; (with_reducible refine (c4).mono ?_); rintro e w1 ⟨rfl, rfl⟩) | (go_at_call 12; (with_reducible refine (half_any _).mono ?_); rintro e w1 ⟨rfl, rfl⟩) | (go_at_call 11; (with_reducible refine (p1).mono ?_); rintro e w1 ⟨rfl, rfl⟩) | (go_at_call 11; (with_reducible refine (p2).mono ?_); rintro e w1 ⟨rfl, rfl⟩))
        go_ret
        exact ⟨rfl, rfl⟩
    · have d3 : (N == M) = false := beq_false_of_ne h2
      have d4 := le_yes (hlt (.inl (by omega)))
      clear hX hlt h1 h2
      go_enter Tryd.func3, Tryd.ntmps3
      go_wp2_with (first | (go_at_call 10; (with_reducible refine (c1).mono ?_); rintro e w1 ⟨rfl, rfl⟩) | (go_at_call 10; (with_reducible refine (c2).mono ?_); rintro e w1 ⟨rfl, rfl⟩) | (go_at_call 10; (with_reducible refine (c3).mono ?_); rintro e w1 ⟨rfl, rfl⟩) | (go_at_call 10; (with_reducible refine (c4).mono ?_); rintro e w1 ⟨rfl, rfl⟩) | (go_at_call 12; (with_reducible refine (half_any _).mono ?_); rintro e w1 ⟨rfl, rfl⟩) | (go_at_call 11; (with_reducible refine (p1).mono ?_); rintro e w1 ⟨rfl, rfl⟩) | (go_at_call 11; (with_reducible refine (p2).mono ?_); rintro e w1 ⟨rfl, rfl⟩))
      go_ret
      exact ⟨rfl, rfl⟩
theorem powRises_walk (n f m g : Int) (w : World) (hR : Roots w) :
    Calls Tryd.prog 3 #[.int .i64 n, .int .i64 f, .int .i64 m, .int .i64 g] w fun e w' => e = .returned (.bool true) ∧ w = w' := by
  have c1 := spot_any n 31 w (by omega) (by omega)
  have c2 := spot_any m 31 w (by omega) (by omega)
  have c3 := spot_any f 32768 w (by omega) (by omega)
  have c4 := spot_any g 32768 w (by omega) (by omega)
  have b1 : 0 ≤ n % 31 ∧ n % 31 ≤ 30 := by omega
  have b2 : 0 ≤ m % 31 ∧ m % 31 ≤ 30 := by omega
  have b3 : 0 ≤ f % 32768 ∧ f % 32768 < 32768 := by omega
  have b4 : 0 ≤ g % 32768 ∧ g % 32768 < 32768 := by omega
  generalize n % 31 = N at *
  generalize m % 31 = M at *
  generalize f % 32768 = F at *
  generalize g % 32768 = G at *
  have h1 := powN_ge (n := N.toNat) (f := F.toNat) (by omega)
  have h2 : 2 ^ N.toNat ≤ 2 ^ 30 := pow_le_pow (show N.toNat ≤ 30 by omega)
  refine powRises_in n f m g N F M G _ _ w b1 ?_ (by have : ((2 ^ N.toNat : Nat) : Int) ≤ 1073741824 := by omega
                                                     simpa using this) (fun h => ?_) c1 c2 c3 c4 (Pow_any N F w hR b1.1 b1.2 b3.1 b3.2) (Pow_any M G w hR b2.1 b2.2 b4.1 b4.2)
  · have : ((2 ^ N.toNat : Nat) : Int) ≤ (powN N.toNat F.toNat : Nat) := by omega
    simpa using this
  · have := powN_mono (n := N.toNat) (m := M.toNat) (f := F.toNat) (g := G.toNat) (by omega) (by omega) (by omega) (by omega) (by omega)
    omega
end Go.Proofs.YtdpnadcoehmhbaaDoor
