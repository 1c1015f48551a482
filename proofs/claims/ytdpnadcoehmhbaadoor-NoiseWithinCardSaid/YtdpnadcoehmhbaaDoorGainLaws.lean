/-
  The walks of GainRises, GainNear, FadeFalls, NoiseWithin. No statement is proved here.
-/
import Derived.Test.YtdpnadcoehmhbaaDoorGain
namespace Go.Proofs.YtdpnadcoehmhbaaDoor
open Go.RowKit
theorem lev_8 : lev 8 = 64 := by decide +kernel
theorem Level_8 (w : World) (hR : Roots w) : Calls Tryd.prog 13 #[.int .i64 8] w fun e w' => e = .returned (.tuple #[.int .i64 64, .int .i64 0]) ∧ w = w' := by
  have h := Level_any 8 w hR (by omega) (by omega)
  rw [lev_8] at h; exact h
theorem Fade_9 (w : World) : Calls Tryd.prog 16 #[.int .i64 9, .int .i64 0] w fun e w' => e = .returned (.int .i64 9) ∧ w = w' := by
  have h := Fade_any 9 0 w (by omega) (by omega) (by omega) (by omega)
  rw [show fade 9 0 = 9 from rfl] at h; exact h
theorem loud_any (w : World) (hR : Roots w) : Calls Tryd.prog 14 #[] w fun e w' => e = .returned (.bool true) ∧ w = w' := by
  go_enter Tryd.func14, Tryd.ntmps14
  go_wp2_with (first | (go_at_call 13; (with_reducible refine (Level_8 _ hR).mono ?_); rintro e w1 ⟨rfl, rfl⟩) | (go_at_call 16; (with_reducible refine (Fade_9 _).mono ?_); rintro e w1 ⟨rfl, rfl⟩))
  go_ret
  exact ⟨rfl, rfl⟩
set_option maxHeartbeats 800000 in
theorem gainRises_in (n N X Y : Int) (w : World) (hN : 0 ≤ N ∧ N ≤ 30) (h8 : 8 ≤ X) (hXY : X < Y) (hY : Y ≤ 32767)
    (l1 : Calls Tryd.prog 14 #[] w fun e w' => e = .returned (.bool true) ∧ w = w')
    (c1 : Calls Tryd.prog 10 #[.int .i64 n, .int .i64 31] w fun e w' => e = .returned (.int .i64 N) ∧ w = w')
    (p1 : Calls Tryd.prog 13 #[.int .i64 N] w fun e w' => e = .returned (.tuple #[.int .i64 X, .int .i64 0]) ∧ w = w')
    (p2 : Calls Tryd.prog 13 #[.int .i64 (N + 1)] w fun e w' => e = .returned (.tuple #[.int .i64 Y, .int .i64 0]) ∧ w = w') :
    Calls Tryd.prog 4 #[.int .i64 n] w fun e w' => e = .returned (.bool true) ∧ w = w' := by
  have d1 := le_yes h8
  have d2 := lt_yes hXY
  have d3 := le_yes hY
  go_enter Tryd.func4, Tryd.ntmps4
  go_wp2_with (first | (go_at_call 10; (with_reducible refine (c1).mono ?_); rintro e w1 ⟨rfl, rfl⟩) | (go_at_call 10; (with_reducible refine (c2).mono ?_); rintro e w1 ⟨rfl, rfl⟩) | (go_at_call 10; (with_reducible refine (c3).mono ?_); rintro e w1 ⟨rfl, rfl⟩) | (go_at_call 14; (with_reducible refine (l1).mono ?_); rintro e w1 ⟨rfl, rfl⟩) | (go_at_call 13; (with_reducible refine (p1).mono ?_); rintro e w1 ⟨rfl, rfl⟩) | (go_at_call 13; (with_reducible refine (p2).mono ?_); rintro e w1 ⟨rfl, rfl⟩) | (go_at_call 15; (with_reducible refine (o1).mono ?_); rintro e w1 ⟨rfl, rfl⟩) | (go_at_call 16; (with_reducible refine (p1).mono ?_); rintro e w1 ⟨rfl, rfl⟩) | (go_at_call 16; (with_reducible refine (p2).mono ?_); rintro e w1 ⟨rfl, rfl⟩) | (go_at_call 16; (with_reducible refine (p3).mono ?_); rintro e w1 ⟨rfl, rfl⟩) | (go_at_call 17; (with_reducible refine (p1).mono ?_); rintro e w1 ⟨rfl, rfl⟩) | (go_at_call 17; (with_reducible refine (p2).mono ?_); rintro e w1 ⟨rfl, rfl⟩))
  go_ret
  exact ⟨rfl, rfl⟩
theorem gainRises_walk (n : Int) (w : World) (hR : Roots w) :
    Calls Tryd.prog 4 #[.int .i64 n] w fun e w' => e = .returned (.bool true) ∧ w = w' := by
  have c1 := spot_any n 31 w (by omega) (by omega)
  have b1 : 0 ≤ n % 31 ∧ n % 31 ≤ 30 := by omega
  generalize n % 31 = N at *
  have h := levN_facts (n := N.toNat) (by omega)
  rw [show N.toNat + 1 = (N + 1).toNat by omega] at h
  exact gainRises_in n N (lev N) (lev (N + 1)) w b1 (by unfold lev; omega) (by unfold lev; omega) (by unfold lev; omega) (loud_any w hR) c1 (Level_any N w hR (by omega) (by omega)) (Level_any (N + 1) w hR (by omega) (by omega))
set_option maxHeartbeats 1600000 in
theorem gainNear_in (c e n C E N X Y : Int) (B : Nat) (w : World) (hC : 0 ≤ C ∧ C ≤ 1099511627775) (hE : 0 ≤ E ∧ E ≤ 1073741823) (hX : 0 ≤ X ∧ X ≤ 32767) (hY : 0 ≤ Y ∧ Y ≤ 32767)
    (hn : max (X * (1 + E) - (1 + C)) (-(X * (1 + E) - (1 + C))) ≤ max (Y * (1 + E) - (1 + C)) (-(Y * (1 + E) - (1 + C))))
    (l1 : Calls Tryd.prog 14 #[] w fun e w' => e = .returned (.bool true) ∧ w = w')
    (c1 : Calls Tryd.prog 10 #[.int .i64 c, .int .i64 1099511627776] w fun e w' => e = .returned (.int .i64 C) ∧ w = w')
    (c2 : Calls Tryd.prog 10 #[.int .i64 e, .int .i64 1073741824] w fun e w' => e = .returned (.int .i64 E) ∧ w = w')
    (c3 : Calls Tryd.prog 10 #[.int .i64 n, .int .i64 32] w fun e w' => e = .returned (.int .i64 N) ∧ w = w')
    (o1 : Calls Tryd.prog 15 #[.int .i64 (1 + C), .int .i64 (1 + E)] w fun e w' => e = .returned (.int .i64 B) ∧ w = w')
    (p1 : Calls Tryd.prog 13 #[.int .i64 B] w fun e w' => e = .returned (.tuple #[.int .i64 X, .int .i64 0]) ∧ w = w')
    (p2 : Calls Tryd.prog 13 #[.int .i64 N] w fun e w' => e = .returned (.tuple #[.int .i64 Y, .int .i64 0]) ∧ w = w') :
    Calls Tryd.prog 5 #[.int .i64 c, .int .i64 e, .int .i64 n] w fun e w' => e = .returned (.bool true) ∧ w = w' := by
  have m1 := mul_le_of X (1 + E) 32767 1073741824 hX.1 hX.2 (by omega) (by omega)
  have m2 := mul_le_of Y (1 + E) 32767 1073741824 hY.1 hY.2 (by omega) (by omega)
  have s1 : IntKind.i64.wrap (X * (1 + E)) = X * (1 + E) := IntWalk.i64_in _ (by omega)
  have s2 : IntKind.i64.wrap (Y * (1 + E)) = Y * (1 + E) := IntWalk.i64_in _ (by omega)
  have HN := Lib.hid hn
  clear hn
  go_enter Tryd.func5, Tryd.ntmps5
  go_wp2_with (first | (go_at_call 10; (with_reducible refine (c1).mono ?_); rintro e w1 ⟨rfl, rfl⟩) | (go_at_call 10; (with_reducible refine (c2).mono ?_); rintro e w1 ⟨rfl, rfl⟩) | (go_at_call 10; (with_reducible refine (c3).mono ?_); rintro e w1 ⟨rfl, rfl⟩) | (go_at_call 14; (with_reducible refine (l1).mono ?_); rintro e w1 ⟨rfl, rfl⟩) | (go_at_call 13; (with_reducible refine (p1).mono ?_); rintro e w1 ⟨rfl, rfl⟩) | (go_at_call 13; (with_reducible refine (p2).mono ?_); rintro e w1 ⟨rfl, rfl⟩) | (go_at_call 15; (with_reducible refine (o1).mono ?_); rintro e w1 ⟨rfl, rfl⟩) | (go_at_call 16; (with_reducible refine (p1).mono ?_); rintro e w1 ⟨rfl, rfl⟩) | (go_at_call 16; (with_reducible refine (p2).mono ?_); rintro e w1 ⟨rfl, rfl⟩) | (go_at_call 16; (with_reducible refine (p3).mono ?_); rintro e w1 ⟨rfl, rfl⟩) | (go_at_call 17; (with_reducible refine (p1).mono ?_); rintro e w1 ⟨rfl, rfl⟩) | (go_at_call 17; (with_reducible refine (p2).mono ?_); rintro e w1 ⟨rfl, rfl⟩))
  all_goals
    have hn := HN.out
    clear HN
    go_ret
    exact ⟨congrArg (fun b => Ending.returned (.bool b)) (decide_eq_true (by omega)), rfl⟩
theorem gainNear_walk (c e n : Int) (w : World) (hR : Roots w) :
    Calls Tryd.prog 5 #[.int .i64 c, .int .i64 e, .int .i64 n] w fun e w' => e = .returned (.bool true) ∧ w = w' := by
  have c1 := spot_any c 1099511627776 w (by omega) (by omega)
  have c2 := spot_any e 1073741824 w (by omega) (by omega)
  have c3 := spot_any n 32 w (by omega) (by omega)
  have b1 : 0 ≤ c % 1099511627776 ∧ c % 1099511627776 ≤ 1099511627775 := by omega
  have b2 : 0 ≤ e % 1073741824 ∧ e % 1073741824 ≤ 1073741823 := by omega
  have b3 : 0 ≤ n % 32 ∧ n % 32 ≤ 31 := by omega
  generalize c % 1099511627776 = C at *
  generalize e % 1073741824 = E at *
  generalize n % 32 = N at *
  have o1 := One_any (1 + C) (1 + E) w hR (by omega) (by omega) (by omega) (by omega)
  have hB := bestN_best levK (1 + E) (2 * (1 + C)) 31
  generalize bestN levK (1 + E) (2 * (1 + C)) 31 = B at *
  have hBl := hB.1
  have h := hB.near (by omega) (fun i j h1 h2 => lev_mono (by omega) (by omega) (by omega)) (m := N.toNat) (by omega)
  rw [show ((N.toNat : Nat) : Int) = N by omega] at h
  have hx := lev_bd (n := (B : Int)) (by omega) (by omega)
  have hy := lev_bd (n := N) (by omega) (by omega)
  exact gainNear_in c e n C E N (levK B) (lev N) B w b1 b2 ⟨by show 0 ≤ lev (B : Int); omega, hx.2⟩ ⟨by omega, hy.2⟩ h (loud_any w hR) c1 c2 c3 o1 (Level_any _ w hR (by omega) (by omega)) (Level_any N w hR (by omega) (by omega))
set_option maxHeartbeats 1600000 in
theorem fadeFalls_in (g n G N X Y : Int) (w : World) (hG : 0 ≤ G ∧ G ≤ 32767) (hN : 0 ≤ N ∧ N ≤ 8) (h1 : Y ≤ X) (h2 : 0 ≤ Y) (h3 : X ≤ G) (h4 : G = 0 ∨ X = 0 ∨ Y < X)
    (l1 : Calls Tryd.prog 14 #[] w fun e w' => e = .returned (.bool true) ∧ w = w')
    (c1 : Calls Tryd.prog 10 #[.int .i64 g, .int .i64 32768] w fun e w' => e = .returned (.int .i64 G) ∧ w = w')
    (c2 : Calls Tryd.prog 10 #[.int .i64 n, .int .i64 9] w fun e w' => e = .returned (.int .i64 N) ∧ w = w')
    (p1 : Calls Tryd.prog 16 #[.int .i64 G, .int .i64 N] w fun e w' => e = .returned (.int .i64 X) ∧ w = w')
    (p2 : Calls Tryd.prog 16 #[.int .i64 G, .int .i64 (N + 1)] w fun e w' => e = .returned (.int .i64 Y) ∧ w = w')
    (p3 : Calls Tryd.prog 16 #[.int .i64 G, .int .i64 6] w fun e w' => e = .returned (.int .i64 0) ∧ w = w') :
    Calls Tryd.prog 6 #[.int .i64 g, .int .i64 n] w fun e w' => e = .returned (.bool true) ∧ w = w' := by
  have d1 := le_yes h1
  have d2 := le_yes h2
  have d3 := le_yes h3
  by_cases k1 : G = 0
  · subst k1
    clear h4
    go_enter Tryd.func6, Tryd.ntmps6
    go_wp2_with (first | (go_at_call 10; (with_reducible refine (c1).mono ?_); rintro e w1 ⟨rfl, rfl⟩) | (go_at_call 10; (with_reducible refine (c2).mono ?_); rintro e w1 ⟨rfl, rfl⟩) | (go_at_call 10; (with_reducible refine (c3).mono ?_); rintro e w1 ⟨rfl, rfl⟩) | (go_at_call 14; (with_reducible refine (l1).mono ?_); rintro e w1 ⟨rfl, rfl⟩) | (go_at_call 13; (with_reducible refine (p1).mono ?_); rintro e w1 ⟨rfl, rfl⟩) | (go_at_call 13; (with_reducible refine (p2).mono ?_); rintro e w1 ⟨rfl, rfl⟩) | (go_at_call 15; (with_reducible refine (o1).mono ?_); rintro e w1 ⟨rfl, rfl⟩) | (go_at_call 16; (with_reducible refine (p1).mono ?_); rintro e w1 ⟨rfl, rfl⟩) | (go_at_call 16; (with_reducible refine (p2).mono ?_); rintro e w1 ⟨rfl, rfl⟩) | (go_at_call 16; (with_reducible refine (p3).mono ?_); rintro e w1 ⟨rfl, rfl⟩) | (go_at_call 17; (with_reducible refine (p1).mono ?_); rintro e w1 ⟨rfl, rfl⟩) | (go_at_call 17; (with_reducible refine (p2).mono ?_); rintro e w1 ⟨rfl, rfl⟩))
    go_ret
    exact ⟨rfl, rfl⟩
  · have k1' : (G == 0) = false := beq_false_of_ne k1
    by_cases k2 : X = 0
    · subst k2
      clear h4 k1
      go_enter Tryd.func6, Tryd.ntmps6
      go_wp2_with (first | (go_at_call 10; (with_reducible refine (c1).mono ?_); rintro e w1 ⟨rfl, rfl⟩) | (go_at_call 10; (with_reducible refine (c2).mono ?_); rintro e w1 ⟨rfl, rfl⟩) | (go_at_call 10; (with_reducible refine (c3).mono ?_); rintro e w1 ⟨rfl, rfl⟩) | (go_at_call 14; (with_reducible refine (l1).mono ?_); rintro e w1 ⟨rfl, rfl⟩) | (go_at_call 13; (with_reducible refine (p1).mono ?_); rintro e w1 ⟨rfl, rfl⟩) | (go_at_call 13; (with_reducible refine (p2).mono ?_); rintro e w1 ⟨rfl, rfl⟩) | (go_at_call 15; (with_reducible refine (o1).mono ?_); rintro e w1 ⟨rfl, rfl⟩) | (go_at_call 16; (with_reducible refine (p1).mono ?_); rintro e w1 ⟨rfl, rfl⟩) | (go_at_call 16; (with_reducible refine (p2).mono ?_); rintro e w1 ⟨rfl, rfl⟩) | (go_at_call 16; (with_reducible refine (p3).mono ?_); rintro e w1 ⟨rfl, rfl⟩) | (go_at_call 17; (with_reducible refine (p1).mono ?_); rintro e w1 ⟨rfl, rfl⟩) | (go_at_call 17; (with_reducible refine (p2).mono ?_); rintro e w1 ⟨rfl, rfl⟩))
      go_ret
      exact ⟨rfl, rfl⟩
    · have k2' : (X == 0) = false := beq_false_of_ne k2
      have d4 := lt_yes (show Y < X by omega)
      clear h4 k1 k2
      go_enter Tryd.func6, Tryd.ntmps6
      go_wp2_with (first | (go_at_call 10; (with_reducible refine (c1).mono ?_); rintro e w1 ⟨rfl, rfl⟩) | (go_at_call 10; (with_reducible refine (c2).mono ?_); rintro e w1 ⟨rfl, rfl⟩) | (go_at_call 10; (with_reducible refine (c3).mono ?_); rintro e w1 ⟨rfl, rfl⟩) | (go_at_call 14; (with_reducible refine (l1).mono ?_); rintro e w1 ⟨rfl, rfl⟩) | (go_at_call 13; (with_reducible refine (p1).mono ?_); rintro e w1 ⟨rfl, rfl⟩) | (go_at_call 13; (with_reducible refine (p2).mono ?_); rintro e w1 ⟨rfl, rfl⟩) | (go_at_call 15; (with_reducible refine (o1).mono ?_); rintro e w1 ⟨rfl, rfl⟩) | (go_at_call 16; (with_reducible refine (p1).mono ?_); rintro e w1 ⟨rfl, rfl⟩) | (go_at_call 16; (with_reducible refine (p2).mono ?_); rintro e w1 ⟨rfl, rfl⟩) | (go_at_call 16; (with_reducible refine (p3).mono ?_); rintro e w1 ⟨rfl, rfl⟩) | (go_at_call 17; (with_reducible refine (p1).mono ?_); rintro e w1 ⟨rfl, rfl⟩) | (go_at_call 17; (with_reducible refine (p2).mono ?_); rintro e w1 ⟨rfl, rfl⟩))
      go_ret
      exact ⟨rfl, rfl⟩
theorem fadeFalls_walk (g n : Int) (w : World) (hR : Roots w) :
    Calls Tryd.prog 6 #[.int .i64 g, .int .i64 n] w fun e w' => e = .returned (.bool true) ∧ w = w' := by
  have c1 := spot_any g 32768 w (by omega) (by omega)
  have c2 := spot_any n 9 w (by omega) (by omega)
  have b1 : 0 ≤ g % 32768 ∧ g % 32768 ≤ 32767 := by omega
  have b2 : 0 ≤ n % 9 ∧ n % 9 ≤ 8 := by omega
  generalize g % 32768 = G at *
  generalize n % 9 = N at *
  have f1 := fade_falls b1.1 b2.1
  have f2 := fade_bd (n := N + 1) b1.1
  have f3 := fade_bd (n := N) b1.1
  exact fadeFalls_in g n G N (fade G N) (fade G (N + 1)) w b1 b2 f1.1 f2.1 f3.2 f1.2 (loud_any w hR) c1 c2 (Fade_any G N w b1.1 b1.2 (by omega) (by omega)) (Fade_any G (N + 1) w b1.1 b1.2 (by omega) (by omega)) (Fade_any G 6 w b1.1 b1.2 (by omega) (by omega))
theorem noise_bd (s z : Int) : -(min (max z 0) 32767) ≤ noiseN s z ∧ noiseN s z ≤ min (max z 0) 32767 := by
  have h := seedN_bd s
  unfold noiseN
  have hm : 0 ≤ min (max z 0) 32767 ∧ min (max z 0) 32767 ≤ 32767 := by omega
  generalize min (max z 0) 32767 = m at *
  have m1 := Int.mul_le_mul_of_nonneg_right (show seedN s - 32768 ≤ 32767 by omega) hm.1
  have m2 := Int.mul_le_mul_of_nonneg_right (show -32768 ≤ seedN s - 32768 by omega) hm.1
  omega
theorem seedN_mod (s : Int) : seedN (s % 65536) = seedN s := by unfold seedN; omega
set_option maxHeartbeats 1600000 in
theorem noiseWithin_in (s z S A X m : Int) (w : World) (hm : min (max z 0) 32767 = m) (hm2 : 0 ≤ m ∧ m ≤ 32767) (h1 : 0 ≤ A) (h2 : A < 65536) (h3 : -m ≤ X) (h4 : X ≤ m)
    (l1 : Calls Tryd.prog 14 #[] w fun e w' => e = .returned (.bool true) ∧ w = w')
    (c1 : Calls Tryd.prog 10 #[.int .i64 s, .int .i64 65536] w fun e w' => e = .returned (.int .i64 S) ∧ w = w')
    (p1 : Calls Tryd.prog 17 #[.int .i64 s, .int .i64 z] w fun e w' => e = .returned (.tuple #[.int .i64 A, .int .i64 X]) ∧ w = w')
    (p2 : Calls Tryd.prog 17 #[.int .i64 S, .int .i64 z] w fun e w' => e = .returned (.tuple #[.int .i64 A, .int .i64 X]) ∧ w = w') :
    Calls Tryd.prog 7 #[.int .i64 s, .int .i64 z] w fun e w' => e = .returned (.bool true) ∧ w = w' := by
  have d1 := le_yes h1
  have d2 := lt_yes h2
  have HM : Hid (min (max z 0) 32767 = m ∧ -m ≤ X ∧ X ≤ m) := ⟨hm, h3, h4⟩
  clear hm h3 h4 hm2
  have split3 : z < 0 ∨ (0 ≤ z ∧ z ≤ 32767) ∨ 32767 < z := by omega
  rcases split3 with hz | ⟨hz0, hz⟩ | hz
  · obtain ⟨m1, m2, m3⟩ := HM.out
    have d3 := le_yes (show 0 ≤ X by omega)
    have d4 := le_yes (show X ≤ 0 by omega)
    clear m1 m2 m3
    go_enter Tryd.func7, Tryd.ntmps7
    go_wp2_with (first | (go_at_call 10; (with_reducible refine (c1).mono ?_); rintro e w1 ⟨rfl, rfl⟩) | (go_at_call 10; (with_reducible refine (c2).mono ?_); rintro e w1 ⟨rfl, rfl⟩) | (go_at_call 10; (with_reducible refine (c3).mono ?_); rintro e w1 ⟨rfl, rfl⟩) | (go_at_call 14; (with_reducible refine (l1).mono ?_); rintro e w1 ⟨rfl, rfl⟩) | (go_at_call 13; (with_reducible refine (p1).mono ?_); rintro e w1 ⟨rfl, rfl⟩) | (go_at_call 13; (with_reducible refine (p2).mono ?_); rintro e w1 ⟨rfl, rfl⟩) | (go_at_call 15; (with_reducible refine (o1).mono ?_); rintro e w1 ⟨rfl, rfl⟩) | (go_at_call 16; (with_reducible refine (p1).mono ?_); rintro e w1 ⟨rfl, rfl⟩) | (go_at_call 16; (with_reducible refine (p2).mono ?_); rintro e w1 ⟨rfl, rfl⟩) | (go_at_call 16; (with_reducible refine (p3).mono ?_); rintro e w1 ⟨rfl, rfl⟩) | (go_at_call 17; (with_reducible refine (p1).mono ?_); rintro e w1 ⟨rfl, rfl⟩) | (go_at_call 17; (with_reducible refine (p2).mono ?_); rintro e w1 ⟨rfl, rfl⟩))
    all_goals first | (exfalso; omega) | (go_ret; exact ⟨rfl, rfl⟩)
  · obtain ⟨m1, m2, m3⟩ := HM.out
    have d3 := le_yes (show -z ≤ X by omega)
    have d4 := le_yes (show X ≤ z by omega)
    clear m1 m2 m3
    go_enter Tryd.func7, Tryd.ntmps7
    go_wp2_with (first | (go_at_call 10; (with_reducible refine (c1).mono ?_); rintro e w1 ⟨rfl, rfl⟩) | (go_at_call 10; (with_reducible refine (c2).mono ?_); rintro e w1 ⟨rfl, rfl⟩) | (go_at_call 10; (with_reducible refine (c3).mono ?_); rintro e w1 ⟨rfl, rfl⟩) | (go_at_call 14; (with_reducible refine (l1).mono ?_); rintro e w1 ⟨rfl, rfl⟩) | (go_at_call 13; (with_reducible refine (p1).mono ?_); rintro e w1 ⟨rfl, rfl⟩) | (go_at_call 13; (with_reducible refine (p2).mono ?_); rintro e w1 ⟨rfl, rfl⟩) | (go_at_call 15; (with_reducible refine (o1).mono ?_); rintro e w1 ⟨rfl, rfl⟩) | (go_at_call 16; (with_reducible refine (p1).mono ?_); rintro e w1 ⟨rfl, rfl⟩) | (go_at_call 16; (with_reducible refine (p2).mono ?_); rintro e w1 ⟨rfl, rfl⟩) | (go_at_call 16; (with_reducible refine (p3).mono ?_); rintro e w1 ⟨rfl, rfl⟩) | (go_at_call 17; (with_reducible refine (p1).mono ?_); rintro e w1 ⟨rfl, rfl⟩) | (go_at_call 17; (with_reducible refine (p2).mono ?_); rintro e w1 ⟨rfl, rfl⟩))
    all_goals first | (exfalso; omega) | (go_ret; exact ⟨rfl, rfl⟩)
  · obtain ⟨m1, m2, m3⟩ := HM.out
    have d3 := le_yes (show -32767 ≤ X by omega)
    have d4 := le_yes (show X ≤ 32767 by omega)
    have hz0 : 0 ≤ z := by omega
    clear m1 m2 m3
    go_enter Tryd.func7, Tryd.ntmps7
    go_wp2_with (first | (go_at_call 10; (with_reducible refine (c1).mono ?_); rintro e w1 ⟨rfl, rfl⟩) | (go_at_call 10; (with_reducible refine (c2).mono ?_); rintro e w1 ⟨rfl, rfl⟩) | (go_at_call 10; (with_reducible refine (c3).mono ?_); rintro e w1 ⟨rfl, rfl⟩) | (go_at_call 14; (with_reducible refine (l1).mono ?_); rintro e w1 ⟨rfl, rfl⟩) | (go_at_call 13; (with_reducible refine (p1).mono ?_); rintro e w1 ⟨rfl, rfl⟩) | (go_at_call 13; (with_reducible refine (p2).mono ?_); rintro e w1 ⟨rfl, rfl⟩) | (go_at_call 15; (with_reducible refine (o1).mono ?_); rintro e w1 ⟨rfl, rfl⟩) | (go_at_call 16; (with_reducible refine (p1).mono ?_); rintro e w1 ⟨rfl, rfl⟩) | (go_at_call 16; (with_reducible refine (p2).mono ?_); rintro e w1 ⟨rfl, rfl⟩) | (go_at_call 16; (with_reducible refine (p3).mono ?_); rintro e w1 ⟨rfl, rfl⟩) | (go_at_call 17; (with_reducible refine (p1).mono ?_); rintro e w1 ⟨rfl, rfl⟩) | (go_at_call 17; (with_reducible refine (p2).mono ?_); rintro e w1 ⟨rfl, rfl⟩))
    all_goals first | (exfalso; omega) | (go_ret; exact ⟨rfl, rfl⟩)
theorem noiseWithin_walk (s z : Int) (w : World) (hR : Roots w) :
    Calls Tryd.prog 7 #[.int .i64 s, .int .i64 z] w fun e w' => e = .returned (.bool true) ∧ w = w' := by
  have c1 := spot_any s 65536 w (by omega) (by omega)
  have b := seedN_bd s
  have n := noise_bd s z
  have p2 := Noise_any (s % 65536) z w
  rw [seedN_mod, show noiseN (s % 65536) z = noiseN s z by unfold noiseN; rw [seedN_mod]] at p2
  exact noiseWithin_in s z (s % 65536) (seedN s) (noiseN s z) (min (max z 0) 32767) w rfl (by omega) b.1 b.2 n.1 n.2 (loud_any w hR) c1 (Noise_any s z w) p2
end Go.Proofs.YtdpnadcoehmhbaaDoor
