/-
  The walks of QuantBack, QuantRises, QuantNear. No statement is proved here.
-/
import Derived.Test.YtnjblifbkfppoaaDoorQuant
namespace Go.Proofs.YtnjblifbkfppoaaDoor
open Go.RowKit
theorem levels_any (w : World) (hT : Widths w) : Calls Tryd.prog 9 #[] w fun e w' => e = .returned (.bool true) ∧ w = w' := by
  go_enter Tryd.func9, Tryd.ntmps9
  go_wp2_with (first | (go_at_call 7; (with_reducible refine (Width_7 _ hT).mono ?_); rintro e w1 ⟨rfl, rfl⟩) | (go_at_call 7; (with_reducible refine (Width_8 _).mono ?_); rintro e w1 ⟨rfl, rfl⟩))
  go_ret
  exact ⟨rfl, rfl⟩
theorem wide_pow {W M : Int} (hw : Wide W M) : IntKind.u64.wrap W = W ∧ wrap64 (2 ^ W.toNat) = M ∧ (3 ≤ W ∧ W ≤ 6) ∧ 8 ≤ M ∧ M ≤ 64 := by
  rcases hw with ⟨rfl, rfl⟩ | ⟨rfl, rfl⟩ | ⟨rfl, rfl⟩ | ⟨rfl, rfl⟩ <;> exact ⟨by rw [IntKind.wrap_u64]; rfl, by unfold wrap64; rfl, by omega, by omega, by omega⟩
set_option maxHeartbeats 1600000 in
theorem quantBack_in (i n I N W M V : Int) (w : World) (hw : Wide W M) (hV : -31000 ≤ V ∧ V ≤ 31000)
    (l1 : Calls Tryd.prog 9 #[] w fun e w' => e = .returned (.bool true) ∧ w = w')
    (c1 : Calls Tryd.prog 6 #[.int .i64 i, .int .i64 8] w fun e w' => e = .returned (.int .i64 I) ∧ w = w')
    (c2 : Calls Tryd.prog 6 #[.int .i64 n, .int .i64 M] w fun e w' => e = .returned (.int .i64 N) ∧ w = w')
    (b1 : Calls Tryd.prog 7 #[.int .i64 I] w fun e w' => e = .returned (.int .i64 W) ∧ w = w')
    (p1 : Calls Tryd.prog 8 #[.int .i64 I, .int .i64 N] w fun e w' => e = .returned (.tuple #[.int .i64 V, .int .i64 0]) ∧ w = w')
    (o1 : Calls Tryd.prog 10 #[.int .i64 I, .int .i64 V] w fun e w' => e = .returned (.tuple #[.int .i64 N, .int .i64 0]) ∧ w = w') :
    Calls Tryd.prog 4 #[.int .i64 i, .int .i64 n] w fun e w' => e = .returned (.bool true) ∧ w = w' := by
  obtain ⟨q1, q2, ⟨q3, q4⟩, q5, q6⟩ := wide_pow hw
  have d1 := le_yes hV.1
  have d2 := le_yes hV.2
  clear hw
  go_enter Tryd.func4, Tryd.ntmps4
  go_wp2_with (first | (go_at_call 6; (with_reducible refine (c1).mono ?_); rintro e w1 ⟨rfl, rfl⟩) | (go_at_call 6; (with_reducible refine (c2).mono ?_); rintro e w1 ⟨rfl, rfl⟩) | (go_at_call 6; (with_reducible refine (c3).mono ?_); rintro e w1 ⟨rfl, rfl⟩) | (go_at_call 9; (with_reducible refine (l1).mono ?_); rintro e w1 ⟨rfl, rfl⟩) | (go_at_call 7; (with_reducible refine (b1).mono ?_); rintro e w1 ⟨rfl, rfl⟩) | (go_at_call 8; (with_reducible refine (p1).mono ?_); rintro e w1 ⟨rfl, rfl⟩) | (go_at_call 8; (with_reducible refine (p2).mono ?_); rintro e w1 ⟨rfl, rfl⟩) | (go_at_call 8; (with_reducible refine (p3).mono ?_); rintro e w1 ⟨rfl, rfl⟩) | (go_at_call 10; (with_reducible refine (o1).mono ?_); rintro e w1 ⟨rfl, rfl⟩))
  go_ret
  exact ⟨rfl, rfl⟩
theorem quantBack_walk (i n : Int) (w : World) (hT : Widths w) :
    Calls Tryd.prog 4 #[.int .i64 i, .int .i64 n] w fun e w' => e = .returned (.bool true) ∧ w = w' := by
  have c1 := spot_any i 8 w (by omega) (by omega)
  have b : 0 ≤ i % 8 ∧ i % 8 ≤ 7 := by omega
  generalize i % 8 = I at *
  have hw := wide_at b.1 b.2
  obtain ⟨_, _, _, q5, q6⟩ := wide_pow hw
  have c2 := spot_any n (many I) w (by omega) (by omega)
  have n0 := Int.emod_nonneg n (show many I ≠ 0 by omega)
  have n1 := Int.emod_lt_of_pos n (show 0 < many I by omega)
  generalize n % many I = N at *
  have f := levQ_facts hw n0 n1
  have o1 := One_any I (levQ (many I) N) w hT b.1 b.2 (by omega) (by omega)
  have e : ((oneQ (many I) (levQ (many I) N) : Nat) : Int) = N := by
    obtain ⟨k, rfl⟩ := Int.eq_ofNat_of_zero_le n0
    rw [oneQ_back hw n1]
  rw [e] at o1
  exact quantBack_in i n I N (wid I) (many I) (levQ (many I) N) w hw f.1 (levels_any w hT) c1 c2 (Width_any I w hT b.1 b.2) (Level_any I N w hT b.1 b.2 n0 n1) o1
set_option maxHeartbeats 1600000 in
theorem quantRises_in (i n I N W M V V1 : Int) (w : World) (hw : Wide W M) (hN : 0 ≤ N ∧ N < M - 1) (hV : -31000 ≤ V ∧ V ≤ 31000) (hlt : V < V1)
    (l1 : Calls Tryd.prog 9 #[] w fun e w' => e = .returned (.bool true) ∧ w = w')
    (c1 : Calls Tryd.prog 6 #[.int .i64 i, .int .i64 8] w fun e w' => e = .returned (.int .i64 I) ∧ w = w')
    (c2 : Calls Tryd.prog 6 #[.int .i64 n, .int .i64 (M - 1)] w fun e w' => e = .returned (.int .i64 N) ∧ w = w')
    (b1 : Calls Tryd.prog 7 #[.int .i64 I] w fun e w' => e = .returned (.int .i64 W) ∧ w = w')
    (p1 : Calls Tryd.prog 8 #[.int .i64 I, .int .i64 N] w fun e w' => e = .returned (.tuple #[.int .i64 V, .int .i64 0]) ∧ w = w')
    (p2 : Calls Tryd.prog 8 #[.int .i64 I, .int .i64 (N + 1)] w fun e w' => e = .returned (.tuple #[.int .i64 V1, .int .i64 0]) ∧ w = w')
    (p3 : Calls Tryd.prog 8 #[.int .i64 I, .int .i64 (M - 1 - N)] w fun e w' => e = .returned (.tuple #[.int .i64 (-V), .int .i64 0]) ∧ w = w') :
    Calls Tryd.prog 3 #[.int .i64 i, .int .i64 n] w fun e w' => e = .returned (.bool true) ∧ w = w' := by
  obtain ⟨q1, q2, ⟨q3, q4⟩, q5, q6⟩ := wide_pow hw
  have d1 := lt_yes hlt
  clear hw
  go_enter Tryd.func3, Tryd.ntmps3
  go_wp2_with (first | (go_at_call 6; (with_reducible refine (c1).mono ?_); rintro e w1 ⟨rfl, rfl⟩) | (go_at_call 6; (with_reducible refine (c2).mono ?_); rintro e w1 ⟨rfl, rfl⟩) | (go_at_call 6; (with_reducible refine (c3).mono ?_); rintro e w1 ⟨rfl, rfl⟩) | (go_at_call 9; (with_reducible refine (l1).mono ?_); rintro e w1 ⟨rfl, rfl⟩) | (go_at_call 7; (with_reducible refine (b1).mono ?_); rintro e w1 ⟨rfl, rfl⟩) | (go_at_call 8; (with_reducible refine (p1).mono ?_); rintro e w1 ⟨rfl, rfl⟩) | (go_at_call 8; (with_reducible refine (p2).mono ?_); rintro e w1 ⟨rfl, rfl⟩) | (go_at_call 8; (with_reducible refine (p3).mono ?_); rintro e w1 ⟨rfl, rfl⟩) | (go_at_call 10; (with_reducible refine (o1).mono ?_); rintro e w1 ⟨rfl, rfl⟩))
  go_ret
  exact ⟨rfl, rfl⟩
theorem quantRises_walk (i n : Int) (w : World) (hT : Widths w) :
    Calls Tryd.prog 3 #[.int .i64 i, .int .i64 n] w fun e w' => e = .returned (.bool true) ∧ w = w' := by
  have c1 := spot_any i 8 w (by omega) (by omega)
  have b : 0 ≤ i % 8 ∧ i % 8 ≤ 7 := by omega
  generalize i % 8 = I at *
  have hw := wide_at b.1 b.2
  obtain ⟨_, _, _, q5, q6⟩ := wide_pow hw
  have c2 := spot_any n (many I - 1) w (by omega) (by omega)
  have n0 := Int.emod_nonneg n (show many I - 1 ≠ 0 by omega)
  have n1 := Int.emod_lt_of_pos n (show 0 < many I - 1 by omega)
  generalize n % (many I - 1) = N at *
  have f := levQ_facts hw n0 (show N < many I by omega)
  have p3 := Level_any I (many I - 1 - N) w hT b.1 b.2 (by omega) (by omega)
  rw [f.2.1] at p3
  exact quantRises_in i n I N (wid I) (many I) (levQ (many I) N) (levQ (many I) (N + 1)) w hw ⟨n0, n1⟩ f.1 (f.2.2 (by omega)) (levels_any w hT) c1 c2 (Width_any I w hT b.1 b.2) (Level_any I N w hT b.1 b.2 n0 (by omega)) (Level_any I (N + 1) w hT b.1 b.2 (by omega) (by omega)) p3
theorem sq_mono {x y : Int} (h0 : 0 ≤ x) (h : x ≤ y) : x * x ≤ y * y := Int.mul_le_mul h h h0 (by omega)
set_option maxHeartbeats 1600000 in
theorem quantNear_in (i k n I K N B W M V V1 : Int) (w : World) (hw : Wide W M) (hK : 0 ≤ K ∧ K ≤ 65536) (hV : -31000 ≤ V ∧ V ≤ 31000) (hV1 : -31000 ≤ V1 ∧ V1 ≤ 31000)
    (hle : (V - (K - 32768)) * (V - (K - 32768)) ≤ (V1 - (K - 32768)) * (V1 - (K - 32768)))
    (l1 : Calls Tryd.prog 9 #[] w fun e w' => e = .returned (.bool true) ∧ w = w')
    (c1 : Calls Tryd.prog 6 #[.int .i64 i, .int .i64 8] w fun e w' => e = .returned (.int .i64 I) ∧ w = w')
    (c2 : Calls Tryd.prog 6 #[.int .i64 k, .int .i64 65537] w fun e w' => e = .returned (.int .i64 K) ∧ w = w')
    (c3 : Calls Tryd.prog 6 #[.int .i64 n, .int .i64 M] w fun e w' => e = .returned (.int .i64 N) ∧ w = w')
    (b1 : Calls Tryd.prog 7 #[.int .i64 I] w fun e w' => e = .returned (.int .i64 W) ∧ w = w')
    (o1 : Calls Tryd.prog 10 #[.int .i64 I, .int .i64 (K - 32768)] w fun e w' => e = .returned (.tuple #[.int .i64 B, .int .i64 0]) ∧ w = w')
    (p1 : Calls Tryd.prog 8 #[.int .i64 I, .int .i64 B] w fun e w' => e = .returned (.tuple #[.int .i64 V, .int .i64 0]) ∧ w = w')
    (p2 : Calls Tryd.prog 8 #[.int .i64 I, .int .i64 N] w fun e w' => e = .returned (.tuple #[.int .i64 V1, .int .i64 0]) ∧ w = w') :
    Calls Tryd.prog 5 #[.int .i64 i, .int .i64 k, .int .i64 n] w fun e w' => e = .returned (.bool true) ∧ w = w' := by
  obtain ⟨q1, q2, ⟨q3, q4⟩, q5, q6⟩ := wide_pow hw
  have m1 := mul_bd (V - (K - 32768)) (V - (K - 32768)) 100000 100000 (by omega) (by omega) (by omega) (by omega)
  have m2 := mul_bd (V1 - (K - 32768)) (V1 - (K - 32768)) 100000 100000 (by omega) (by omega) (by omega) (by omega)
  have s1 : IntKind.i64.wrap ((V - (K - 32768)) * (V - (K - 32768))) = (V - (K - 32768)) * (V - (K - 32768)) := IntWalk.i64_in _ (by omega)
  have s2 : IntKind.i64.wrap ((V1 - (K - 32768)) * (V1 - (K - 32768))) = (V1 - (K - 32768)) * (V1 - (K - 32768)) := IntWalk.i64_in _ (by omega)
  have d1 := le_yes hle
  clear hw hle m1 m2
  go_enter Tryd.func5, Tryd.ntmps5
  go_wp2_with (first | (go_at_call 6; (with_reducible refine (c1).mono ?_); rintro e w1 ⟨rfl, rfl⟩) | (go_at_call 6; (with_reducible refine (c2).mono ?_); rintro e w1 ⟨rfl, rfl⟩) | (go_at_call 6; (with_reducible refine (c3).mono ?_); rintro e w1 ⟨rfl, rfl⟩) | (go_at_call 9; (with_reducible refine (l1).mono ?_); rintro e w1 ⟨rfl, rfl⟩) | (go_at_call 7; (with_reducible refine (b1).mono ?_); rintro e w1 ⟨rfl, rfl⟩) | (go_at_call 8; (with_reducible refine (p1).mono ?_); rintro e w1 ⟨rfl, rfl⟩) | (go_at_call 8; (with_reducible refine (p2).mono ?_); rintro e w1 ⟨rfl, rfl⟩) | (go_at_call 8; (with_reducible refine (p3).mono ?_); rintro e w1 ⟨rfl, rfl⟩) | (go_at_call 10; (with_reducible refine (o1).mono ?_); rintro e w1 ⟨rfl, rfl⟩))
  go_ret
  exact ⟨rfl, rfl⟩
theorem quantNear_walk (i k n : Int) (w : World) (hT : Widths w) :
    Calls Tryd.prog 5 #[.int .i64 i, .int .i64 k, .int .i64 n] w fun e w' => e = .returned (.bool true) ∧ w = w' := by
  have c1 := spot_any i 8 w (by omega) (by omega)
  have c2 := spot_any k 65537 w (by omega) (by omega)
  have b : 0 ≤ i % 8 ∧ i % 8 ≤ 7 := by omega
  have hK : 0 ≤ k % 65537 ∧ k % 65537 ≤ 65536 := by omega
  generalize i % 8 = I at *
  generalize k % 65537 = K at *
  have hw := wide_at b.1 b.2
  obtain ⟨_, _, _, q5, q6⟩ := wide_pow hw
  have c3 := spot_any n (many I) w (by omega) (by omega)
  have n0 := Int.emod_nonneg n (show many I ≠ 0 by omega)
  have n1 := Int.emod_lt_of_pos n (show 0 < many I by omega)
  generalize n % many I = N at *
  have o1 := One_any I (K - 32768) w hT b.1 b.2 (by omega) (by omega)
  obtain ⟨h1, h2⟩ := oneQ_law hw (k := K - 32768) (by omega)
  generalize oneQ (many I) (K - 32768) = B at *
  have f := levQ_facts hw (n := (B : Int)) (by omega) h1
  have g := levQ_facts hw n0 n1
  refine quantNear_in i k n I K N B (wid I) (many I) (levQ (many I) B) (levQ (many I) N) w hw hK f.1 g.1 ?_ (levels_any w hT) c1 c2 c3 (Width_any I w hT b.1 b.2) o1 (Level_any I B w hT b.1 b.2 (by omega) h1) (Level_any I N w hT b.1 b.2 n0 n1)
  obtain ⟨m, rfl⟩ := Int.eq_ofNat_of_zero_le n0
  rw [← farQ_sq, ← farQ_sq]
  exact sq_mono (by unfold farQ; split <;> omega) (h2 m n1)
end Go.Proofs.YtnjblifbkfppoaaDoor
