/-
  hears; the walk of NearestGain. No statement is proved here.
-/
import Derived.Test.YtdpnadcoehmhbaaDoorPitch
namespace Go.Proofs.YtdpnadcoehmhbaaDoor
open Go.RowKit
theorem gain_6 : gainI 6 = 16384 := by decide
theorem near_11 : bestN gainF 1 32768 7 = 6 := by decide
theorem Gain_6 (w : World) (hT : Gains w) : Calls Tryd.prog 19 #[.int .i64 6] w fun e w' => e = .returned (.tuple #[.int .i64 16384, .int .i64 0]) ∧ w = w' := by
  have h := PGain_any 6 w hT (by omega) (by omega)
  rw [gain_6] at h; exact h
theorem Nearest_11 (w : World) (hT : Gains w) : Calls Tryd.prog 18 #[.int .i64 1, .int .i64 1] w fun e w' => e = .returned (.int .i64 6) ∧ Below w.heap.size w w' := by
  have h := Nearest_any 1 1 w hT (by omega) (by omega) (by omega) (by omega)
  rw [show (32768 : Int) * 1 = 32768 from rfl, near_11] at h; exact h
theorem hears_any (w : World) (hT : Gains w) : Calls Tryd.prog 20 #[] w fun e w' => e = .returned (.bool true) ∧ Below w.heap.size w w' := by
  have H := Has.start w
  go_enter Tryd.func20, Tryd.ntmps20
  go_wp2_with (first | (go_at_call 19; (with_reducible refine (Gain_6 _ hT).mono ?_); rintro e w1 ⟨rfl, rfl⟩) | (go_at_call 18; (with_reducible refine (Nearest_11 _ hT).mono ?_); rintro e w1 ⟨rfl, hb⟩; replace H := H.callee hb; clear hb))
  go_ret
  exact ⟨rfl, H.below⟩
set_option maxHeartbeats 3200000 in
theorem nearestGain_in (c e n C E N X Y : Int) (B : Nat) (w : World) (hT : Gains w) (hC : 0 ≤ C ∧ C ≤ 1099511627775) (hE : 0 ≤ E ∧ E ≤ 1099511627775) (hX : 0 ≤ X ∧ X ≤ 18022) (hY : 0 ≤ Y ∧ Y ≤ 18022)
    (hn : max (X * (1 + E) - 16384 * (1 + C)) (-(X * (1 + E) - 16384 * (1 + C))) ≤ max (Y * (1 + E) - 16384 * (1 + C)) (-(Y * (1 + E) - 16384 * (1 + C))))
    (c1 : Calls Tryd.prog 10 #[.int .i64 c, .int .i64 1099511627776] w fun e w' => e = .returned (.int .i64 C) ∧ w = w')
    (c2 : Calls Tryd.prog 10 #[.int .i64 e, .int .i64 1099511627776] w fun e w' => e = .returned (.int .i64 E) ∧ w = w')
    (c3 : ∀ w : World, Calls Tryd.prog 10 #[.int .i64 n, .int .i64 8] w fun e w' => e = .returned (.int .i64 N) ∧ w = w')
    (o1 : Calls Tryd.prog 18 #[.int .i64 (1 + C), .int .i64 (1 + E)] w fun e w' => e = .returned (.int .i64 B) ∧ Below w.heap.size w w')
    (p1 : ∀ w : World, Gains w → Calls Tryd.prog 19 #[.int .i64 B] w fun e w' => e = .returned (.tuple #[.int .i64 X, .int .i64 0]) ∧ w = w')
    (p2 : ∀ w : World, Gains w → Calls Tryd.prog 19 #[.int .i64 N] w fun e w' => e = .returned (.tuple #[.int .i64 Y, .int .i64 0]) ∧ w = w') :
    Calls Tryd.prog 8 #[.int .i64 c, .int .i64 e, .int .i64 n] w fun e w' => e = .returned (.bool true) ∧ Below w.heap.size w w' := by
  have H := Has.start w
  have m1 := mul_le_of X (1 + E) 32767 1099511627776 hX.1 (by omega) (by omega) (by omega)
  have m2 := mul_le_of Y (1 + E) 32767 1099511627776 hY.1 (by omega) (by omega) (by omega)
  have s1 : IntKind.i64.wrap (X * (1 + E)) = X * (1 + E) := IntWalk.i64_in _ (by omega)
  have s2 : IntKind.i64.wrap (Y * (1 + E)) = Y * (1 + E) := IntWalk.i64_in _ (by omega)
  have HN := Lib.hid hn
  have C3 := Lib.hid c3
  have P1 := Lib.hid p1
  have P2 := Lib.hid p2
  clear hn c3 p1 p2
  go_enter Tryd.func8, Tryd.ntmps8
  go_wp2_with (first | (go_at_call 10; (with_reducible refine (c1).mono ?_); rintro e w1 ⟨rfl, rfl⟩) | (go_at_call 10; (with_reducible refine (c2).mono ?_); rintro e w1 ⟨rfl, rfl⟩) | (go_at_call 10; (with_reducible refine (C3.out _).mono ?_); rintro e w1 ⟨rfl, rfl⟩) | (go_at_call 18; (with_reducible refine (o1).mono ?_); rintro e w1 ⟨rfl, hb⟩; replace H := H.callee hb; clear hb) | (go_at_call 19; (with_reducible refine (P1.out _ (hT.has H)).mono ?_); rintro e w1 ⟨rfl, rfl⟩) | (go_at_call 19; (with_reducible refine (P2.out _ (hT.has H)).mono ?_); rintro e w1 ⟨rfl, rfl⟩) | (go_at_call 20; (with_reducible refine (hears_any _ (hT.has H)).mono ?_); rintro e w1 ⟨rfl, hb⟩; replace H := H.callee hb; clear hb))
  all_goals
    have hn := HN.out
    clear HN
    go_ret
    exact ⟨congrArg (fun b => Ending.returned (.bool b)) (decide_eq_true (by omega)), H.below⟩
theorem nearestGain_walk (c e n : Int) (w : World) (hT : Gains w) :
    Calls Tryd.prog 8 #[.int .i64 c, .int .i64 e, .int .i64 n] w fun e w' => e = .returned (.bool true) ∧ Below w.heap.size w w' := by
  have c1 := spot_any c 1099511627776 w (by omega) (by omega)
  have c2 := spot_any e 1099511627776 w (by omega) (by omega)
  have c3 := fun w : World => spot_any n 8 w (by omega) (by omega)
  have b1 : 0 ≤ c % 1099511627776 ∧ c % 1099511627776 ≤ 1099511627775 := by omega
  have b2 : 0 ≤ e % 1099511627776 ∧ e % 1099511627776 ≤ 1099511627775 := by omega
  have b3 : 0 ≤ n % 8 ∧ n % 8 ≤ 7 := by omega
  generalize c % 1099511627776 = C at *
  generalize e % 1099511627776 = E at *
  generalize n % 8 = N at *
  have o1 := Nearest_any (1 + C) (1 + E) w hT (by omega) (by omega) (by omega) (by omega)
  have hB := bestN_best gainF (1 + E) (32768 * (1 + C)) 7
  generalize bestN gainF (1 + E) (32768 * (1 + C)) 7 = B at *
  have hBl := hB.1
  rw [show 32768 * (1 + C) = 2 * (16384 * (1 + C)) by omega] at hB
  have h := hB.near (by omega) (fun i j h1 h2 => gainF_mono h1 h2) (m := N.toNat) (by omega)
  have hx := gainF_bd (i := B) (by omega)
  have hy := gainF_bd (i := N.toNat) (by omega)
  have e1 : gainI (B : Int) = gainF B := rfl
  exact nearestGain_in c e n C E N (gainF B) (gainF N.toNat) B w hT b1 b2 hx hy h c1 c2 c3 o1 (fun w hT => by rw [← e1]; exact PGain_any (B : Int) w hT (by omega) (by omega)) (fun w hT => PGain_any N w hT (by omega) (by omega))
end Go.Proofs.YtdpnadcoehmhbaaDoor
