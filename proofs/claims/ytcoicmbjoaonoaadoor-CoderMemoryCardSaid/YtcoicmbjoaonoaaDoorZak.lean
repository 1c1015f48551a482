/-
  Several texts of this claim, one behind the other: Quant, QuantAll. No statement is proved here.
-/
import Derived.Test.YtcoicmbjoaonoaaDoorZaj
import Derived.Test.YtcoicmbjoaonoaaDoorZac
/-
  quant: Width, Level, One walked. No statement is proved here.
-/
namespace Go.Proofs.YtcoicmbjoaonoaaDoor
set_option linter.unusedVariables false
set_option linter.unusedSimpArgs false
open Go.RowKit
set_option maxRecDepth 100000
theorem lev_form (R D : Int) (h0 : 0 ≤ R) (h1 : R ≤ 64) (hD : 1 ≤ D) (hD2 : D ≤ 4096) : wrap64 (31000 - wrap64 ((wrap64 (31000 * R * R)).tdiv D)) = 31000 - 31000 * R * R / D ∧ 0 ≤ 31000 * R * R / D ∧ 31000 * R * R / D ≤ 126976000 := by
  have m := mul_le_of (31000 * R) R 1984000 64 (by omega) (by omega) h0 h1
  have q0 : 0 ≤ 31000 * R * R / D := Int.ediv_nonneg m.1 (by omega)
  have q1 : 31000 * R * R / D ≤ 31000 * R * R := Int.ediv_le_self _ m.1
  rw [IntWalk.wrap64_in (31000 * R * R) (by omega), Int.tdiv_eq_ediv_of_nonneg m.1, IntWalk.wrap64_in (31000 * R * R / D) (by omega), IntWalk.wrap64_in _ (by omega)]
  omega
set_option maxHeartbeats 3200000 in
theorem Level_in (i n W M : Int) (w : World) (hw : Wide W M) (h0 : 0 ≤ n) (hn : n < M)
    (c1 : Calls Tryd.prog 84 #[.int .i64 i] w fun e w' => e = .returned (.int .i64 W) ∧ w = w') :
    Calls Tryd.prog 63 #[.int .i64 i, .int .i64 n] w fun e w' => e = .returned (.tuple #[.int .i64 (levQ M n), .int .i64 0]) ∧ w = w' := by
  have d1 := lt_no h0
  rcases hw with ⟨rfl, rfl⟩ | ⟨rfl, rfl⟩ | ⟨rfl, rfl⟩ | ⟨rfl, rfl⟩
  · have d2 := lt_no (show n ≤ 7 by omega)
    by_cases hx : 2 * n - 7 < 0
    · have d3 := lt_yes hx
      obtain ⟨f1, f2, f3⟩ := lev_form (8 + (2 * n - 7)) 64 (by omega) (by omega) (by omega) (by omega)
      have HL : Hid (wrap64 (-(wrap64 (31000 - wrap64 ((wrap64 (31000 * (8 + (2 * n - 7)) * (8 + (2 * n - 7)))).tdiv 64)))) = levQ 8 n) := by
        show wrap64 (-(wrap64 (31000 - wrap64 ((wrap64 (31000 * (8 + (2 * n - 7)) * (8 + (2 * n - 7)))).tdiv 64)))) = levQ 8 n
        rw [f1, IntWalk.wrap64_in _ (by omega)]
        unfold levQ
        rw [if_pos (by omega), show (8 : Int) - 1 + 1 - -(2 * n - (8 - 1)) = 8 + (2 * n - 7) by omega]
        rfl
      clear f1 f2 f3
      go_enter Tryd.func63, Tryd.ntmps63
      go_wp2_with (go_at_call 84; (with_reducible refine (c1).mono ?_); rintro e w1 ⟨rfl, rfl⟩)
      go_ret2
      exact ⟨congrArg (fun z => Ending.returned (.tuple #[.int .i64 z, .int .i64 0])) HL.out, rfl⟩
    · have d3 := lt_no (show 0 ≤ 2 * n - 7 by omega)
      obtain ⟨f1, f2, f3⟩ := lev_form (8 - (2 * n - 7)) 64 (by omega) (by omega) (by omega) (by omega)
      have HL : Hid (wrap64 (31000 - wrap64 ((wrap64 (31000 * (8 - (2 * n - 7)) * (8 - (2 * n - 7)))).tdiv 64)) = levQ 8 n) := by
        show wrap64 (31000 - wrap64 ((wrap64 (31000 * (8 - (2 * n - 7)) * (8 - (2 * n - 7)))).tdiv 64)) = levQ 8 n
        rw [f1]
        unfold levQ
        rw [if_neg (by omega), show (8 : Int) - 1 + 1 - (2 * n - (8 - 1)) = 8 - (2 * n - 7) by omega]
        rfl
      clear f1 f2 f3
      go_enter Tryd.func63, Tryd.ntmps63
      go_wp2_with (go_at_call 84; (with_reducible refine (c1).mono ?_); rintro e w1 ⟨rfl, rfl⟩)
      go_ret2
      exact ⟨congrArg (fun z => Ending.returned (.tuple #[.int .i64 z, .int .i64 0])) HL.out, rfl⟩
  · have d2 := lt_no (show n ≤ 15 by omega)
    by_cases hx : 2 * n - 15 < 0
    · have d3 := lt_yes hx
      obtain ⟨f1, f2, f3⟩ := lev_form (16 + (2 * n - 15)) 256 (by omega) (by omega) (by omega) (by omega)
      have HL : Hid (wrap64 (-(wrap64 (31000 - wrap64 ((wrap64 (31000 * (16 + (2 * n - 15)) * (16 + (2 * n - 15)))).tdiv 256)))) = levQ 16 n) := by
        show wrap64 (-(wrap64 (31000 - wrap64 ((wrap64 (31000 * (16 + (2 * n - 15)) * (16 + (2 * n - 15)))).tdiv 256)))) = levQ 16 n
        rw [f1, IntWalk.wrap64_in _ (by omega)]
        unfold levQ
        rw [if_pos (by omega), show (16 : Int) - 1 + 1 - -(2 * n - (16 - 1)) = 16 + (2 * n - 15) by omega]
        rfl
      clear f1 f2 f3
      go_enter Tryd.func63, Tryd.ntmps63
      go_wp2_with (go_at_call 84; (with_reducible refine (c1).mono ?_); rintro e w1 ⟨rfl, rfl⟩)
      go_ret2
      exact ⟨congrArg (fun z => Ending.returned (.tuple #[.int .i64 z, .int .i64 0])) HL.out, rfl⟩
    · have d3 := lt_no (show 0 ≤ 2 * n - 15 by omega)
      obtain ⟨f1, f2, f3⟩ := lev_form (16 - (2 * n - 15)) 256 (by omega) (by omega) (by omega) (by omega)
      have HL : Hid (wrap64 (31000 - wrap64 ((wrap64 (31000 * (16 - (2 * n - 15)) * (16 - (2 * n - 15)))).tdiv 256)) = levQ 16 n) := by
        show wrap64 (31000 - wrap64 ((wrap64 (31000 * (16 - (2 * n - 15)) * (16 - (2 * n - 15)))).tdiv 256)) = levQ 16 n
        rw [f1]
        unfold levQ
        rw [if_neg (by omega), show (16 : Int) - 1 + 1 - (2 * n - (16 - 1)) = 16 - (2 * n - 15) by omega]
        rfl
      clear f1 f2 f3
      go_enter Tryd.func63, Tryd.ntmps63
      go_wp2_with (go_at_call 84; (with_reducible refine (c1).mono ?_); rintro e w1 ⟨rfl, rfl⟩)
      go_ret2
      exact ⟨congrArg (fun z => Ending.returned (.tuple #[.int .i64 z, .int .i64 0])) HL.out, rfl⟩
  · have d2 := lt_no (show n ≤ 31 by omega)
    by_cases hx : 2 * n - 31 < 0
    · have d3 := lt_yes hx
      obtain ⟨f1, f2, f3⟩ := lev_form (32 + (2 * n - 31)) 1024 (by omega) (by omega) (by omega) (by omega)
      have HL : Hid (wrap64 (-(wrap64 (31000 - wrap64 ((wrap64 (31000 * (32 + (2 * n - 31)) * (32 + (2 * n - 31)))).tdiv 1024)))) = levQ 32 n) := by
        show wrap64 (-(wrap64 (31000 - wrap64 ((wrap64 (31000 * (32 + (2 * n - 31)) * (32 + (2 * n - 31)))).tdiv 1024)))) = levQ 32 n
        rw [f1, IntWalk.wrap64_in _ (by omega)]
        unfold levQ
        rw [if_pos (by omega), show (32 : Int) - 1 + 1 - -(2 * n - (32 - 1)) = 32 + (2 * n - 31) by omega]
        rfl
      clear f1 f2 f3
      go_enter Tryd.func63, Tryd.ntmps63
      go_wp2_with (go_at_call 84; (with_reducible refine (c1).mono ?_); rintro e w1 ⟨rfl, rfl⟩)
      go_ret2
      exact ⟨congrArg (fun z => Ending.returned (.tuple #[.int .i64 z, .int .i64 0])) HL.out, rfl⟩
    · have d3 := lt_no (show 0 ≤ 2 * n - 31 by omega)
      obtain ⟨f1, f2, f3⟩ := lev_form (32 - (2 * n - 31)) 1024 (by omega) (by omega) (by omega) (by omega)
      have HL : Hid (wrap64 (31000 - wrap64 ((wrap64 (31000 * (32 - (2 * n - 31)) * (32 - (2 * n - 31)))).tdiv 1024)) = levQ 32 n) := by
        show wrap64 (31000 - wrap64 ((wrap64 (31000 * (32 - (2 * n - 31)) * (32 - (2 * n - 31)))).tdiv 1024)) = levQ 32 n
        rw [f1]
        unfold levQ
        rw [if_neg (by omega), show (32 : Int) - 1 + 1 - (2 * n - (32 - 1)) = 32 - (2 * n - 31) by omega]
        rfl
      clear f1 f2 f3
      go_enter Tryd.func63, Tryd.ntmps63
      go_wp2_with (go_at_call 84; (with_reducible refine (c1).mono ?_); rintro e w1 ⟨rfl, rfl⟩)
      go_ret2
      exact ⟨congrArg (fun z => Ending.returned (.tuple #[.int .i64 z, .int .i64 0])) HL.out, rfl⟩
  · have d2 := lt_no (show n ≤ 63 by omega)
    by_cases hx : 2 * n - 63 < 0
    · have d3 := lt_yes hx
      obtain ⟨f1, f2, f3⟩ := lev_form (64 + (2 * n - 63)) 4096 (by omega) (by omega) (by omega) (by omega)
      have HL : Hid (wrap64 (-(wrap64 (31000 - wrap64 ((wrap64 (31000 * (64 + (2 * n - 63)) * (64 + (2 * n - 63)))).tdiv 4096)))) = levQ 64 n) := by
        show wrap64 (-(wrap64 (31000 - wrap64 ((wrap64 (31000 * (64 + (2 * n - 63)) * (64 + (2 * n - 63)))).tdiv 4096)))) = levQ 64 n
        rw [f1, IntWalk.wrap64_in _ (by omega)]
        unfold levQ
        rw [if_pos (by omega), show (64 : Int) - 1 + 1 - -(2 * n - (64 - 1)) = 64 + (2 * n - 63) by omega]
        rfl
      clear f1 f2 f3
      go_enter Tryd.func63, Tryd.ntmps63
      go_wp2_with (go_at_call 84; (with_reducible refine (c1).mono ?_); rintro e w1 ⟨rfl, rfl⟩)
      go_ret2
      exact ⟨congrArg (fun z => Ending.returned (.tuple #[.int .i64 z, .int .i64 0])) HL.out, rfl⟩
    · have d3 := lt_no (show 0 ≤ 2 * n - 63 by omega)
      obtain ⟨f1, f2, f3⟩ := lev_form (64 - (2 * n - 63)) 4096 (by omega) (by omega) (by omega) (by omega)
      have HL : Hid (wrap64 (31000 - wrap64 ((wrap64 (31000 * (64 - (2 * n - 63)) * (64 - (2 * n - 63)))).tdiv 4096)) = levQ 64 n) := by
        show wrap64 (31000 - wrap64 ((wrap64 (31000 * (64 - (2 * n - 63)) * (64 - (2 * n - 63)))).tdiv 4096)) = levQ 64 n
        rw [f1]
        unfold levQ
        rw [if_neg (by omega), show (64 : Int) - 1 + 1 - (2 * n - (64 - 1)) = 64 - (2 * n - 63) by omega]
        rfl
      clear f1 f2 f3
      go_enter Tryd.func63, Tryd.ntmps63
      go_wp2_with (go_at_call 84; (with_reducible refine (c1).mono ?_); rintro e w1 ⟨rfl, rfl⟩)
      go_ret2
      exact ⟨congrArg (fun z => Ending.returned (.tuple #[.int .i64 z, .int .i64 0])) HL.out, rfl⟩
theorem Level_any (i n : Int) (w : World) (hT : Widths w) (hi : 0 ≤ i) (hi7 : i ≤ 7) (h0 : 0 ≤ n) (hn : n < many i) :
    Calls Tryd.prog 63 #[.int .i64 i, .int .i64 n] w fun e w' => e = .returned (.tuple #[.int .i64 (levQ (many i) n), .int .i64 0]) ∧ w = w' :=
  Level_in i n (wid i) (many i) w (wide_at hi hi7) h0 hn (Width_any i w hT hi hi7)
set_option maxHeartbeats 1600000 in
theorem One_in (i k W M : Int) (w : World) (hw : Wide W M) (hk0 : -32768 ≤ k) (hk : k ≤ 32768)
    (c1 : Calls Tryd.prog 84 #[.int .i64 i] w fun e w' => e = .returned (.int .i64 W) ∧ w = w')
    (c2 : ∀ n : Int, 0 ≤ n → n < M → Calls Tryd.prog 63 #[.int .i64 i, .int .i64 n] w fun e w' => e = .returned (.tuple #[.int .i64 (levQ M n), .int .i64 0]) ∧ w = w') :
    Calls Tryd.prog 62 #[.int .i64 i, .int .i64 k] w fun e w' => e = .returned (.tuple #[.int .i64 (oneQ M k : Nat), .int .i64 0]) ∧ w = w' := by
  have d1 := lt_no hk0
  have d2 := lt_no hk
  have C2 := Lib.hid c2
  clear c2
  have HW := Lib.hid hw
  have hM : 8 ≤ M ∧ M ≤ 64 := by unfold Wide at hw; omega
  obtain ⟨hW0, hW1⟩ : 3 ≤ W ∧ W ≤ 6 := by unfold Wide at hw; omega
  have hp : IntKind.u64.wrap W = W ∧ wrap64 (2 ^ W.toNat) = M ∧ (W == 0) = false := by
    rcases hw with ⟨rfl, rfl⟩ | ⟨rfl, rfl⟩ | ⟨rfl, rfl⟩ | ⟨rfl, rfl⟩ <;> exact ⟨by rw [IntKind.wrap_u64]; rfl, by unfold wrap64; rfl, rfl⟩
  obtain ⟨p1, p2, p3⟩ := hp
  clear hw
  go_enter Tryd.func62, Tryd.ntmps62
  go_wp2_with (go_at_call 84; (with_reducible refine (c1).mono ?_); rintro e w1 ⟨rfl, rfl⟩)
  go_loop [7, 8, 26] (fun b d x => ∃ n : Nat, (n : Int) ≤ M ∧ x = .int .i64 n ∧ b = .int .i64 ((nearQ (fun j => levQ M (j : Int)) k n).1 : Nat) ∧ d = .int .i64 (nearQ (fun j => levQ M (j : Int)) k n).2) (fun _ _ x => (M - intOf x).toNat)
  case atStart => exact ⟨0, by omega, rfl, rfl, rfl⟩
  case round =>
    clear d1 d2 p1 p3 c1
    obtain ⟨n, hn, rfl, rfl, rfl⟩ := hrel
    by_cases hlt : (n : Int) < M
    all_goals
      have t1 : decide ((n : Int) < wrap64 (2 ^ W.toNat)) = decide ((n : Int) < M) := by rw [p2]
      clear p2
    · rw [lt_yes hlt] at t1
      have c3 := C2.out (n : Int) (by omega) hlt
      have v0 := (levQ_facts HW.out (n := (n : Int)) (by omega) hlt).1
      have HN : Hid (nearQ (fun j => levQ M (j : Int)) k (n + 1) = if farQ (levQ M (n : Int)) k < (nearQ (fun j => levQ M (j : Int)) k n).2 then (n, farQ (levQ M (n : Int)) k) else nearQ (fun j => levQ M (j : Int)) k n) := rfl
      generalize hb : nearQ (fun j => levQ M (j : Int)) k n = B at *
      clear hb
      obtain ⟨b, d⟩ := B
      generalize levQ M (n : Int) = v at *
      by_cases hs : v - k < 0
      · have hf : farQ v k = -(v - k) := if_pos hs
        rw [hf] at HN
        clear hf
        have d1 := lt_yes hs
        by_cases hc : -(v - k) < d
        · have HN2 : Hid (nearQ (fun j => levQ M (j : Int)) k (n + 1) = (n, -(v - k))) := HN.out.trans (if_pos hc)
          have d2 := lt_yes hc
          clear HN
          go_wp2_with (go_at_call 63; (with_reducible refine (c3).mono ?_); rintro e w1 ⟨rfl, rfl⟩)
          go_round
          case rel => exact ⟨n + 1, by omega, by go_num, by rw [HN2.out], by rw [HN2.out]⟩
          case measure => simp [intOf]; omega
        · have HN2 : Hid (nearQ (fun j => levQ M (j : Int)) k (n + 1) = (b, d)) := HN.out.trans (if_neg hc)
          have d2 := lt_no (show d ≤ -(v - k) by omega)
          clear HN
          go_wp2_with (go_at_call 63; (with_reducible refine (c3).mono ?_); rintro e w1 ⟨rfl, rfl⟩)
          go_round
          case rel => exact ⟨n + 1, by omega, by go_num, by rw [HN2.out], by rw [HN2.out]⟩
          case measure => simp [intOf]; omega
      · have hf : farQ v k = v - k := if_neg hs
        rw [hf] at HN
        clear hf
        have d1 := lt_no (show 0 ≤ v - k by omega)
        by_cases hc : v - k < d
        · have HN2 : Hid (nearQ (fun j => levQ M (j : Int)) k (n + 1) = (n, v - k)) := HN.out.trans (if_pos hc)
          have d2 := lt_yes hc
          clear HN
          go_wp2_with (go_at_call 63; (with_reducible refine (c3).mono ?_); rintro e w1 ⟨rfl, rfl⟩)
          go_round
          case rel => exact ⟨n + 1, by omega, by go_num, by rw [HN2.out], by rw [HN2.out]⟩
          case measure => simp [intOf]; omega
        · have HN2 : Hid (nearQ (fun j => levQ M (j : Int)) k (n + 1) = (b, d)) := HN.out.trans (if_neg hc)
          have d2 := lt_no (show d ≤ v - k by omega)
          clear HN
          go_wp2_with (go_at_call 63; (with_reducible refine (c3).mono ?_); rintro e w1 ⟨rfl, rfl⟩)
          go_round
          case rel => exact ⟨n + 1, by omega, by go_num, by rw [HN2.out], by rw [HN2.out]⟩
          case measure => simp [intOf]; omega
    · rw [lt_no (show M ≤ (n : Int) by omega)] at t1
      have HE : Hid (M.toNat = n) := by show M.toNat = n; omega
      go_wp2
      go_ret2
      exact ⟨by rw [oneQ, HE.out]; rfl, rfl⟩
theorem One_any (i k : Int) (w : World) (hT : Widths w) (hi : 0 ≤ i) (hi7 : i ≤ 7) (hk0 : -32768 ≤ k) (hk : k ≤ 32768) :
    Calls Tryd.prog 62 #[.int .i64 i, .int .i64 k] w fun e w' => e = .returned (.tuple #[.int .i64 (oneQ (many i) k : Nat), .int .i64 0]) ∧ w = w' :=
  One_in i k (wid i) (many i) w (wide_at hi hi7) hk0 hk (Width_any i w hT hi hi7) (fun n h0 hn => Level_any i n w hT hi hi7 h0 hn)
end Go.Proofs.YtcoicmbjoaonoaaDoor
/-
  quant: Values and All walked. No statement is proved here.
-/
namespace Go.Proofs.YtcoicmbjoaonoaaDoor
set_option linter.unusedVariables false
set_option linter.unusedSimpArgs false
open Go.RowKit
set_option maxRecDepth 100000
def valF (n : Nat → Int) (i : Nat) : Int := levQ (many i) (n i)
def allF (k : Nat → Int) (i : Nat) : Int := (oneQ (many i) (k i) : Nat)
theorem valF_bd {n : Nat → Int} (hn : ∀ i : Nat, i < 8 → 0 ≤ n i ∧ n i < many i) (i : Nat) (hi : i < 8) : -31000 ≤ valF n i ∧ valF n i ≤ 31000 :=
  (levQ_facts (wide_at (i := (i : Int)) (by omega) (by omega)) (hn i hi).1 (hn i hi).2).1
theorem allF_bd {k : Nat → Int} (hk : ∀ i, i < 8 → -32768 ≤ k i ∧ k i ≤ 32768) (i : Nat) (hi : i < 8) : 0 ≤ allF k i ∧ allF k i < many i :=
  ⟨by unfold allF; omega, (oneQ_law (wide_at (i := (i : Int)) (by omega) (by omega)) (hk i hi)).1⟩
def partV (n : Nat → Int) (k i : Nat) : Int := if i < k then n i else 0
theorem partV_0 (n : Nat → Int) : row 8 (fun _ => (0 : Int)) = row 8 (partV n 0) := row_congr fun i _ => by unfold partV; rw [if_neg (by omega)]
theorem partV_all (n : Nat → Int) : row 8 (partV n 8) = row 8 n := row_congr fun i hi => by unfold partV; rw [if_pos hi]
theorem partV_next (n : Nat → Int) (k : Nat) : row 8 (partV n (k + 1)) = row 8 fun j => if j = k then n k else partV n k j := row_congr fun i _ => by
  unfold partV
  by_cases e : i = k
  · rw [if_pos e, if_pos (by omega), e]
  · rw [if_neg e]
    by_cases h : i < k
    · rw [if_pos h, if_pos (by omega)]
    · rw [if_neg h, if_neg (by omega)]
set_option maxHeartbeats 1600000 in
theorem Values_any (n : Nat → Int) (w : World) (hT : Widths w) (hn : ∀ i : Nat, i < 8 → 0 ≤ n i ∧ n i < many i) :
    Calls Tryd.prog 38 #[.agg (row 8 n)] w fun e w' => e = .returned (.tuple #[.agg (row 8 (valF n)), .int .i64 0]) ∧ Below w.heap.size w w' := by
  have H := Has.start w
  have HN := Lib.hid hn
  clear hn
  go_enter Tryd.func38, Tryd.ntmps38
  go_wp2_with (first | ((refine wpList_on (o := ⟨_, .box _ (.tmp 0), _, _, _, _⟩) rfl (fun K hK => ?_)); (try simp only [Act.put, List.setIfInBounds_toArray, List.set_cons_zero, List.set_cons_succ]); refine wp_box H _ (.tmp 0) rfl (v := .agg _) rfl ?_; clear H; intro u gx H; refine hK _ _ ?_; clear hK K; try simp only [Value.cells, List.cons_append, List.nil_append] at H) | (refine wpList_on (o := ⟨some 2, .alloc 26, _, _, _, _⟩) rfl (fun K hK => ?_); refine wp_alloc H 26 rfl (z := (.agg (row 8 fun _ => 0))) (by kernel_rfl) ?_; clear H; intro u gr H; refine hK _ _ ?_; clear hK K; try simp only [Value.cells, List.cons_append, List.nil_append] at H) | (refine wpList_on (o := ⟨some 4, .alloc 26, _, _, _, _⟩) rfl (fun K hK => ?_); refine wp_alloc H 26 rfl (z := (.agg (row 8 fun _ => 0))) (by kernel_rfl) ?_; clear H; intro u go_ H; refine hK _ _ ?_; clear hK K; try simp only [Value.cells, List.cons_append, List.nil_append] at H) | ((refine wpList_on (o := ⟨_, .load 26 _, _, _, _, _⟩) rfl (fun K hK => ?_)); (try simp only [Act.put, List.setIfInBounds_toArray, List.set_cons_zero, List.set_cons_succ]); refine wp_load_all H 26 _ rfl rfl (by repeat (first | exact List.mem_cons_self | apply List.mem_cons_of_mem | apply List.mem_append_right)) (by kernel_rfl) ?_; refine hK _ _ ?_; clear hK K))
  have e0 := partV_0 (valF n)
  have H0 : Has w u [(go_, 26, row 8 (partV (valF n) 0)), (gr, 26, row 8 fun _ => 0), (gx, 26, row 8 n)] := by rw [← e0]; exact H
  clear H e0
  go_loopw [10] (fun c wr => ∃ k : Nat, k ≤ 8 ∧ c = .int .i64 k ∧ Has w wr [(go_, 26, row 8 (partV (valF n) k)), (gr, 26, row 8 fun _ => 0), (gx, 26, row 8 n)]) (fun c _ => 8 - (intOf c).toNat)
  case atStart => exact ⟨0, by omega, rfl, H0⟩
  clear H0
  case round =>
    obtain ⟨k, hk, rfl, H⟩ := hrel
    by_cases hlt : k < 8
    · have q1 : (k : Int) < 8 := by omega
      have hix := fun w => run_index_row (P := Tryd.prog) (n := 8) (i := k) Tryd.underlying26 Tryd.underlying3 (by kernel_rfl) (by kernel_rfl) n hlt w
      obtain ⟨n0, n1⟩ := HN.out k hlt
      have cl := Lib.hid (fun (u : World) (hT : Widths u) => show Calls Tryd.prog 63 #[.int .i64 k, .int .i64 (n k)] u fun e w' => e = .returned (.tuple #[.int .i64 (valF n k), .int .i64 0]) ∧ u = w' from Level_any (k : Int) (n k) u hT (by omega) (by omega) n0 n1)
      have hst := Lib.hid (partV_next (valF n) k)
      generalize valF n k = V at *
      go_wp2_with (first | (go_at_call 63; (with_reducible refine (cl.out _ (hT.has H)).mono ?_); rintro e w1 ⟨rfl, rfl⟩) | ((refine wpList_on (o := ⟨_, .store 3 _ _, _, _, _, _⟩) rfl (fun K hK => ?_)); (try simp only [Act.put, List.setIfInBounds_toArray, List.set_cons_zero, List.set_cons_succ]); refine wp_store_row_ (l1 := []) H 3 _ _ rfl rfl rfl (by kernel_rfl) hlt ?_; clear H; intro u H; refine hK _ _ ?_; clear hK K; try simp only [Value.cells, List.cons_append, List.nil_append] at H))
      go_roundw
      case rel => exact ⟨k + 1, by omega, by go_num, by rw [hst.out]; exact H⟩
      case measure => simp [intOf]; omega
    · obtain rfl : k = 8 := by omega
      rw [partV_all] at H
      go_wp2_with (first | ((refine wpList_on (o := ⟨_, .load 26 _, _, _, _, _⟩) rfl (fun K hK => ?_)); (try simp only [Act.put, List.setIfInBounds_toArray, List.set_cons_zero, List.set_cons_succ]); refine wp_load_all H 26 _ rfl rfl (by repeat (first | exact List.mem_cons_self | apply List.mem_cons_of_mem | apply List.mem_append_right)) (by kernel_rfl) ?_; refine hK _ _ ?_; clear hK K) | ((refine wpList_on (o := ⟨_, .store 26 _ _, _, _, _, _⟩) rfl (fun K hK => ?_)); (try simp only [Act.put, List.setIfInBounds_toArray, List.set_cons_zero, List.set_cons_succ]); refine wp_store_all (l1 := [_]) H 26 _ _ rfl rfl rfl (by kernel_rfl) (by simp [row_size]) (row_one _ _) ?_; clear H; intro u H; refine hK _ _ ?_; clear hK K; try simp only [Value.cells, List.cons_append, List.nil_append] at H))
      refine bodyPost_ret (results_has rfl _ H rfl (by repeat (first | exact List.mem_cons_self | apply List.mem_cons_of_mem | apply List.mem_append_right)) (by kernel_rfl)) rfl ⟨rfl, H.below⟩
set_option maxHeartbeats 1600000 in
theorem AllQ_any (n : Nat → Int) (w : World) (hT : Widths w) (hn : ∀ i : Nat, i < 8 → -32768 ≤ n i ∧ n i ≤ 32768) :
    Calls Tryd.prog 36 #[.agg (row 8 n)] w fun e w' => e = .returned (.tuple #[.agg (row 8 (allF n)), .int .i64 0]) ∧ Below w.heap.size w w' := by
  have H := Has.start w
  have HN := Lib.hid hn
  clear hn
  go_enter Tryd.func36, Tryd.ntmps36
  go_wp2_with (first | ((refine wpList_on (o := ⟨_, .box _ (.tmp 0), _, _, _, _⟩) rfl (fun K hK => ?_)); (try simp only [Act.put, List.setIfInBounds_toArray, List.set_cons_zero, List.set_cons_succ]); refine wp_box H _ (.tmp 0) rfl (v := .agg _) rfl ?_; clear H; intro u gx H; refine hK _ _ ?_; clear hK K; try simp only [Value.cells, List.cons_append, List.nil_append] at H) | (refine wpList_on (o := ⟨some 2, .alloc 26, _, _, _, _⟩) rfl (fun K hK => ?_); refine wp_alloc H 26 rfl (z := (.agg (row 8 fun _ => 0))) (by kernel_rfl) ?_; clear H; intro u gr H; refine hK _ _ ?_; clear hK K; try simp only [Value.cells, List.cons_append, List.nil_append] at H) | (refine wpList_on (o := ⟨some 4, .alloc 26, _, _, _, _⟩) rfl (fun K hK => ?_); refine wp_alloc H 26 rfl (z := (.agg (row 8 fun _ => 0))) (by kernel_rfl) ?_; clear H; intro u go_ H; refine hK _ _ ?_; clear hK K; try simp only [Value.cells, List.cons_append, List.nil_append] at H) | ((refine wpList_on (o := ⟨_, .load 26 _, _, _, _, _⟩) rfl (fun K hK => ?_)); (try simp only [Act.put, List.setIfInBounds_toArray, List.set_cons_zero, List.set_cons_succ]); refine wp_load_all H 26 _ rfl rfl (by repeat (first | exact List.mem_cons_self | apply List.mem_cons_of_mem | apply List.mem_append_right)) (by kernel_rfl) ?_; refine hK _ _ ?_; clear hK K))
  have e0 := partV_0 (allF n)
  have H0 : Has w u [(go_, 26, row 8 (partV (allF n) 0)), (gr, 26, row 8 fun _ => 0), (gx, 26, row 8 n)] := by rw [← e0]; exact H
  clear H e0
  go_loopw [10] (fun c wr => ∃ k : Nat, k ≤ 8 ∧ c = .int .i64 k ∧ Has w wr [(go_, 26, row 8 (partV (allF n) k)), (gr, 26, row 8 fun _ => 0), (gx, 26, row 8 n)]) (fun c _ => 8 - (intOf c).toNat)
  case atStart => exact ⟨0, by omega, rfl, H0⟩
  clear H0
  case round =>
    obtain ⟨k, hk, rfl, H⟩ := hrel
    by_cases hlt : k < 8
    · have q1 : (k : Int) < 8 := by omega
      have hix := fun w => run_index_row (P := Tryd.prog) (n := 8) (i := k) Tryd.underlying26 Tryd.underlying3 (by kernel_rfl) (by kernel_rfl) n hlt w
      obtain ⟨n0, n1⟩ := HN.out k hlt
      have cl := Lib.hid (fun (u : World) (hT : Widths u) => show Calls Tryd.prog 62 #[.int .i64 k, .int .i64 (n k)] u fun e w' => e = .returned (.tuple #[.int .i64 (allF n k), .int .i64 0]) ∧ u = w' from One_any (k : Int) (n k) u hT (by omega) (by omega) n0 n1)
      have hst := Lib.hid (partV_next (allF n) k)
      generalize allF n k = V at *
      go_wp2_with (first | (go_at_call 62; (with_reducible refine (cl.out _ (hT.has H)).mono ?_); rintro e w1 ⟨rfl, rfl⟩) | ((refine wpList_on (o := ⟨_, .store 3 _ _, _, _, _, _⟩) rfl (fun K hK => ?_)); (try simp only [Act.put, List.setIfInBounds_toArray, List.set_cons_zero, List.set_cons_succ]); refine wp_store_row_ (l1 := []) H 3 _ _ rfl rfl rfl (by kernel_rfl) hlt ?_; clear H; intro u H; refine hK _ _ ?_; clear hK K; try simp only [Value.cells, List.cons_append, List.nil_append] at H))
      go_roundw
      case rel => exact ⟨k + 1, by omega, by go_num, by rw [hst.out]; exact H⟩
      case measure => simp [intOf]; omega
    · obtain rfl : k = 8 := by omega
      rw [partV_all] at H
      go_wp2_with (first | ((refine wpList_on (o := ⟨_, .load 26 _, _, _, _, _⟩) rfl (fun K hK => ?_)); (try simp only [Act.put, List.setIfInBounds_toArray, List.set_cons_zero, List.set_cons_succ]); refine wp_load_all H 26 _ rfl rfl (by repeat (first | exact List.mem_cons_self | apply List.mem_cons_of_mem | apply List.mem_append_right)) (by kernel_rfl) ?_; refine hK _ _ ?_; clear hK K) | ((refine wpList_on (o := ⟨_, .store 26 _ _, _, _, _, _⟩) rfl (fun K hK => ?_)); (try simp only [Act.put, List.setIfInBounds_toArray, List.set_cons_zero, List.set_cons_succ]); refine wp_store_all (l1 := [_]) H 26 _ _ rfl rfl rfl (by kernel_rfl) (by simp [row_size]) (row_one _ _) ?_; clear H; intro u H; refine hK _ _ ?_; clear hK K; try simp only [Value.cells, List.cons_append, List.nil_append] at H))
      refine bodyPost_ret (results_has rfl _ H rfl (by repeat (first | exact List.mem_cons_self | apply List.mem_cons_of_mem | apply List.mem_append_right)) (by kernel_rfl)) rfl ⟨rfl, H.below⟩
end Go.Proofs.YtcoicmbjoaonoaaDoor
