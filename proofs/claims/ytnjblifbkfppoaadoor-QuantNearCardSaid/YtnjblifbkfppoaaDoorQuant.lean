/-
  quant: Width, Level, One walked. No statement is proved here.
-/
import Derived.Test.YtnjblifbkfppoaaDoorTable
import Derived.Test.YtnjblifbkfppoaaDoorQuantLaw
import Derived.Test.YtnjblifbkfppoaaDoorSpot
namespace Go.Proofs.YtnjblifbkfppoaaDoor
open Go.RowKit
def widF (i : Nat) : Int := widthZ.getD i 0
/-- The table of widths lies in memory. -/
abbrev Widths (w : World) : Prop := Table 0 8 widF w
def wid (i : Int) : Int := widF i.toNat
def many (i : Int) : Int := if wid i = 3 then 8 else if wid i = 4 then 16 else if wid i = 5 then 32 else 64
theorem wide_at {i : Int} (h0 : 0 ≤ i) (h : i ≤ 7) : Wide (wid i) (many i) := by
  have : i = 0 ∨ i = 1 ∨ i = 2 ∨ i = 3 ∨ i = 4 ∨ i = 5 ∨ i = 6 ∨ i = 7 := by omega
  rcases this with rfl | rfl | rfl | rfl | rfl | rfl | rfl | rfl <;> simp [Wide, wid, many, widF, widthZ]
theorem Width_any (i : Int) (w : World) (hT : Widths w) (h0 : 0 ≤ i) (h : i ≤ 7) :
    Calls Tryd.prog 7 #[.int .i64 i] w fun e w' => e = .returned (.int .i64 (wid i)) ∧ w = w' := by
  have d1 := lt_no h0
  have d2 := le_no (show i < 8 by omega)
  have b0 : i < 8 := by omega
  go_enter Tryd.func7, Tryd.ntmps7
  go_wp2_with ((refine wpList_on (o := ⟨_, .load 3 _, _, _, _, _⟩) rfl (fun K hK => ?_)); refine wp_load_entry hT 3 _ rfl (i := i.toNat) rfl (by kernel_rfl) (by omega) ?_; refine hK _ _ ?_; clear hK K)
  go_ret
  exact ⟨rfl, rfl⟩
theorem Width_8 (w : World) :
    Calls Tryd.prog 7 #[.int .i64 8] w fun e w' => e = .returned (.int .i64 0) ∧ w = w' := by
  go_enter Tryd.func7, Tryd.ntmps7
  go_wp2
  go_ret
  exact ⟨rfl, rfl⟩
theorem wid_7 : wid 7 = 3 := rfl
theorem Width_7 (w : World) (hT : Widths w) :
    Calls Tryd.prog 7 #[.int .i64 7] w fun e w' => e = .returned (.int .i64 3) ∧ w = w' := by
  have h := Width_any 7 w hT (by omega) (by omega)
  rw [wid_7] at h; exact h
theorem lev_form (R D : Int) (h0 : 0 ≤ R) (h1 : R ≤ 64) (hD : 1 ≤ D) (hD2 : D ≤ 4096) : wrap64 (31000 - wrap64 ((wrap64 (31000 * R * R)).tdiv D)) = 31000 - 31000 * R * R / D ∧ 0 ≤ 31000 * R * R / D ∧ 31000 * R * R / D ≤ 126976000 := by
  have m := mul_le_of (31000 * R) R 1984000 64 (by omega) (by omega) h0 h1
  have q0 : 0 ≤ 31000 * R * R / D := Int.ediv_nonneg m.1 (by omega)
  have q1 : 31000 * R * R / D ≤ 31000 * R * R := Int.ediv_le_self _ m.1
  rw [IntWalk.wrap64_in (31000 * R * R) (by omega), Int.tdiv_eq_ediv_of_nonneg m.1, IntWalk.wrap64_in (31000 * R * R / D) (by omega), IntWalk.wrap64_in _ (by omega)]
  omega
set_option maxHeartbeats 3200000 in
theorem Level_in (i n W M : Int) (w : World) (hw : Wide W M) (h0 : 0 ≤ n) (hn : n < M)
    (c1 : Calls Tryd.prog 7 #[.int .i64 i] w fun e w' => e = .returned (.int .i64 W) ∧ w = w') :
    Calls Tryd.prog 8 #[.int .i64 i, .int .i64 n] w fun e w' => e = .returned (.tuple #[.int .i64 (levQ M n), .int .i64 0]) ∧ w = w' := by
  have d1 := lt_no h0
  rcases hw with ⟨rfl, rfl⟩ | ⟨rfl, rfl⟩ | ⟨rfl, rfl⟩ | ⟨rfl, rfl⟩
  · have d2 := lt_no (show n ≤ 7 by omega)
    by_cases hx : 2 * n - 7 < 0
    · have d3 := lt_yes hx
      obtain ⟨f1, f2, f3⟩ := lev_form (8 + (2 * n - 7)) 64 (by omega) (by omega) (by omega) (by omega)
      have HL : Hid (wrap64 (-(wrap64 (31000 - wrap64 ((wrap64 (31000 * (8 + (2 * n - 7)) * (8 + (2 * n - 7)))).tdiv 64)))) = levQ 8 n) := by
        show wrap64 (-(wrap64 (31000 - wrap64 ((wrap64 (31000 * (8 + (2 * n - 7)) * (8 + (2 * n - 7)))).tdiv 64)))) = levQ 8 n
        rw [f1, IntWalk.wrap64_in _ (by omega)]
        unfold levQ
        rw [if_pos (by omega), show (8 : Int) - 1 + 1 - -(2 * n - (8 - 1)) = 8 + (2 * n - 7) by omega]
        rfl
      clear f1 f2 f3
      go_enter Tryd.func8, Tryd.ntmps8
      go_wp2_with (go_at_call 7; (with_reducible refine (c1).mono ?_); rintro e w1 ⟨rfl, rfl⟩)
      go_ret2
      exact ⟨congrArg (fun z => Ending.returned (.tuple #[.int .i64 z, .int .i64 0])) HL.out, rfl⟩
    · have d3 := lt_no (show 0 ≤ 2 * n - 7 by omega)
      obtain ⟨f1, f2, f3⟩ := lev_form (8 - (2 * n - 7)) 64 (by omega) (by omega) (by omega) (by omega)
      have HL : Hid (wrap64 (31000 - wrap64 ((wrap64 (31000 * (8 - (2 * n - 7)) * (8 - (2 * n - 7)))).tdiv 64)) = levQ 8 n) := by
        show wrap64 (31000 - wrap64 ((wrap64 (31000 * (8 - (2 * n - 7)) * (8 - (2 * n - 7)))).tdiv 64)) = levQ 8 n
        rw [f1]
        unfold levQ
        rw [if_neg (by omega), show (8 : Int) - 1 + 1 - (2 * n - (8 - 1)) = 8 - (2 * n - 7) by omega]
        rfl
      clear f1 f2 f3
      go_enter Tryd.func8, Tryd.ntmps8
      go_wp2_with (go_at_call 7; (with_reducible refine (c1).mono ?_); rintro e w1 ⟨rfl, rfl⟩)
      go_ret2
      exact ⟨congrArg (fun z => Ending.returned (.tuple #[.int .i64 z, .int .i64 0])) HL.out, rfl⟩
  · have d2 := lt_no (show n ≤ 15 by omega)
    by_cases hx : 2 * n - 15 < 0
    · have d3 := lt_yes hx
      obtain ⟨f1, f2, f3⟩ := lev_form (16 + (2 * n - 15)) 256 (by omega) (by omega) (by omega) (by omega)
      have HL : Hid (wrap64 (-(wrap64 (31000 - wrap64 ((wrap64 (31000 * (16 + (2 * n - 15)) * (16 + (2 * n - 15)))).tdiv 256)))) = levQ 16 n) := by
        show wrap64 (-(wrap64 (31000 - wrap64 ((wrap64 (31000 * (16 + (2 * n - 15)) * (16 + (2 * n - 15)))).tdiv 256)))) = levQ 16 n
        rw [f1, IntWalk.wrap64_in _ (by omega)]
        unfold levQ
        rw [if_pos (by omega), show (16 : Int) - 1 + 1 - -(2 * n - (16 - 1)) = 16 + (2 * n - 15) by omega]
        rfl
      clear f1 f2 f3
      go_enter Tryd.func8, Tryd.ntmps8
      go_wp2_with (go_at_call 7; (with_reducible refine (c1).mono ?_); rintro e w1 ⟨rfl, rfl⟩)
      go_ret2
      exact ⟨congrArg (fun z => Ending.returned (.tuple #[.int .i64 z, .int .i64 0])) HL.out, rfl⟩
    · have d3 := lt_no (show 0 ≤ 2 * n - 15 by omega)
      obtain ⟨f1, f2, f3⟩ := lev_form (16 - (2 * n - 15)) 256 (by omega) (by omega) (by omega) (by omega)
      have HL : Hid (wrap64 (31000 - wrap64 ((wrap64 (31000 * (16 - (2 * n - 15)) * (16 - (2 * n - 15)))).tdiv 256)) = levQ 16 n) := by
        show wrap64 (31000 - wrap64 ((wrap64 (31000 * (16 - (2 * n - 15)) * (16 - (2 * n - 15)))).tdiv 256)) = levQ 16 n
        rw [f1]
        unfold levQ
        rw [if_neg (by omega), show (16 : Int) - 1 + 1 - (2 * n - (16 - 1)) = 16 - (2 * n - 15) by omega]
        rfl
      clear f1 f2 f3
      go_enter Tryd.func8, Tryd.ntmps8
      go_wp2_with (go_at_call 7; (with_reducible refine (c1).mono ?_); rintro e w1 ⟨rfl, rfl⟩)
      go_ret2
      exact ⟨congrArg (fun z => Ending.returned (.tuple #[.int .i64 z, .int .i64 0])) HL.out, rfl⟩
  · have d2 := lt_no (show n ≤ 31 by omega)
    by_cases hx : 2 * n - 31 < 0
    · have d3 := lt_yes hx
      obtain ⟨f1, f2, f3⟩ := lev_form (32 + (2 * n - 31)) 1024 (by omega) (by omega) (by omega) (by omega)
      have HL : Hid (wrap64 (-(wrap64 (31000 - wrap64 ((wrap64 (31000 * (32 + (2 * n - 31)) * (32 + (2 * n - 31)))).tdiv 1024)))) = levQ 32 n) := by
        show wrap64 (-(wrap64 (31000 - wrap64 ((wrap64 (31000 * (32 + (2 * n - 31)) * (32 + (2 * n - 31)))).tdiv 1024)))) = levQ 32 n
        rw [f1, IntWalk.wrap64_in _ (by omega)]
        unfold levQ
        rw [if_pos (by omega), show (32 : Int) - 1 + 1 - -(2 * n - (32 - 1)) = 32 + (2 * n - 31) by omega]
        rfl
      clear f1 f2 f3
      go_enter Tryd.func8, Tryd.ntmps8
      go_wp2_with (go_at_call 7; (with_reducible refine (c1).mono ?_); rintro e w1 ⟨rfl, rfl⟩)
      go_ret2
      exact ⟨congrArg (fun z => Ending.returned (.tuple #[.int .i64 z, .int .i64 0])) HL.out, rfl⟩
    · have d3 := lt_no (show 0 ≤ 2 * n - 31 by omega)
      obtain ⟨f1, f2, f3⟩ := lev_form (32 - (2 * n - 31)) 1024 (by omega) (by omega) (by omega) (by omega)
      have HL : Hid (wrap64 (31000 - wrap64 ((wrap64 (31000 * (32 - (2 * n - 31)) * (32 - (2 * n - 31)))).tdiv 1024)) = levQ 32 n) := by
        show wrap64 (31000 - wrap64 ((wrap64 (31000 * (32 - (2 * n - 31)) * (32 - (2 * n - 31)))).tdiv 1024)) = levQ 32 n
        rw [f1]
        unfold levQ
        rw [if_neg (by omega), show (32 : Int) - 1 + 1 - (2 * n - (32 - 1)) = 32 - (2 * n - 31) by omega]
        rfl
      clear f1 f2 f3
      go_enter Tryd.func8, Tryd.ntmps8
      go_wp2_with (go_at_call 7; (with_reducible refine (c1).mono ?_); rintro e w1 ⟨rfl, rfl⟩)
      go_ret2
      exact ⟨congrArg (fun z => Ending.returned (.tuple #[.int .i64 z, .int .i64 0])) HL.out, rfl⟩
  · have d2 := lt_no (show n ≤ 63 by omega)
    by_cases hx : 2 * n - 63 < 0
    · have d3 := lt_yes hx
      obtain ⟨f1, f2, f3⟩ := lev_form (64 + (2 * n - 63)) 4096 (by omega) (by omega) (by omega) (by omega)
      have HL : Hid (wrap64 (-(wrap64 (31000 - wrap64 ((wrap64 (31000 * (64 + (2 * n - 63)) * (64 + (2 * n - 63)))).tdiv 4096)))) = levQ 64 n) := by
        show wrap64 (-(wrap64 (31000 - wrap64 ((wrap64 (31000 * (64 + (2 * n - 63)) * (64 + (2 * n - 63)))).tdiv 4096)))) = levQ 64 n
        rw [f1, IntWalk.wrap64_in _ (by omega)]
        unfold levQ
        rw [if_pos (by omega), show (64 : Int) - 1 + 1 - -(2 * n - (64 - 1)) = 64 + (2 * n - 63) by omega]
        rfl
      clear f1 f2 f3
      go_enter Tryd.func8, Tryd.ntmps8
      go_wp2_with (go_at_call 7; (with_reducible refine (c1).mono ?_); rintro e w1 ⟨rfl, rfl⟩)
      go_ret2
      exact ⟨congrArg (fun z => Ending.returned (.tuple #[.int .i64 z, .int .i64 0])) HL.out, rfl⟩
    · have d3 := lt_no (show 0 ≤ 2 * n - 63 by omega)
      obtain ⟨f1, f2, f3⟩ := lev_form (64 - (2 * n - 63)) 4096 (by omega) (by omega) (by omega) (by omega)
      have HL : Hid (wrap64 (31000 - wrap64 ((wrap64 (31000 * (64 - (2 * n - 63)) * (64 - (2 * n - 63)))).tdiv 4096)) = levQ 64 n) := by
        show wrap64 (31000 - wrap64 ((wrap64 (31000 * (64 - (2 * n - 63)) * (64 - (2 * n - 63)))).tdiv 4096)) = levQ 64 n
        rw [f1]
        unfold levQ
        rw [if_neg (by omega), show (64 : Int) - 1 + 1 - (2 * n - (64 - 1)) = 64 - (2 * n - 63) by omega]
        rfl
      clear f1 f2 f3
      go_enter Tryd.func8, Tryd.ntmps8
      go_wp2_with (go_at_call 7; (with_reducible refine (c1).mono ?_); rintro e w1 ⟨rfl, rfl⟩)
      go_ret2
      exact ⟨congrArg (fun z => Ending.returned (.tuple #[.int .i64 z, .int .i64 0])) HL.out, rfl⟩
theorem Level_any (i n : Int) (w : World) (hT : Widths w) (hi : 0 ≤ i) (hi7 : i ≤ 7) (h0 : 0 ≤ n) (hn : n < many i) :
    Calls Tryd.prog 8 #[.int .i64 i, .int .i64 n] w fun e w' => e = .returned (.tuple #[.int .i64 (levQ (many i) n), .int .i64 0]) ∧ w = w' :=
  Level_in i n (wid i) (many i) w (wide_at hi hi7) h0 hn (Width_any i w hT hi hi7)
set_option maxHeartbeats 1600000 in
theorem One_in (i k W M : Int) (w : World) (hw : Wide W M) (hk0 : -32768 ≤ k) (hk : k ≤ 32768)
    (c1 : Calls Tryd.prog 7 #[.int .i64 i] w fun e w' => e = .returned (.int .i64 W) ∧ w = w')
    (c2 : ∀ n : Int, 0 ≤ n → n < M → Calls Tryd.prog 8 #[.int .i64 i, .int .i64 n] w fun e w' => e = .returned (.tuple #[.int .i64 (levQ M n), .int .i64 0]) ∧ w = w') :
    Calls Tryd.prog 10 #[.int .i64 i, .int .i64 k] w fun e w' => e = .returned (.tuple #[.int .i64 (oneQ M k : Nat), .int .i64 0]) ∧ w = w' := by
  have d1 := lt_no hk0
  have d2 := lt_no hk
  have C2 := Lib.hid c2
  clear c2
  have HW := Lib.hid hw
  have hM : 8 ≤ M ∧ M ≤ 64 := by unfold Wide at hw; omega
  obtain ⟨hW0, hW1⟩ : 3 ≤ W ∧ W ≤ 6 := by unfold Wide at hw; omega
  have hp : IntKind.u64.wrap W = W ∧ wrap64 (2 ^ W.toNat) = M ∧ (W == 0) = false := by
    rcases hw with ⟨rfl, rfl⟩ | ⟨rfl, rfl⟩ | ⟨rfl, rfl⟩ | ⟨rfl, rfl⟩ <;> exact ⟨by rw [IntKind.wrap_u64]; rfl, by unfold wrap64; rfl, rfl⟩
  obtain ⟨p1, p2, p3⟩ := hp
  clear hw
  go_enter Tryd.func10, Tryd.ntmps10
  go_wp2_with (go_at_call 7; (with_reducible refine (c1).mono ?_); rintro e w1 ⟨rfl, rfl⟩)
  go_loop [7, 8, 26] (fun b d x => ∃ n : Nat, (n : Int) ≤ M ∧ x = .int .i64 n ∧ b = .int .i64 ((nearQ (fun j => levQ M (j : Int)) k n).1 : Nat) ∧ d = .int .i64 (nearQ (fun j => levQ M (j : Int)) k n).2) (fun _ _ x => (M - intOf x).toNat)
  case atStart => exact ⟨0, by omega, rfl, rfl, rfl⟩
  case round =>
    clear d1 d2 p1 p3 c1
    obtain ⟨n, hn, rfl, rfl, rfl⟩ := hrel
    by_cases hlt : (n : Int) < M
    all_goals
      have t1 : decide ((n : Int) < wrap64 (2 ^ W.toNat)) = decide ((n : Int) < M) := by rw [p2]
      clear p2
    · rw [lt_yes hlt] at t1
      have c3 := C2.out (n : Int) (by omega) hlt
      have v0 := (levQ_facts HW.out (n := (n : Int)) (by omega) hlt).1
      have HN : Hid (nearQ (fun j => levQ M (j : Int)) k (n + 1) = if farQ (levQ M (n : Int)) k < (nearQ (fun j => levQ M (j : Int)) k n).2 then (n, farQ (levQ M (n : Int)) k) else nearQ (fun j => levQ M (j : Int)) k n) := rfl
      generalize hb : nearQ (fun j => levQ M (j : Int)) k n = B at *
      clear hb
      obtain ⟨b, d⟩ := B
      generalize levQ M (n : Int) = v at *
      by_cases hs : v - k < 0
      · have hf : farQ v k = -(v - k) := if_pos hs
        rw [hf] at HN
        clear hf
        have d1 := lt_yes hs
        by_cases hc : -(v - k) < d
        · have HN2 : Hid (nearQ (fun j => levQ M (j : Int)) k (n + 1) = (n, -(v - k))) := HN.out.trans (if_pos hc)
          have d2 := lt_yes hc
          clear HN
          go_wp2_with (go_at_call 8; (with_reducible refine (c3).mono ?_); rintro e w1 ⟨rfl, rfl⟩)
          go_round
          case rel => exact ⟨n + 1, by omega, by go_num, by rw [HN2.out], by rw [HN2.out]⟩
          case measure => simp [intOf]; omega
        · have HN2 : Hid (nearQ (fun j => levQ M (j : Int)) k (n + 1) = (b, d)) := HN.out.trans (if_neg hc)
          have d2 := lt_no (show d ≤ -(v - k) by omega)
          clear HN
          go_wp2_with (go_at_call 8; (with_reducible refine (c3).mono ?_); rintro e w1 ⟨rfl, rfl⟩)
          go_round
          case rel => exact ⟨n + 1, by omega, by go_num, by rw [HN2.out], by rw [HN2.out]⟩
          case measure => simp [intOf]; omega
      · have hf : farQ v k = v - k := if_neg hs
        rw [hf] at HN
        clear hf
        have d1 := lt_no (show 0 ≤ v - k by omega)
        by_cases hc : v - k < d
        · have HN2 : Hid (nearQ (fun j => levQ M (j : Int)) k (n + 1) = (n, v - k)) := HN.out.trans (if_pos hc)
          have d2 := lt_yes hc
          clear HN
          go_wp2_with (go_at_call 8; (with_reducible refine (c3).mono ?_); rintro e w1 ⟨rfl, rfl⟩)
          go_round
          case rel => exact ⟨n + 1, by omega, by go_num, by rw [HN2.out], by rw [HN2.out]⟩
          case measure => simp [intOf]; omega
        · have HN2 : Hid (nearQ (fun j => levQ M (j : Int)) k (n + 1) = (b, d)) := HN.out.trans (if_neg hc)
          have d2 := lt_no (show d ≤ v - k by omega)
          clear HN
          go_wp2_with (go_at_call 8; (with_reducible refine (c3).mono ?_); rintro e w1 ⟨rfl, rfl⟩)
          go_round
          case rel => exact ⟨n + 1, by omega, by go_num, by rw [HN2.out], by rw [HN2.out]⟩
          case measure => simp [intOf]; omega
    · rw [lt_no (show M ≤ (n : Int) by omega)] at t1
      have HE : Hid (M.toNat = n) := by show M.toNat = n; omega
      go_wp2
      go_ret2
      exact ⟨by rw [oneQ, HE.out]; rfl, rfl⟩
theorem One_any (i k : Int) (w : World) (hT : Widths w) (hi : 0 ≤ i) (hi7 : i ≤ 7) (hk0 : -32768 ≤ k) (hk : k ≤ 32768) :
    Calls Tryd.prog 10 #[.int .i64 i, .int .i64 k] w fun e w' => e = .returned (.tuple #[.int .i64 (oneQ (many i) k : Nat), .int .i64 0]) ∧ w = w' :=
  One_in i k (wid i) (many i) w (wide_at hi hi7) hk0 hk (Width_any i w hT hi hi7) (fun n h0 hn => Level_any i n w hT hi hi7 h0 hn)
end Go.Proofs.YtnjblifbkfppoaaDoor
