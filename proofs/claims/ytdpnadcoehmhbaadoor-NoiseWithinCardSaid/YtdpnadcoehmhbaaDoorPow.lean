/-
  dual.Pow, gain.Level and the small functions of gain walked. No statement is proved here.
-/
import Derived.Test.YtdpnadcoehmhbaaDoorTable
import Derived.Test.YtdpnadcoehmhbaaDoorPowLaw
import Derived.Test.YtdpnadcoehmhbaaDoorSpot
namespace Go.Proofs.YtdpnadcoehmhbaaDoor
open Go.RowKit
def rootsZ : List Int := [444758425, 203159592, 97181937, 47538611, 23511884, 11692281, 5830311, 2911209, 1454619, 727063, 363470, 181719, 90856, 45427, 22713]
def rootF (i : Nat) : Int := rootsZ.getD i 0
/-- The table of roots lies in memory. -/
abbrev Roots (w : World) : Prop := Table 0 15 rootF w
theorem rootsZ_eq {i : Nat} (h : i < 15) : rootF i = (rootsL.getD i 0 : Nat) := by
  have : ∀ i < 15, rootF i = (rootsL.getD i 0 : Nat) := by decide
  exact this i h
theorem roots_get {k : Nat} (hk : k < 15) : rootsL.drop k = rootsL.getD k 0 :: rootsL.drop (k + 1) := by
  rw [List.drop_eq_getElem_cons (by simpa [rootsL] using hk)]
  simp [hk, rootsL]
theorem roots_len {k : Nat} (hk : k < 15) : (rootsL.drop (k + 1)).length = 14 - k := by
  have : ∀ k < 15, (rootsL.drop (k + 1)).length = 14 - k := by decide
  exact this k hk
theorem roots_le {k : Nat} (hk : k < 15) : rootsL.getD k 0 ≤ 444758425 := by
  have : ∀ k < 15, rootsL.getD k 0 ≤ 444758425 := by decide
  exact this k hk
theorem and_1 (n : Nat) (h : n < 9223372036854775808) : bits .and .i64 (n : Int) 1 = ((n % 2 : Nat) : Int) := by
  have h127 : (BitVec.ofInt 64 1).toNat = 2 ^ 1 - 1 := by decide
  show IntKind.i64.wrap ((BitVec.ofInt 64 (n : Int) &&& BitVec.ofInt 64 1).toNat : Nat) = _
  rw [BitVec.toNat_and, h127, Nat.and_two_pow_sub_one_eq_mod, BitVec.ofInt_natCast, BitVec.toNat_ofNat, IntKind.wrap_i64]
  omega
set_option maxHeartbeats 1600000 in
theorem Pow_any (n f : Int) (w : World) (hR : Roots w) (hn0 : 0 ≤ n) (hn : n ≤ 30) (hf0 : 0 ≤ f) (hf : f < 32768) :
    Calls Tryd.prog 11 #[.int .i64 n, .int .i64 f] w fun e w' => e = .returned (.tuple #[.int .i64 (powN n.toNat f.toNat : Nat), .int .i64 0]) ∧ w = w' := by
  have d1 := lt_no hn0
  have d2 := lt_no hn
  have d3 := lt_no hf0
  have d4 := lt_no (show f ≤ 32767 by omega)
  go_enter Tryd.func11, Tryd.ntmps11
  go_wp2_with ((refine wpList_on (o := ⟨_, .load 40 _, _, _, _, _⟩) rfl (fun K hK => ?_)); refine wp_load_table hR 40 _ rfl rfl (by kernel_rfl) ?_; refine hK _ _ ?_; clear hK K)
  go_loop [6, 24] (fun x i => ∃ (k y : Nat), k ≤ 15 ∧ i = .int .i64 k ∧ x = .int .i64 y ∧ Hid (powW (rootsL.drop k) y f.toNat = powW rootsL 1073741824 f.toNat)) (fun _ i => 15 - (intOf i).toNat)
  case atStart => exact ⟨0, 1073741824, by omega, rfl, rfl, rfl⟩
  case round =>
    clear d1 d2 d3 d4
    obtain ⟨k, y, hk, rfl, rfl, HY⟩ := hrel
    have hb := powW_bd f.toNat
    have hy := powW_le (rootsL.drop k) y f.toNat
    rw [HY.out] at hy
    by_cases hlt : k < 15
    · have hg := roots_get hlt
      have hl := roots_len hlt
      have hr := roots_le hlt
      have hz := rootsZ_eq hlt
      have hix := fun w => run_index_row (P := Tryd.prog) (n := 15) (i := k) Tryd.underlying40 Tryd.underlying3 (by kernel_rfl) (by kernel_rfl) rootF hlt w
      have HP : Hid (powW (rootsL.drop (k + 1)) (if f.toNat / 2 ^ (14 - k) % 2 = 1 then y + y * rootsL.getD k 0 / 1073741824 else y) f.toNat = powW rootsL 1073741824 f.toNat) := by
        have h := HY.out
        rw [hg, powW, hl] at h
        exact h
      simp only [hz] at hix
      generalize rootsL.getD k 0 = r at *
      have s0 : IntKind.u64.wrap (14 - (k : Int)) = 14 - k := by rw [IntKind.wrap_u64]; omega
      have hq := Nat.div_le_self f.toNat (2 ^ (14 - k))
      have e1 := and_1 (f.toNat / 2 ^ (14 - k)) (by omega)
      have e2 : (14 - (k : Int)).toNat = 14 - k := by omega
      have e3 : f / 2 ^ (14 - k) = ((f.toNat / 2 ^ (14 - k) : Nat) : Int) := by
        rw [Int.natCast_ediv]
        simp [Int.toNat_of_nonneg hf0]
      clear hg hl HY hz
      have HW : Hid (wrap64 ((y : Int) + wrap64 ((y : Int) * r) / 1073741824) = ((y + y * r / 1073741824 : Nat) : Int)) := by
        have m1 := mul_le_of (y : Int) (r : Int) 2147483648 444758425 (by omega) (by omega) (by omega) (by omega)
        show wrap64 ((y : Int) + wrap64 ((y : Int) * r) / 1073741824) = ((y + y * r / 1073741824 : Nat) : Int)
        rw [IntWalk.wrap64_in ((y : Int) * r) (by omega), IntWalk.wrap64_in _ (by omega), Int.natCast_add, Int.natCast_ediv, Int.natCast_mul]
        rfl
      generalize f.toNat / 2 ^ (14 - k) = b at *
      by_cases hbit : b % 2 = 1
      · have d : (bits .and .i64 (f / 2 ^ (14 - k)) 1 == 1) = true := by rw [e3, e1, hbit]; rfl
        rw [if_pos hbit] at HP
        clear e1 e3 hb hbit
        go_wp2
        go_round
        case rel => exact ⟨k + 1, y + y * r / 1073741824, by omega, by go_num, by rw [HW.out], HP⟩
        case measure => simp [intOf]; omega
      · have d : (bits .and .i64 (f / 2 ^ (14 - k)) 1 == 1) = false := by rw [e3, e1]; simp; omega
        rw [if_neg hbit] at HP
        clear e1 e3 hb hbit
        go_wp2
        go_round
        case rel => exact ⟨k + 1, y, by omega, by go_num, rfl, HP⟩
        case measure => simp [intOf]; omega
    · obtain rfl : k = 15 := by omega
      have hY : (y : Int) / 2 ^ (30 - n).toNat = ((y / 2 ^ (30 - n).toNat : Nat) : Int) := by
        rw [Int.natCast_ediv]; simp
      have hY2 := Nat.div_le_self y (2 ^ (30 - n).toNat)
      have HF : Hid (((powN n.toNat f.toNat : Nat) : Int) = (y : Int) / 2 ^ (30 - n).toNat) := by
        show ((powN n.toNat f.toNat : Nat) : Int) = (y : Int) / 2 ^ (30 - n).toNat
        have h := HY.out
        rw [show rootsL.drop 15 = [] from rfl, powW] at h
        rw [show (30 - n).toNat = 30 - n.toNat by omega] at *
        unfold powN
        rw [← h, Nat.min_eq_left (by omega), hY]
      have s0 : IntKind.u64.wrap (30 - n) = 30 - n := by rw [IntKind.wrap_u64]; omega
      have hB : (y : Int) / 2 ^ (30 - n).toNat ≤ 2147483647 := by omega
      clear HY hy hY hY2
      go_wp2_with fail
      go_ret2
      exact ⟨by rw [HF.out]; rfl, rfl⟩
end Go.Proofs.YtdpnadcoehmhbaaDoor
