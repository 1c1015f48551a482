/-
  front: sat, right, Weight walked. No statement is proved here.
-/
import Derived.Test.YtcoicmbjoaonoaaSlice
import Derived.Test.YtcoicmbjoaonoaaCorrLaw
namespace Go.Proofs.Ytcoicmbjoaonoaa
open Go.RowKit
theorem frontSat_any (x : Int) (w : World) : Calls Try.prog 33 #[.int .i64 x] w fun e w' => e = .returned (.int .i64 (sat16 x)) ∧ w = w' := by
  go_enter Try.func33, Try.ntmps33
  go_wp2_with (go_at_call 47; (with_reducible refine (Sat16_any _ _).mono ?_); rintro e w1 ⟨rfl, rfl⟩)
  go_ret
  exact ⟨rfl, rfl⟩
theorem Weight_any (i : Int) (w : World) (h0 : 0 ≤ i) (h1 : i < 120) : Calls Try.prog 34 #[.int .i64 i] w fun e w' => e = .returned (.int .i64 (weight i)) ∧ w = w' := by
  have d1 := lt_no h0
  have d2 := le_no h1
  by_cases hc : 2 * (120 - i) - 1 < 2 * i + 1
  · have HW : Hid (weight i = 32767 * (2 * (120 - i) - 1) / 119) := by show weight i = _; unfold weight; rw [if_pos hc]
    go_enter Try.func34, Try.ntmps34
    go_wp2
    all_goals go_ret
    all_goals first | (exfalso; omega) | exact ⟨by rw [HW.out]; rfl, rfl⟩
  · have HW : Hid (weight i = 32767 * (2 * i + 1) / 119) := by show weight i = _; unfold weight; rw [if_neg hc]
    go_enter Try.func34, Try.ntmps34
    go_wp2
    all_goals go_ret
    all_goals first | (exfalso; omega) | exact ⟨by rw [HW.out]; rfl, rfl⟩
def in16B (x : Int) : Bool := decide (-32768 ≤ x) && decide (x ≤ 32767)
def rightB (n : Nat) (f : Nat → Int) : Bool := (List.range n).all fun i => in16B (f i)
theorem rightB_iff {n : Nat} {f : Nat → Int} : rightB n f = true ↔ ∀ i, i < n → In16 (f i) := by
  simp [rightB, in16B, In16]
theorem sat_ne {x : Int} (h : ¬ In16 x) : (x != sat16 x) = true := by
  have := sat16_bd x
  simp only [bne_iff_ne]
  intro e
  exact h (by unfold In16; omega)
set_option maxHeartbeats 1600000 in
theorem right_any (P : Option Addr) (n cap b o : Nat) (f : Nat → Int) (w : World) (hn : n ≤ 9223372036854775807) (hR : Reads w P n b o f) :
    Calls Try.prog 32 #[.slice P n cap] w fun e w' => e = .returned (.bool (rightB n f)) ∧ w = w' := by
  go_enter Try.func32, Try.ntmps32
  go_wp2
  go_loop [7] (fun c => ∃ k : Nat, k ≤ n ∧ c = .int .i64 k ∧ Hid (∀ i, i < k → In16 (f i))) (fun c => n - (intOf c).toNat)
  case atStart => exact ⟨0, by omega, rfl, fun i hi => by omega⟩
  case round =>
    obtain ⟨k, hk, rfl, HK⟩ := hrel
    by_cases hlt : k < n
    · obtain rfl := hR.ptr (by omega)
      by_cases h1 : In16 (f k)
      · have HF := Lib.hid h1
        have b1 : (f k != sat16 (f k)) = false := by rw [sat16_in h1]; simp
        clear h1
        go_wp2_with (first | ((refine wpList_on (o := ⟨_, .load 3 _, _, _, _, _⟩) rfl (fun K hK => ?_)); refine wp_load_num hR 3 _ rfl rfl (by kernel_rfl) hlt ?_; refine hK _ _ ?_; clear hK K) | (go_at_call 33; (with_reducible refine (frontSat_any _ _).mono ?_); rintro e w1 ⟨rfl, rfl⟩))
        go_round
        case rel => exact ⟨k + 1, by omega, by go_num, fun i hi => by
          by_cases e : i = k
          · subst e; exact HF.out
          · exact HK.out i (by omega)⟩
        case measure => simp [intOf]; omega
      · have b1 := sat_ne h1
        have HE : Hid (rightB n f = false) := by
          show rightB n f = false
          rw [Bool.eq_false_iff]
          intro h
          exact h1 (rightB_iff.1 h k hlt)
        clear h1
        go_wp2_with (first | ((refine wpList_on (o := ⟨_, .load 3 _, _, _, _, _⟩) rfl (fun K hK => ?_)); refine wp_load_num hR 3 _ rfl rfl (by kernel_rfl) hlt ?_; refine hK _ _ ?_; clear hK K) | (go_at_call 33; (with_reducible refine (frontSat_any _ _).mono ?_); rintro e w1 ⟨rfl, rfl⟩))
        go_ret
        exact ⟨by rw [HE.out]; rfl, rfl⟩
    · obtain rfl : k = n := by omega
      have HE : Hid (rightB k f = true) := rightB_iff.2 HK.out
      go_wp2
      go_ret
      exact ⟨by rw [HE.out]; rfl, rfl⟩
end Go.Proofs.Ytcoicmbjoaonoaa
