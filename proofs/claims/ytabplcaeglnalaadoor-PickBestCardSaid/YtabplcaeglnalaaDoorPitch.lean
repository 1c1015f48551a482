/-
  pitch: Gain, Nearest, Past walked. No statement is proved here.
-/
import Derived.Test.YtabplcaeglnalaaDoorTable
import Derived.Test.YtabplcaeglnalaaDoorSlice
import Derived.Test.YtabplcaeglnalaaDoorPowLaw
import Derived.Test.YtabplcaeglnalaaDoorSpot
import Derived.Test.YtabplcaeglnalaaDoorPast
namespace Go.Proofs.YtabplcaeglnalaaDoor
open Go.RowKit
def gainsZ : List Int := [0, 3277, 6554, 9830, 12452, 14746, 16384, 18022]
def gainF (i : Nat) : Int := gainsZ.getD i 0
/-- The table of pitch gains lies in memory. -/
abbrev Gains (w : World) : Prop := Table 0 8 gainF w
def gainI (n : Int) : Int := gainF n.toNat
theorem gainF_bd {i : Nat} (h : i < 8) : 0 ≤ gainF i ∧ gainF i ≤ 18022 := by
  have : ∀ i < 8, 0 ≤ gainF i ∧ gainF i ≤ 18022 := by decide
  exact this i h
theorem gainF_mono {i j : Nat} (h : i ≤ j) (hj : j ≤ 7) : gainF i ≤ gainF j := by
  have : ∀ j < 8, ∀ i < 8, i ≤ j → gainF i ≤ gainF j := by decide
  exact this j (by omega) i (by omega) h
theorem PGain_any (n : Int) (w : World) (hT : Gains w) (h0 : 0 ≤ n) (h : n ≤ 7) :
    Calls Tryd.prog 19 #[.int .i64 n] w fun e w' => e = .returned (.tuple #[.int .i64 (gainI n), .int .i64 0]) ∧ w = w' := by
  have d1 := lt_no h0
  have d2 := le_no (show n < 8 by omega)
  have b0 : n < 8 := by omega
  go_enter Tryd.func19, Tryd.ntmps19
  go_wp2_with ((refine wpList_on (o := ⟨_, .load 3 _, _, _, _, _⟩) rfl (fun K hK => ?_)); refine wp_load_entry hT 3 _ rfl (i := n.toNat) rfl (by kernel_rfl) (by omega) ?_; refine hK _ _ ?_; clear hK K)
  go_ret2
  exact ⟨rfl, rfl⟩
set_option maxHeartbeats 1600000 in
theorem Nearest_any (c e : Int) (w : World) (hT : Gains w) (hc0 : 1 ≤ c) (hc : c ≤ 1099511627776) (he0 : 1 ≤ e) (he : e ≤ 1099511627776) :
    Calls Tryd.prog 20 #[.int .i64 c, .int .i64 e] w fun x w' => x = .returned (.int .i64 (bestN gainF e (32768 * c) 7 : Nat)) ∧ Below w.heap.size w w' := by
  have H := Has.start w
  have d1 := le_no (show 0 < c by omega)
  have d2 := le_no (show 0 < e by omega)
  go_enter Tryd.func20, Tryd.ntmps20
  go_wp2
  go_loopw [5, 6] (fun b n wr => ∃ k : Nat, k ≤ 7 ∧ n = .int .i64 ((k : Int) + 1) ∧ b = .int .i64 (bestN gainF e (32768 * c) k : Nat) ∧ Has w wr []) (fun _ n _ => (8 - intOf n).toNat)
  case atStart => exact ⟨0, by omega, rfl, rfl, H⟩
  clear H
  case round =>
    clear d1 d2
    obtain ⟨k, hk, rfl, rfl, H⟩ := hrel
    have hbl := bestN_le gainF e (32768 * c) k
    by_cases hlt : k < 7
    · have l1 := gainF_bd (i := k) (by omega)
      have l2 := gainF_bd (i := k + 1) (by omega)
      have m1 := mul_le_of (gainF (k + 1) + gainF k) e 65534 1099511627776 (by omega) (by omega) (by omega) he
      have s1 : IntKind.i64.wrap ((gainF (k + 1) + gainF k) * e) = (gainF (k + 1) + gainF k) * e := IntWalk.i64_in _ (by omega)
      have HB : Hid (bestN gainF e (32768 * c) (k + 1) = if (gainF k + gainF (k + 1)) * e < 32768 * c then k + 1 else bestN gainF e (32768 * c) k) := rfl
      generalize hbe : bestN gainF e (32768 * c) k = B at *
      clear hbe
      have s2 : ((k : Int) + 1).toNat = k + 1 := by omega
      have s3 : (0 : Int) ≤ (k : Int) + 1 := by omega
      have s4 : (k : Int) + 1 < 8 := by omega
      have s5 : (0 : Int) ≤ (k : Int) := by omega
      have s6 : (k : Int) < 8 := by omega
      have s7 : IntKind.i64.wrap (k : Int) = (k : Int) := IntWalk.i64_in _ (by omega)
      have s8 : IntKind.i64.wrap (32768 * c) = 32768 * c := IntWalk.i64_in _ (by omega)
      have s9 : IntKind.i64.wrap (gainF (k + 1) + gainF k) = gainF (k + 1) + gainF k := IntWalk.i64_in _ (by omega)
      by_cases hc : (gainF k + gainF (k + 1)) * e < 32768 * c
      all_goals
        rw [Int.add_comm (gainF k)] at hc
      · have HB2 : Hid (bestN gainF e (32768 * c) (k + 1) = k + 1) := HB.out.trans (if_pos (by rw [Int.add_comm (gainF k)]; exact hc))
        have d := lt_yes hc
        clear hc HB m1
        go_wp2_with fail
        refine wp_region_text [] (by kernel_rfl) (by kernel_rfl) (by kernel_rfl) ?_; replace H := H.drew; generalize World.drew _ = u at *
        have T := Table.has hT H
        repeat (first | (refine ones_load_entry T (o := ⟨_, .load 3 _, _, _, _, _⟩) 3 _ rfl rfl rfl rfl (by kernel_rfl) (by omega) ?_; simp only [Act.put, List.setIfInBounds_toArray, List.set_cons_zero, List.set_cons_succ]) | (refine ones_free (v := ?_) rfl rfl ?_ ?_; rotate_left; (intro w'; go_simp; try with_reducible rfl); simp only [Act.put, List.setIfInBounds_toArray, List.set_cons_zero, List.set_cons_succ]))
        refine ones_nil ?_
        go_wp2
        go_roundw
        case rel => exact ⟨k + 1, by omega, by go_num, by rw [HB2.out]; go_num, H⟩
        case measure => simp [intOf]; omega
      · have HB2 : Hid (bestN gainF e (32768 * c) (k + 1) = B) := HB.out.trans (if_neg (by rw [Int.add_comm (gainF k)]; exact hc))
        have d := lt_no (show 32768 * c ≤ (gainF (k + 1) + gainF k) * e by omega)
        clear hc HB m1
        go_wp2_with fail
        refine wp_region_text [] (by kernel_rfl) (by kernel_rfl) (by kernel_rfl) ?_; replace H := H.drew; generalize World.drew _ = u at *
        have T := Table.has hT H
        repeat (first | (refine ones_load_entry T (o := ⟨_, .load 3 _, _, _, _, _⟩) 3 _ rfl rfl rfl rfl (by kernel_rfl) (by omega) ?_; simp only [Act.put, List.setIfInBounds_toArray, List.set_cons_zero, List.set_cons_succ]) | (refine ones_free (v := ?_) rfl rfl ?_ ?_; rotate_left; (intro w'; go_simp; try with_reducible rfl); simp only [Act.put, List.setIfInBounds_toArray, List.set_cons_zero, List.set_cons_succ]))
        refine ones_nil ?_
        go_wp2
        go_roundw
        case rel => exact ⟨k + 1, by omega, by go_num, by rw [HB2.out], H⟩
        case measure => simp [intOf]; omega
    · obtain rfl : k = 7 := by omega
      go_wp2
      go_ret
      exact ⟨rfl, H.below⟩
end Go.Proofs.YtabplcaeglnalaaDoor
