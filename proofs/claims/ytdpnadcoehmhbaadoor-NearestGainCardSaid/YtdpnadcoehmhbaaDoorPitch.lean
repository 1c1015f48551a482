/-
  pitch: Gain, Nearest, Past walked. No statement is proved here.
-/
import Derived.Test.YtdpnadcoehmhbaaDoorTable
import Derived.Test.YtdpnadcoehmhbaaDoorSlice
import Derived.Test.YtdpnadcoehmhbaaDoorPowLaw
import Derived.Test.YtdpnadcoehmhbaaDoorSpot
namespace Go.Proofs.YtdpnadcoehmhbaaDoor
open Go.RowKit
def gainsZ : List Int := [0, 3277, 6554, 9830, 12452, 14746, 16384, 18022]
def gainF (i : Nat) : Int := gainsZ.getD i 0
/-- The table of pitch gains lies in memory. -/
abbrev Gains (w : World) : Prop := Table 1 8 gainF w
def gainI (n : Int) : Int := gainF n.toNat
theorem gainF_bd {i : Nat} (h : i < 8) : 0 ≤ gainF i ∧ gainF i ≤ 18022 := by
  have : ∀ i < 8, 0 ≤ gainF i ∧ gainF i ≤ 18022 := by decide
  exact this i h
theorem gainF_mono {i j : Nat} (h : i ≤ j) (hj : j ≤ 7) : gainF i ≤ gainF j := by
  have : ∀ j < 8, ∀ i < 8, i ≤ j → gainF i ≤ gainF j := by decide
  exact this j (by omega) i (by omega) h
theorem PGain_any (n : Int) (w : World) (hT : Gains w) (h0 : 0 ≤ n) (h : n ≤ 7) :
    Calls Tryd.prog 19 #[.int .i64 n] w fun e w' => e = .returned (.tuple #[.int .i64 (gainI n), .int .i64 0]) ∧ w = w' := by
  have d1 := lt_no h0
  have d2 := le_no (show n < 8 by omega)
  have b0 : n < 8 := by omega
  go_enter Tryd.func19, Tryd.ntmps19
  go_wp2_with ((refine wpList_on (o := ⟨_, .load 3 _, _, _, _, _⟩) rfl (fun K hK => ?_)); refine wp_load_entry hT 3 _ rfl (i := n.toNat) rfl (by kernel_rfl) (by omega) ?_; refine hK _ _ ?_; clear hK K)
  go_ret2
  exact ⟨rfl, rfl⟩
set_option maxHeartbeats 1600000 in
theorem Nearest_any (c e : Int) (w : World) (hT : Gains w) (hc0 : 1 ≤ c) (hc : c ≤ 1099511627776) (he0 : 1 ≤ e) (he : e ≤ 1099511627776) :
    Calls Tryd.prog 18 #[.int .i64 c, .int .i64 e] w fun x w' => x = .returned (.int .i64 (bestN gainF e (32768 * c) 7 : Nat)) ∧ Below w.heap.size w w' := by
  have H := Has.start w
  have d1 := le_no (show 0 < c by omega)
  have d2 := le_no (show 0 < e by omega)
  go_enter Tryd.func18, Tryd.ntmps18
  go_wp2
  go_loopw [5, 6] (fun b n wr => ∃ k : Nat, k ≤ 7 ∧ n = .int .i64 ((k : Int) + 1) ∧ b = .int .i64 (bestN gainF e (32768 * c) k : Nat) ∧ Has w wr []) (fun _ n _ => (8 - intOf n).toNat)
  case atStart => exact ⟨0, by omega, rfl, rfl, H⟩
  clear H
  case round =>
    clear d1 d2
    obtain ⟨k, hk, rfl, rfl, H⟩ := hrel
    have hbl := bestN_le gainF e (32768 * c) k
    by_cases hlt : k < 7
    · have l1 := gainF_bd (i := k) (by omega)
      have l2 := gainF_bd (i := k + 1) (by omega)
      have m1 := mul_le_of (gainF (k + 1) + gainF k) e 65534 1099511627776 (by omega) (by omega) (by omega) he
      have s1 : IntKind.i64.wrap ((gainF (k + 1) + gainF k) * e) = (gainF (k + 1) + gainF k) * e := IntWalk.i64_in _ (by omega)
      have HB : Hid (bestN gainF e (32768 * c) (k + 1) = if (gainF k + gainF (k + 1)) * e < 32768 * c then k + 1 else bestN gainF e (32768 * c) k) := rfl
      generalize hbe : bestN gainF e (32768 * c) k = B at *
      clear hbe
      have s2 : ((k : Int) + 1).toNat = k + 1 := by omega
      have s3 : (0 : Int) ≤ (k : Int) + 1 := by omega
      have s4 : (k : Int) + 1 < 8 := by omega
      have s5 : (0 : Int) ≤ (k : Int) := by omega
      have s6 : (k : Int) < 8 := by omega
      have s7 : IntKind.i64.wrap (k : Int) = (k : Int) := IntWalk.i64_in _ (by omega)
      have s8 : IntKind.i64.wrap (32768 * c) = 32768 * c := IntWalk.i64_in _ (by omega)
      have s9 : IntKind.i64.wrap (gainF (k + 1) + gainF k) = gainF (k + 1) + gainF k := IntWalk.i64_in _ (by omega)
      by_cases hc : (gainF k + gainF (k + 1)) * e < 32768 * c
      all_goals
        rw [Int.add_comm (gainF k)] at hc
      · have HB2 : Hid (bestN gainF e (32768 * c) (k + 1) = k + 1) := HB.out.trans (if_pos (by rw [Int.add_comm (gainF k)]; exact hc))
        have d := lt_yes hc
        clear hc HB m1
        go_wp2_with fail
        refine wp_region_text [] (by kernel_rfl) (by kernel_rfl) (by kernel_rfl) ?_; replace H := H.drew; generalize World.drew _ = u at *
        have T := Table.has hT H
        repeat (first | (refine ones_load_entry T (o := ⟨_, .load 3 _, _, _, _, _⟩) 3 _ rfl rfl rfl rfl (by kernel_rfl) (by omega) ?_; simp only [Act.put, List.setIfInBounds_toArray, List.set_cons_zero, List.set_cons_succ]) | (refine ones_free (v := ?_) rfl rfl ?_ ?_; rotate_left; (intro w'; go_simp; try with_reducible rfl); simp only [Act.put, List.setIfInBounds_toArray, List.set_cons_zero, List.set_cons_succ]))
        refine ones_nil ?_
        go_wp2
        go_roundw
        case rel => exact ⟨k + 1, by omega, by go_num, by rw [HB2.out]; go_num, H⟩
        case measure => simp [intOf]; omega
      · have HB2 : Hid (bestN gainF e (32768 * c) (k + 1) = B) := HB.out.trans (if_neg (by rw [Int.add_comm (gainF k)]; exact hc))
        have d := lt_no (show 32768 * c ≤ (gainF (k + 1) + gainF k) * e by omega)
        clear hc HB m1
        go_wp2_with fail
        refine wp_region_text [] (by kernel_rfl) (by kernel_rfl) (by kernel_rfl) ?_; replace H := H.drew; generalize World.drew _ = u at *
        have T := Table.has hT H
        repeat (first | (refine ones_load_entry T (o := ⟨_, .load 3 _, _, _, _, _⟩) 3 _ rfl rfl rfl rfl (by kernel_rfl) (by omega) ?_; simp only [Act.put, List.setIfInBounds_toArray, List.set_cons_zero, List.set_cons_succ]) | (refine ones_free (v := ?_) rfl rfl ?_ ?_; rotate_left; (intro w'; go_simp; try with_reducible rfl); simp only [Act.put, List.setIfInBounds_toArray, List.set_cons_zero, List.set_cons_succ]))
        refine ones_nil ?_
        go_wp2
        go_roundw
        case rel => exact ⟨k + 1, by omega, by go_num, by rw [HB2.out], H⟩
        case measure => simp [intOf]; omega
    · obtain rfl : k = 7 := by omega
      go_wp2
      go_ret
      exact ⟨rfl, H.below⟩
/-- The past excitation, repeated by the lag. -/
def pastF (h : Nat → Int) (lag : Nat) (i : Nat) : Int := h (80 - lag + (if i < lag then i else i - lag))
def PastPost (h : Nat → Int) (lag : Nat) (w : World) (e : Ending) (w' : World) : Prop := ∃ g, e = .returned (.tuple #[.slice (some ⟨g, 0, none⟩) 40 40, .int .i64 0]) ∧ Has w w' [(g, 3, row 40 (pastF h lag))]
set_option maxHeartbeats 1600000 in
theorem Past_any (h : Nat → Int) (lag : Nat) (w : World) (h0 : 20 ≤ lag) (h1 : lag ≤ 79) :
    Calls Tryd.prog 21 #[.agg (row 80 h), .int .i64 lag] w (PastPost h lag w) := by
  have H := Has.start w
  have d1 := lt_no (show (20 : Int) ≤ lag by omega)
  have d2 := lt_no (show (lag : Int) ≤ 79 by omega)
  go_enter Tryd.func21, Tryd.ntmps21
  go_wp2_with (first | ((refine wpList_on (o := ⟨_, .box _ (.tmp 0), _, _, _, _⟩) rfl (fun K hK => ?_)); refine wp_box H _ (.tmp 0) rfl (v := .agg _) rfl ?_; clear H; intro u gh H; refine hK _ _ ?_; clear hK K; try simp only [Value.cells, List.cons_append, List.nil_append] at H) | ((refine wpList_on (o := ⟨some 14, .makeSlice _ _ _, _, _, _, _⟩) rfl (fun K hK => ?_)); refine wp_make_has (t_ := 36) (e := 3) H _ _ rfl 40 .i64 .i64 rfl rfl ?_ ?_ ?_ ?_ ?_; (kernel_rfl); (kernel_rfl); (omega); (omega); (clear H; intro u g H; refine hK _ _ ?_; clear hK K; try simp only [Value.cells, List.cons_append, List.nil_append] at H)))
  clear d1 d2
  simp only [show (40 : Int).toNat = 40 from rfl] at *
  go_loopw [17] (fun c wr => ∃ k : Nat, k ≤ 40 ∧ c = .int .i64 k ∧ Has w wr [(g, 3, row 40 fun i => if i < k then pastF h lag i else 0), (gh, 35, row 80 h)]) (fun c _ => 40 - (intOf c).toNat)
  case atStart => exact ⟨0, by omega, rfl, by simpa using H⟩
  clear H
  case round =>
    obtain ⟨k, hk, rfl, H⟩ := hrel
    by_cases hlt : k < 40
    · have HE : ∀ v, v = pastF h lag k → row 40 (fun i => if i < k + 1 then pastF h lag i else 0) = row 40 (fun j => if j = k then v else if j < k then pastF h lag j else 0) := fun v hv => row_congr fun i hi => by
        by_cases e : i = k
        · subst e; simp [hv]
        · have : i < k + 1 ↔ i < k := by omega
          simp [e, this]
      have HE' := Lib.hid HE
      clear HE
      by_cases hkl : k < lag
      · have HV : Hid (h (80 - lag + k) = pastF h lag k) := by show _ = _; unfold pastF; rw [if_pos hkl]
        have s1 : (80 - (lag : Int) + k).toNat = 80 - lag + k := by omega
        have d3 : decide (k < lag) = true := by simpa using hkl
        go_wp2_with (first | ((refine wpList_on (o := ⟨_, .load 3 _, _, _, _, _⟩) rfl (fun K hK => ?_)); refine wp_load_one H 3 _ rfl rfl (by repeat (first | exact List.mem_cons_self | apply List.mem_cons_of_mem)) (by kernel_rfl) (row_get _ (by omega)) ?_; refine hK _ _ ?_; clear hK K) | ((refine wpList_on (o := ⟨_, .store 3 _ _, _, _, _, _⟩) rfl (fun K hK => ?_)); refine wp_store_row_ (l1 := []) H 3 _ _ rfl rfl rfl (by kernel_rfl) (by omega) ?_; clear H; intro u H; refine hK _ _ ?_; clear hK K; try simp only [Value.cells, List.cons_append, List.nil_append] at H))
        go_roundw
        case rel => exact ⟨k + 1, by omega, by go_num, by rw [HE'.out _ HV.out]; exact H⟩
        case measure => simp [intOf]; omega
      · have HV : Hid ((fun i => if i < k then pastF h lag i else 0) (k - lag) = pastF h lag k) := by
          show (fun i => if i < k then pastF h lag i else 0) (k - lag) = pastF h lag k
          simp only
          rw [if_pos (by omega)]
          unfold pastF
          rw [if_pos (by omega), if_neg hkl]
        have s1 : ((k : Int) - lag).toNat = k - lag := by omega
        have d3 : decide (k < lag) = false := by simp; omega
        go_wp2_with (first | ((refine wpList_on (o := ⟨_, .load 3 _, _, _, _, _⟩) rfl (fun K hK => ?_)); refine wp_load_one H 3 _ rfl rfl (by repeat (first | exact List.mem_cons_self | apply List.mem_cons_of_mem)) (by kernel_rfl) (row_get _ (by omega)) ?_; refine hK _ _ ?_; clear hK K) | ((refine wpList_on (o := ⟨_, .store 3 _ _, _, _, _, _⟩) rfl (fun K hK => ?_)); refine wp_store_row_ (l1 := []) H 3 _ _ rfl rfl rfl (by kernel_rfl) (by omega) ?_; clear H; intro u H; refine hK _ _ ?_; clear hK K; try simp only [Value.cells, List.cons_append, List.nil_append] at H))
        go_roundw
        case rel => exact ⟨k + 1, by omega, by go_num, by rw [HE'.out _ HV.out]; exact H⟩
        case measure => simp [intOf]; omega
    · obtain rfl : k = 40 := by omega
      have HE : Hid (row 40 (fun i => if i < 40 then pastF h lag i else 0) = row 40 (pastF h lag)) := row_congr fun i hi => if_pos hi
      go_wp2
      go_ret2
      exact ⟨g, rfl, by rw [← HE.out]; exact H.sub (by repeat (first | exact List.Sublist.refl _ | exact List.nil_sublist _ | apply List.Sublist.cons_cons | apply List.Sublist.cons))⟩
end Go.Proofs.YtdpnadcoehmhbaaDoor
