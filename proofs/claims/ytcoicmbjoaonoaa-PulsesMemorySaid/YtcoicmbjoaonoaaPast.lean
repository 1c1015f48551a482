/-
  pitch.Past walked. No statement is proved here.
-/
import Derived.Test.YtcoicmbjoaonoaaSlice
namespace Go.Proofs.Ytcoicmbjoaonoaa
open Go.RowKit
/-- The past excitation, repeated by the lag. -/
def pastF (h : Nat → Int) (lag : Nat) (i : Nat) : Int := h (80 - lag + (if i < lag then i else i - lag))
def PastPost (h : Nat → Int) (lag : Nat) (w : World) (e : Ending) (w' : World) : Prop := ∃ g, e = .returned (.tuple #[.slice (some ⟨g, 0, none⟩) 40 40, .int .i64 0]) ∧ Has w w' [(g, 3, row 40 (pastF h lag))]
set_option maxHeartbeats 1600000 in
theorem Past_any (h : Nat → Int) (lag : Nat) (w : World) (h0 : 20 ≤ lag) (h1 : lag ≤ 79) :
    Calls Try.prog 24 #[.agg (row 80 h), .int .i64 lag] w (PastPost h lag w) := by
  have H := Has.start w
  have d1 := lt_no (show (20 : Int) ≤ lag by omega)
  have d2 := lt_no (show (lag : Int) ≤ 79 by omega)
  go_enter Try.func24, Try.ntmps24
  go_wp2_with (first | ((refine wpList_on (o := ⟨_, .box _ (.tmp 0), _, _, _, _⟩) rfl (fun K hK => ?_)); refine wp_box H _ (.tmp 0) rfl (v := .agg _) rfl ?_; clear H; intro u gh H; refine hK _ _ ?_; clear hK K; try simp only [Value.cells, List.cons_append, List.nil_append] at H) | ((refine wpList_on (o := ⟨some 14, .makeSlice _ _ _, _, _, _, _⟩) rfl (fun K hK => ?_)); refine wp_make_has (t_ := 24) (e := 3) H _ _ rfl 40 .i64 .i64 rfl rfl ?_ ?_ ?_ ?_ ?_; (kernel_rfl); (kernel_rfl); (omega); (omega); (clear H; intro u g H; refine hK _ _ ?_; clear hK K; try simp only [Value.cells, List.cons_append, List.nil_append] at H)))
  clear d1 d2
  simp only [show (40 : Int).toNat = 40 from rfl] at *
  go_loopw [17] (fun c wr => ∃ k : Nat, k ≤ 40 ∧ c = .int .i64 k ∧ Has w wr [(g, 3, row 40 fun i => if i < k then pastF h lag i else 0), (gh, 54, row 80 h)]) (fun c _ => 40 - (intOf c).toNat)
  case atStart => exact ⟨0, by omega, rfl, by simpa using H⟩
  clear H
  case round =>
    obtain ⟨k, hk, rfl, H⟩ := hrel
    by_cases hlt : k < 40
    · have HE : ∀ v, v = pastF h lag k → row 40 (fun i => if i < k + 1 then pastF h lag i else 0) = row 40 (fun j => if j = k then v else if j < k then pastF h lag j else 0) := fun v hv => row_congr fun i hi => by
        by_cases e : i = k
        · subst e; simp [hv]
        · have : i < k + 1 ↔ i < k := by omega
          simp [e, this]
      have HE' := Lib.hid HE
      clear HE
      by_cases hkl : k < lag
      · have HV : Hid (h (80 - lag + k) = pastF h lag k) := by show _ = _; unfold pastF; rw [if_pos hkl]
        have s1 : (80 - (lag : Int) + k).toNat = 80 - lag + k := by omega
        have d3 : decide (k < lag) = true := by simpa using hkl
        go_wp2_with (first | ((refine wpList_on (o := ⟨_, .load 3 _, _, _, _, _⟩) rfl (fun K hK => ?_)); refine wp_load_one H 3 _ rfl rfl (by repeat (first | exact List.mem_cons_self | apply List.mem_cons_of_mem | apply List.mem_append_right)) (by kernel_rfl) (row_get _ (by omega)) ?_; refine hK _ _ ?_; clear hK K) | ((refine wpList_on (o := ⟨_, .store 3 _ _, _, _, _, _⟩) rfl (fun K hK => ?_)); refine wp_store_row_ (l1 := []) H 3 _ _ rfl rfl rfl (by kernel_rfl) (by omega) ?_; clear H; intro u H; refine hK _ _ ?_; clear hK K; try simp only [Value.cells, List.cons_append, List.nil_append] at H))
        go_roundw
        case rel => exact ⟨k + 1, by omega, by go_num, by rw [HE'.out _ HV.out]; exact H⟩
        case measure => simp [intOf]; omega
      · have HV : Hid ((fun i => if i < k then pastF h lag i else 0) (k - lag) = pastF h lag k) := by
          show (fun i => if i < k then pastF h lag i else 0) (k - lag) = pastF h lag k
          simp only
          rw [if_pos (by omega)]
          unfold pastF
          rw [if_pos (by omega), if_neg hkl]
        have s1 : ((k : Int) - lag).toNat = k - lag := by omega
        have d3 : decide (k < lag) = false := by simp; omega
        go_wp2_with (first | ((refine wpList_on (o := ⟨_, .load 3 _, _, _, _, _⟩) rfl (fun K hK => ?_)); refine wp_load_one H 3 _ rfl rfl (by repeat (first | exact List.mem_cons_self | apply List.mem_cons_of_mem | apply List.mem_append_right)) (by kernel_rfl) (row_get _ (by omega)) ?_; refine hK _ _ ?_; clear hK K) | ((refine wpList_on (o := ⟨_, .store 3 _ _, _, _, _, _⟩) rfl (fun K hK => ?_)); refine wp_store_row_ (l1 := []) H 3 _ _ rfl rfl rfl (by kernel_rfl) (by omega) ?_; clear H; intro u H; refine hK _ _ ?_; clear hK K; try simp only [Value.cells, List.cons_append, List.nil_append] at H))
        go_roundw
        case rel => exact ⟨k + 1, by omega, by go_num, by rw [HE'.out _ HV.out]; exact H⟩
        case measure => simp [intOf]; omega
    · obtain rfl : k = 40 := by omega
      have HE : Hid (row 40 (fun i => if i < 40 then pastF h lag i else 0) = row 40 (pastF h lag)) := row_congr fun i hi => if_pos hi
      go_wp2
      go_ret2
      exact ⟨g, rfl, by rw [← HE.out]; exact H.sub (by repeat (first | exact List.Sublist.refl _ | exact List.nil_sublist _ | apply List.Sublist.cons_cons | apply List.Sublist.cons))⟩
end Go.Proofs.Ytcoicmbjoaonoaa
