/-
  The walk of PastRepeats. No statement is proved here.
-/
import Derived.Test.YtdpnadcoehmhbaaDoorNearest
namespace Go.Proofs.YtdpnadcoehmhbaaDoor
open Go.RowKit
theorem past_low {h : Nat → Int} {L k : Nat} (hk : k < L) : (pastF h L k != h (80 - L + k)) = false := by unfold pastF; rw [if_pos hk]; simp
theorem past_high {h : Nat → Int} {L k : Nat} (hk : L ≤ k) (hL : 20 ≤ L) (h40 : k < 40) : (pastF h L k != pastF h L (k - L)) = false := by unfold pastF; rw [if_neg (by omega), if_pos (by omega)]; simp
set_option maxHeartbeats 3200000 in
set_option maxRecDepth 100000 in
theorem pastRepeats_in (h : Nat → Int) (lag S : Int) (L : Nat) (w : World) (hT : Gains w) (hS : 0 ≤ S ∧ S ≤ 59) (hL0 : 20 ≤ L) (hL1 : L ≤ 79) (hL : 20 + S = (L : Int))
    (c1 : ∀ w : World, Calls Tryd.prog 10 #[.int .i64 lag, .int .i64 60] w fun e w' => e = .returned (.int .i64 S) ∧ w = w') :
    Calls Tryd.prog 9 #[.agg (row 80 h), .int .i64 lag] w fun e w' => e = .returned (.bool true) ∧ Below w.heap.size w w' := by
  have H := Has.start w
  have C1 := Lib.hid c1
  clear c1
  go_enter Tryd.func9, Tryd.ntmps9
  go_wp2_with (first | ((refine wpList_on (o := ⟨_, .box _ (.tmp 0), _, _, _, _⟩) rfl (fun K hK => ?_)); refine wp_box H _ (.tmp 0) rfl (v := .agg _) rfl ?_; clear H; intro u gb H; refine hK _ _ ?_; clear hK K; try simp only [Value.cells, List.cons_append, List.nil_append] at H) | (go_at_call 10; (with_reducible refine (C1.out _).mono ?_); rintro e w1 ⟨rfl, rfl⟩) | ((refine wpList_on (o := ⟨_, .load 35 _, _, _, _, _⟩) rfl (fun K hK => ?_)); refine wp_load_all H 35 _ rfl rfl (by repeat (first | exact List.mem_cons_self | apply List.mem_cons_of_mem | apply List.mem_append_right)) (by kernel_rfl) ?_; refine hK _ _ ?_; clear hK K) | (go_at_call 21; (with_reducible refine (Past_any h L _ hL0 hL1).mono ?_); rintro e w1 ⟨g, rfl, hb⟩; replace H := H.join hb; clear hb; simp only [List.cons_append, List.nil_append] at H) | (go_at_call 20; (with_reducible refine (hears_any _ (hT.has H)).mono ?_); rintro e w1 ⟨rfl, hb⟩; replace H := H.callee hb; clear hb))
  clear hL C1
  go_loopw [7] (fun c wr => ∃ k : Nat, k ≤ 40 ∧ c = .int .i64 k ∧ Has w wr [(g, 3, row 40 (pastF h L)), (gb, 35, row 80 h)]) (fun c _ => 40 - (intOf c).toNat)
  case atStart => exact ⟨0, by omega, rfl, H⟩
  clear H
  case round =>
    obtain ⟨k, hk, rfl, H⟩ := hrel
    by_cases hlt : k < 40
    · have s6 : (0 : Int) ≤ (k : Int) := by omega
      have s7 : (k : Int) < 40 := by omega
      by_cases hkl : k < L
      · have d1 : decide (k < L) = true := by simpa using hkl
        have d2 : decide (L ≤ k) = false := by simp; omega
        have d1' : decide ((k : Int) < (L : Int)) = true := by simp; omega
        have d2' : decide ((L : Int) ≤ (k : Int)) = false := by simp; omega
        have s1 : IntKind.i64.wrap (80 - (L : Int)) = 80 - L := IntWalk.i64_in _ (by omega)
        have s2 : IntKind.i64.wrap (80 - (L : Int) + k) = 80 - L + k := IntWalk.i64_in _ (by omega)
        have s3 : (80 - (L : Int) + k).toNat = 80 - L + k := by omega
        have s4 : (0 : Int) ≤ 80 - (L : Int) + k := by omega
        have s5 : 80 - (L : Int) + k < 80 := by omega
        have b1 := past_low (h := h) hkl
        go_wp2_with fail
        refine wp_region_text [] (by kernel_rfl) (by kernel_rfl) (by kernel_rfl) ?_; replace H := H.drew; generalize World.drew _ = u at *
        iterate 7 (refine ones_free (v := ?_) rfl rfl ?_ ?_; rotate_left; (intro w'; go_simp; try with_reducible rfl); simp only [Act.put, List.setIfInBounds_toArray, List.set_cons_zero, List.set_cons_succ])
        (refine ones_load_one (o := ⟨_, .load 3 _, _, _, _, _⟩) H 3 _ rfl rfl rfl rfl (by repeat (first | exact List.mem_cons_self | apply List.mem_cons_of_mem | apply List.mem_append_right)) (by kernel_rfl) (row_get _ (by omega)) ?_; simp only [Act.put, List.setIfInBounds_toArray, List.set_cons_zero, List.set_cons_succ])
        iterate 5 (refine ones_free (v := ?_) rfl rfl ?_ ?_; rotate_left; (intro w'; go_simp; try with_reducible rfl); simp only [Act.put, List.setIfInBounds_toArray, List.set_cons_zero, List.set_cons_succ])
        (refine ones_load_one (o := ⟨_, .load 3 _, _, _, _, _⟩) H 3 _ rfl rfl rfl rfl (by repeat (first | exact List.mem_cons_self | apply List.mem_cons_of_mem | apply List.mem_append_right)) (by kernel_rfl) (row_get _ (by omega)) ?_; simp only [Act.put, List.setIfInBounds_toArray, List.set_cons_zero, List.set_cons_succ])
        iterate 7 (refine ones_free (v := ?_) rfl rfl ?_ ?_; rotate_left; (intro w'; go_simp; try with_reducible rfl); simp only [Act.put, List.setIfInBounds_toArray, List.set_cons_zero, List.set_cons_succ])
        iterate 11 (with_reducible refine ones_skip (by simp [Region.wanted, yielded]) ?_; simp only [Act.put, List.setIfInBounds_toArray, List.set_cons_zero, List.set_cons_succ])
        iterate 2 (refine ones_free (v := ?_) rfl rfl ?_ ?_; rotate_left; (intro w'; go_simp; try with_reducible rfl); simp only [Act.put, List.setIfInBounds_toArray, List.set_cons_zero, List.set_cons_succ])
        refine ones_nil ?_
        go_wp2
        go_roundw
        case rel => exact ⟨k + 1, by omega, by go_num, H⟩
        case measure => simp [intOf]; omega
      · have d1 : decide (k < L) = false := by simpa using hkl
        have d2 : decide (L ≤ k) = true := by simp; omega
        have d1' : decide ((k : Int) < (L : Int)) = false := by simp; omega
        have d2' : decide ((L : Int) ≤ (k : Int)) = true := by simp; omega
        have s1 : IntKind.i64.wrap ((k : Int) - (L : Int)) = k - L := IntWalk.i64_in _ (by omega)
        have s3 : ((k : Int) - (L : Int)).toNat = k - L := by omega
        have s4 : (0 : Int) ≤ (k : Int) - (L : Int) := by omega
        have s5 : (k : Int) - (L : Int) < 40 := by omega
        have s8 : (L : Int) ≤ (k : Int) := by omega
        have s9 : k - L < 40 := by omega
        have s10 : L ≤ k := by omega
        have b1 := past_high (h := h) (show L ≤ k by omega) hL0 hlt
        go_wp2_with fail
        refine wp_region_text [] (by kernel_rfl) (by kernel_rfl) (by kernel_rfl) ?_; replace H := H.drew; generalize World.drew _ = u at *
        iterate 4 (refine ones_free (v := ?_) rfl rfl ?_ ?_; rotate_left; (intro w'; go_simp; try with_reducible rfl); simp only [Act.put, List.setIfInBounds_toArray, List.set_cons_zero, List.set_cons_succ])
        iterate 11 (with_reducible refine ones_skip (by simp [Region.wanted, yielded]) ?_; simp only [Act.put, List.setIfInBounds_toArray, List.set_cons_zero, List.set_cons_succ])
        iterate 9 (refine ones_free (v := ?_) rfl rfl ?_ ?_; rotate_left; (intro w'; go_simp; try with_reducible rfl); simp only [Act.put, List.setIfInBounds_toArray, List.set_cons_zero, List.set_cons_succ])
        (refine ones_load_one (o := ⟨_, .load 3 _, _, _, _, _⟩) H 3 _ rfl rfl rfl rfl (by repeat (first | exact List.mem_cons_self | apply List.mem_cons_of_mem | apply List.mem_append_right)) (by kernel_rfl) (row_get _ (by omega)) ?_; simp only [Act.put, List.setIfInBounds_toArray, List.set_cons_zero, List.set_cons_succ])
        iterate 5 (refine ones_free (v := ?_) rfl rfl ?_ ?_; rotate_left; (intro w'; go_simp; try with_reducible rfl); simp only [Act.put, List.setIfInBounds_toArray, List.set_cons_zero, List.set_cons_succ])
        (refine ones_load_one (o := ⟨_, .load 3 _, _, _, _, _⟩) H 3 _ rfl rfl rfl rfl (by repeat (first | exact List.mem_cons_self | apply List.mem_cons_of_mem | apply List.mem_append_right)) (by kernel_rfl) (row_get _ (by omega)) ?_; simp only [Act.put, List.setIfInBounds_toArray, List.set_cons_zero, List.set_cons_succ])
        iterate 3 (refine ones_free (v := ?_) rfl rfl ?_ ?_; rotate_left; (intro w'; go_simp; try with_reducible rfl); simp only [Act.put, List.setIfInBounds_toArray, List.set_cons_zero, List.set_cons_succ])
        refine ones_nil ?_
        go_wp2
        go_roundw
        case rel => exact ⟨k + 1, by omega, by go_num, H⟩
        case measure => simp [intOf]; omega
    · go_wp2
      go_ret
      exact ⟨rfl, H.below⟩
theorem pastRepeats_walk (h : Nat → Int) (lag : Int) (w : World) (hT : Gains w) :
    Calls Tryd.prog 9 #[.agg (row 80 h), .int .i64 lag] w fun e w' => e = .returned (.bool true) ∧ Below w.heap.size w w' :=
  pastRepeats_in h lag (lag % 60) (20 + lag % 60).toNat w hT (by omega) (by omega) (by omega) (by omega) (fun w => spot_any lag 60 w (by omega) (by omega))
end Go.Proofs.YtdpnadcoehmhbaaDoor
