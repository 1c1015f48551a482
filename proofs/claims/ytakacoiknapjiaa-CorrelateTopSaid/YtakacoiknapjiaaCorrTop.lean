/-
  The walk of CorrelateTop. No statement is proved here.
-/
import Derived.Test.YtakacoiknapjiaaCorr
import Derived.Test.YtakacoiknapjiaaHighs
namespace Go.Proofs.Ytakacoiknapjiaa
open Go.RowKit
set_option maxHeartbeats 3200000 in
set_option maxRecDepth 100000 in
theorem correlateTop_in (f : Nat → Int) (P : Option Addr) (n cap : Nat) (w : World) (hf : ∀ i, In16 (f i))
    (c1 : ∀ w' : World, Below w.heap.size w w' → Calls Try.prog 16 #[.slice P n cap, .int .i64 120] w' fun e w'' => ∃ g, e = .returned (.slice (some ⟨g, 0, none⟩) 120 120) ∧ Has w' w'' [(g, 3, row 120 f)]) :
    Calls Try.prog 5 #[.slice P n cap] w fun e w' => e = .returned (.bool true) ∧ Below w.heap.size w w' := by
  have H := Has.start w
  have C1 := Lib.hid c1
  have HF := Lib.hid hf
  clear c1 hf
  go_enter Try.func5, Try.ntmps5
  go_wp2_with (first | (go_at_call 16; (with_reducible refine (C1.out _ H.below).mono ?_); rintro e w1 ⟨g, rfl, hb⟩; replace H := H.join hb; clear hb; try simp only [Value.cells, List.cons_append, List.nil_append] at H) | (go_at_call 15; (with_reducible refine (Correlate_l (fun i _ => HF.out i) (H.lies (by repeat (first | exact List.mem_cons_self | apply List.mem_cons_of_mem | apply List.mem_append_right)) (Nat.le_refl _))).mono ?_); rintro e w1 ⟨R, N, rfl, ⟨r1, r2⟩, hk, hb⟩; replace H := H.callee hb; clear hb; replace hk := Lib.hid hk; have d1 := lt_no r1; have d2 := lt_no r2) | (refine wpList_on (o := ⟨some 3, .alloc 35, _, _, _, _⟩) rfl (fun K hK => ?_); refine wp_alloc H 35 rfl (z := (.agg (row 9 fun _ => 0))) (by kernel_rfl) ?_; clear H; intro u gr H; refine hK _ _ ?_; clear hK K; try simp only [Value.cells, List.cons_append, List.nil_append] at H) | ((refine wpList_on (o := ⟨_, .store 35 _ _, _, _, _, _⟩) rfl (fun K hK => ?_)); refine wp_store_all (l1 := []) H 35 _ _ rfl rfl rfl (by kernel_rfl) (by simp [row_size]) (row_one _ _) ?_; clear H; intro u H; refine hK _ _ ?_; clear hK K; try simp only [Value.cells, List.cons_append, List.nil_append] at H) | ((refine wpList_on (o := ⟨_, .load 3 _, _, _, _, _⟩) rfl (fun K hK => ?_)); refine wp_load_one H 3 _ rfl rfl (by repeat (first | exact List.mem_cons_self | apply List.mem_cons_of_mem | apply List.mem_append_right)) (by kernel_rfl) (row_get _ (by omega)) ?_; refine hK _ _ ?_; clear hK K) | (go_at_call 12; (with_reducible refine (highs_any _).mono ?_); rintro e w1 ⟨rfl, hb⟩; replace H := H.callee hb; clear hb))
  clear d1 d2
  go_loopw [6] (fun c wr => ∃ k : Nat, 1 ≤ k ∧ k ≤ 9 ∧ c = .int .i64 k ∧ Has w wr [(gr, 35, row 9 R), (g, 3, row 120 f)]) (fun c _ => 9 - (intOf c).toNat)
  case atStart => exact ⟨1, by omega, by omega, rfl, H⟩
  clear H
  case round =>
    obtain ⟨k, hk1, hk9, rfl, H⟩ := hrel
    by_cases hlt : k < 9
    · obtain ⟨k1, k2⟩ := hk.out k hk1 (by omega)
      have q1 : (k : Int) ≤ 8 := by omega
      have q2 : (k : Int) < 9 := by omega
      have q3 : (0 : Int) ≤ (k : Int) := by omega
      have d1 := le_no k1
      have d2 := le_no (show -(R k) < R 0 by omega)
      have s1 : IntKind.i64.wrap (-(R k)) = -(R k) := IntWalk.i64_in _ (by omega)
      go_wp2_with fail
      refine wp_region_text [] (by kernel_rfl) (by kernel_rfl) (by kernel_rfl) ?_; replace H := H.drew; generalize World.drew _ = u at *
      repeat (first | (refine ones_load_one (o := ⟨_, .load 3 _, _, _, _, _⟩) H 3 _ rfl rfl rfl rfl (by repeat (first | exact List.mem_cons_self | apply List.mem_cons_of_mem | apply List.mem_append_right)) (by kernel_rfl) (row_get _ (by omega)) ?_; simp only [Act.put, List.setIfInBounds_toArray, List.set_cons_zero, List.set_cons_succ]) | (refine ones_free (v := ?_) rfl rfl ?_ ?_; rotate_left; (intro w'; go_simp; try with_reducible rfl); simp only [Act.put, List.setIfInBounds_toArray, List.set_cons_zero, List.set_cons_succ]))
      refine ones_nil ?_
      go_wp2
      go_roundw
      case rel => exact ⟨k + 1, by omega, by omega, by go_num, H⟩
      case measure => simp [intOf]; omega
    · obtain rfl : k = 9 := by omega
      go_wp2
      go_ret
      exact ⟨rfl, H.below⟩
theorem correlateTop_walk (P : Option Addr) (n cap : Nat) (ad : Addr) (f : Nat → Int) (hn : n ≤ 9223372036854775807) {w : World} (hR : ReadsA w P n ad f) :
    Calls Try.prog 5 #[.slice P n cap] w fun e w' => e = .returned (.bool true) ∧ Below w.heap.size w w' :=
  correlateTop_in (listF n f) P n cap w (fun i => listF_bd n f i) (fun w' hb => lists_any P n cap ad f 120 w' hn (by omega) (by omega) (hR.below hb))
end Go.Proofs.Ytakacoiknapjiaa
