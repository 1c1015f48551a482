/-
  highs, and the walk of WeightEven. No statement is proved here.
-/
import Derived.Test.YtakacoiknapjiaaHigh
import Derived.Test.YtakacoiknapjiaaSpot
namespace Go.Proofs.Ytakacoiknapjiaa
open Go.RowKit
def hxF (i : Nat) : Int := if i = 0 then 4096 else 0
def hxQ (_ : Nat) : Int := 0
theorem hx_Q : (#[.int .i64 0, .int .i64 0, .int .i64 0, .int .i64 0] : Array Value) = row 4 hxQ := rfl
theorem hx_out : hpOut hxF (hpOf hxQ) 0 = 3798 := by decide
theorem weight_0 : weight 0 = 275 := by decide
theorem High_ex (g : Nat) (w u : World) (t : TypeId) (H : Has w u [(g, t, row 2 hxF)]) :
    Calls Try.prog 11 #[.agg #[.int .i64 0, .int .i64 0, .int .i64 0, .int .i64 0], .slice (some ⟨g, 0, none⟩) 2 2] u (HighPost hxF hxQ 2 u) := by
  rw [hx_Q]
  exact High_yes hxQ hxF _ 2 2 g 0 u (by omega) (fun i hi => by unfold hxQ In16; omega) (fun i hi => by unfold hxF In16; split <;> omega) (Reads.ofRow H (by repeat (first | exact List.mem_cons_self | apply List.mem_cons_of_mem | apply List.mem_append_right)) (by omega))
set_option maxHeartbeats 1600000 in
theorem highs_any (w : World) : Calls Try.prog 12 #[] w fun e w' => e = .returned (.bool true) ∧ Below w.heap.size w w' := by
  have H := Has.start w
  have E1 := hx_out
  have E2 := weight_0
  go_enter Try.func12, Try.ntmps12
  go_wp2_with (first | ((refine wpList_on (o := ⟨some 6, .buildSlice _ _ _, _, _, _, _⟩) rfl (fun K hK => ?_)); refine wp_made H (elem := 3) (n := 2) (cs := row 2 hxF) (by kernel_rfl) ?_; clear H; intro u g6 H; refine hK _ _ ?_; clear hK K) | (go_at_call 11; (with_reducible refine (High_ex _ _ _ _ H).mono ?_); rintro e w1 ⟨v, tl, rfl, RO, hb⟩; obtain ⟨gv, capv, csv, rfl, rfl, hcap, hsz, hcs⟩ := RO.some_ (by omega); clear RO; replace H := H.join hb; clear hb; have hc0 := hcs 0 (by omega); have HC := Lib.hid hcs; clear hcs; have HC0 := Lib.hid hc0; clear hc0; simp only [List.cons_append, List.nil_append] at H) | (refine wpList_on (o := ⟨some 2, .alloc 24, _, _, _, _⟩) rfl (fun K hK => ?_); refine wp_alloc H 24 rfl (z := (.agg (row 4 fun _ => 0))) (by kernel_rfl) ?_; clear H; intro u gp H; refine hK _ _ ?_; clear hK K; try simp only [Value.cells, List.cons_append, List.nil_append] at H) | ((refine wpList_on (o := ⟨_, .store 24 _ _, _, _, _, _⟩) rfl (fun K hK => ?_)); refine wp_store_all (l1 := []) H 24 _ _ rfl rfl rfl (by kernel_rfl) (by simp [row_size]) (row_one _ _) ?_; clear H; intro u H; refine hK _ _ ?_; clear hK K; try simp only [Value.cells, List.cons_append, List.nil_append] at H) | ((refine wpList_on (o := ⟨_, .load 3 _, _, _, _, _⟩) rfl (fun K hK => ?_)); refine wp_load_one H 3 _ rfl rfl (by repeat (first | exact List.mem_cons_self | apply List.mem_cons_of_mem | apply List.mem_append_right)) (by kernel_rfl) HC0.out ?_; refine hK _ _ ?_; clear hK K) | (go_at_call 14; (with_reducible refine (Weight_any 0 _ (by omega) (by omega)).mono ?_); rintro e w1 ⟨rfl, rfl⟩))
  go_ret
  exact ⟨rfl, H.below⟩
set_option maxHeartbeats 1600000 in
theorem weightEven_in (i I : Int) (w : World) (h0 : 0 ≤ I) (h1 : I < 120)
    (c1 : Calls Try.prog 10 #[.int .i64 i, .int .i64 120] w fun e w' => e = .returned (.int .i64 I) ∧ w = w') :
    Calls Try.prog 4 #[.int .i64 i] w fun e w' => e = .returned (.bool true) ∧ Below w.heap.size w w' := by
  have H := Has.start w
  have wb := weight_bd h0 h1
  have c2 : ∀ w : World, Calls Try.prog 14 #[.int .i64 I] w fun e w' => e = .returned (.int .i64 (weight I)) ∧ w = w' := fun w => Weight_any I w h0 h1
  have c3 : ∀ w : World, Calls Try.prog 14 #[.int .i64 (119 - I)] w fun e w' => e = .returned (.int .i64 (weight I)) ∧ w = w' := fun w => by
    have := Weight_any (119 - I) w (by omega) (by omega)
    rw [weight_even h0 h1] at this; exact this
  have C2 := Lib.hid c2
  have C3 := Lib.hid c3
  obtain ⟨wb1, wb2⟩ := wb
  have d1 := le_yes wb2
  have d2 := lt_yes (show 0 < weight I by omega)
  by_cases h58 : 58 < I
  · have d3 := lt_yes h58
    clear c2 c3
    generalize weight I = W at *
    go_enter Try.func4, Try.ntmps4
    go_wp2_with (first | (go_at_call 10; (with_reducible refine (c1).mono ?_); rintro e w1 ⟨rfl, rfl⟩) | (go_at_call 14; (with_reducible refine (C2.out _).mono ?_); rintro e w1 ⟨rfl, rfl⟩) | (go_at_call 14; (with_reducible refine (C3.out _).mono ?_); rintro e w1 ⟨rfl, rfl⟩) | (go_at_call 12; (with_reducible refine (highs_any _).mono ?_); rintro e w1 ⟨rfl, hb⟩; replace H := H.callee hb; clear hb))
    go_ret
    exact ⟨rfl, H.below⟩
  · have d3 := lt_no (show I ≤ 58 by omega)
    have c4 := fun w : World => Weight_any (I + 1) w (by omega) (by omega)
    have C4 := Lib.hid c4
    have d4 := lt_yes (weight_rises h0 (show I ≤ 58 by omega))
    clear c2 c3 c4
    generalize weight (I + 1) = W2 at *
    generalize weight I = W at *
    go_enter Try.func4, Try.ntmps4
    go_wp2_with (first | (go_at_call 10; (with_reducible refine (c1).mono ?_); rintro e w1 ⟨rfl, rfl⟩) | (go_at_call 14; (with_reducible refine (C2.out _).mono ?_); rintro e w1 ⟨rfl, rfl⟩) | (go_at_call 14; (with_reducible refine (C3.out _).mono ?_); rintro e w1 ⟨rfl, rfl⟩) | (go_at_call 14; (with_reducible refine (C4.out _).mono ?_); rintro e w1 ⟨rfl, rfl⟩) | (go_at_call 12; (with_reducible refine (highs_any _).mono ?_); rintro e w1 ⟨rfl, hb⟩; replace H := H.callee hb; clear hb))
    go_ret
    exact ⟨rfl, H.below⟩
theorem weightEven_walk (i : Int) (w : World) : Calls Try.prog 4 #[.int .i64 i] w fun e w' => e = .returned (.bool true) ∧ Below w.heap.size w w' :=
  weightEven_in i (i % 120) w (by omega) (by omega) (spot_any i 120 w (by omega) (by omega))
end Go.Proofs.Ytakacoiknapjiaa
