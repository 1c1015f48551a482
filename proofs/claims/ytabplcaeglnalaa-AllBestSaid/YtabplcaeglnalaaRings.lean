/-
  rings, index walked. No statement is proved here.
-/
import Derived.Test.YtabplcaeglnalaaEnergy
namespace Go.Proofs.Ytabplcaeglnalaa
open Go.RowKit
def ringX (i : Nat) : Int := if i = 0 then 9 else 0
theorem ring_X : (#[.int .i64 9, .int .i64 0, .int .i64 0, .int .i64 0] : Array Value) = row 4 ringX := rfl
theorem ring_36 : buildS ringX 1 7 4 36 = 7 := by decide
theorem ring_1 : buildS ringX 1 7 4 1 = -7 := by decide
theorem Build_ex (w : World) : Calls Try.prog 9 #[.agg #[.int .i64 9, .int .i64 0, .int .i64 0, .int .i64 0], .int .i64 1, .int .i64 7] w (BuildPost ringX 1 7 w) := by
  rw [ring_X]
  exact Build_any ringX 1 7 w (fun i hi => by unfold ringX; split <;> omega) (by omega) (by omega) (by omega) (by omega)
set_option maxHeartbeats 1600000 in
theorem rings_any (w : World) : Calls Try.prog 10 #[] w fun e w' => e = .returned (.bool true) ∧ Below w.heap.size w w' := by
  have H := Has.start w
  have E1 := ring_36
  have E2 := ring_1
  go_enter Try.func10, Try.ntmps10
  go_wp2_with (first | (go_at_call 9; (with_reducible refine (Build_ex _).mono ?_); rintro e w1 ⟨g, rfl, hb⟩; replace H := H.join hb; clear hb; try simp only [Value.cells, List.cons_append, List.nil_append] at H) | ((refine wpList_on (o := ⟨_, .load 3 _, _, _, _, _⟩) rfl (fun K hK => ?_)); refine wp_load_one H 3 _ rfl rfl (by repeat (first | exact List.mem_cons_self | apply List.mem_cons_of_mem | apply List.mem_append_right)) (by kernel_rfl) (row_get _ (by omega)) ?_; refine hK _ _ ?_; clear hK K))
  go_ret
  exact ⟨rfl, H.below⟩
def indexI (x : Nat → Int) (i : Nat) : Int := x i % 10
theorem indexI_bd (x : Nat → Int) (i : Nat) : 0 ≤ indexI x i ∧ indexI x i ≤ 9 := by unfold indexI; omega
set_option maxHeartbeats 1600000 in
theorem index_any (x : Nat → Int) (w : World) :
    Calls Try.prog 7 #[.agg (row 4 x)] w fun e w' => e = .returned (.agg (row 4 (indexI x))) ∧ Below w.heap.size w w' := by
  have H := Has.start w
  go_enter Try.func7, Try.ntmps7
  go_wp2_with (first | ((refine wpList_on (o := ⟨_, .box _ (.tmp 0), _, _, _, _⟩) rfl (fun K hK => ?_)); refine wp_box H _ (.tmp 0) rfl (v := .agg _) rfl ?_; clear H; intro u gp H; refine hK _ _ ?_; clear hK K; try simp only [Value.cells, List.cons_append, List.nil_append] at H) | (refine wpList_on (o := ⟨some 2, .alloc 22, _, _, _, _⟩) rfl (fun K hK => ?_); refine wp_alloc H 22 rfl (z := (.agg (row 4 fun _ => 0))) (by kernel_rfl) ?_; clear H; intro u gr H; refine hK _ _ ?_; clear hK K; try simp only [Value.cells, List.cons_append, List.nil_append] at H))
  go_loopw [4] (fun c wr => ∃ k : Nat, k ≤ 4 ∧ c = .int .i64 k ∧ Has w wr [(gr, 22, row 4 fun _ => 0), (gp, 22, row 4 fun i => if i < k then indexI x i else x i)]) (fun c _ => 4 - (intOf c).toNat)
  case atStart => exact ⟨0, by omega, rfl, H⟩
  clear H
  case round =>
    obtain ⟨k, hk, rfl, H⟩ := hrel
    by_cases hlt : k < 4
    · have HE : Hid ((fun i => if i < k + 1 then indexI x i else x i) = fun j => if j = k then indexI x k else if j < k then indexI x j else x j) := by
        show (fun i => if i < k + 1 then indexI x i else x i) = _
        funext i
        by_cases e : i = k
        · subst e; simp
        · have : i < k + 1 ↔ i < k := by omega
          simp [e, this]
      have c1 : ∀ w : World, Calls Try.prog 8 #[.int .i64 (x k), .int .i64 10] w fun e w' => e = .returned (.int .i64 (indexI x k)) ∧ w = w' := fun w => spot_any _ _ w (by omega) (by omega)
      have C1 := Lib.hid c1
      have e0 : (if k < k then indexI x k else x k) = x k := by simp
      clear c1
      go_wp2_with (first | ((refine wpList_on (o := ⟨_, .load 3 _, _, _, _, _⟩) rfl (fun K hK => ?_)); refine wp_load_one H 3 _ rfl rfl (by repeat (first | exact List.mem_cons_self | apply List.mem_cons_of_mem | apply List.mem_append_right)) (by kernel_rfl) (row_get _ (by omega)) ?_; refine hK _ _ ?_; clear hK K) | (go_at_call 8; (with_reducible refine (C1.out _).mono ?_); rintro e w1 ⟨rfl, rfl⟩) | ((refine wpList_on (o := ⟨_, .store 3 _ _, _, _, _, _⟩) rfl (fun K hK => ?_)); refine wp_store_row_ (l1 := [_]) H 3 _ _ rfl rfl rfl (by kernel_rfl) (by omega) ?_; clear H; intro u H; refine hK _ _ ?_; clear hK K; try simp only [Value.cells, List.cons_append, List.nil_append] at H))
      go_roundw
      case rel => exact ⟨k + 1, by omega, by go_num, by rw [HE.out]; simpa using H⟩
      case measure => simp [intOf]; omega
    · obtain rfl : k = 4 := by omega
      have HE : Hid (row 4 (fun i => if i < 4 then indexI x i else x i) = row 4 (indexI x)) := row_congr fun i hi => if_pos hi
      go_wp2_with (first | ((refine wpList_on (o := ⟨_, .load 22 _, _, _, _, _⟩) rfl (fun K hK => ?_)); refine wp_load_all H 22 _ rfl rfl (by repeat (first | exact List.mem_cons_self | apply List.mem_cons_of_mem | apply List.mem_append_right)) (by kernel_rfl) ?_; refine hK _ _ ?_; clear hK K) | ((refine wpList_on (o := ⟨_, .store 22 _ _, _, _, _, _⟩) rfl (fun K hK => ?_)); refine wp_store_all (l1 := []) H 22 _ _ rfl rfl rfl (by kernel_rfl) (by simp [row_size]) (row_one _ _) ?_; clear H; intro u H; refine hK _ _ ?_; clear hK K; try simp only [Value.cells, List.cons_append, List.nil_append] at H))
      refine bodyPost_ret (results_one rfl _ H rfl (by repeat (first | exact List.mem_cons_self | apply List.mem_cons_of_mem | apply List.mem_append_right)) (by kernel_rfl)) rfl ⟨by rw [HE.out], H.below⟩
set_option maxHeartbeats 1600000 in
set_option maxRecDepth 100000 in
theorem energySwaps_in (r : Nat → Int) (P : Option Addr) (n cap a b : Nat) (x y : Int) (w : World) (hr : ∀ i, In16 (r i)) (ha : a < 40) (hb : b < 40)
    (c1 : ∀ w : World, Calls Try.prog 8 #[.int .i64 x, .int .i64 40] w fun e w' => e = .returned (.int .i64 a) ∧ w = w')
    (c2 : ∀ w : World, Calls Try.prog 8 #[.int .i64 y, .int .i64 40] w fun e w' => e = .returned (.int .i64 b) ∧ w = w')
    (c3 : ∀ w' : World, Below w.heap.size w w' → Calls Try.prog 11 #[.slice P n cap, .int .i64 40] w' fun e w'' => ∃ g, e = .returned (.slice (some ⟨g, 0, none⟩) 40 40) ∧ Has w' w'' [(g, 3, row 40 r)]) :
    Calls Try.prog 4 #[.slice P n cap, .int .i64 x, .int .i64 y] w fun e w' => e = .returned (.bool true) ∧ Below w.heap.size w w' := by
  have H := Has.start w
  have C1 := Lib.hid c1
  have C2 := Lib.hid c2
  have C3 := Lib.hid c3
  have HR := Lib.hid hr
  have HA := Lib.hid ha
  have HB := Lib.hid hb
  have c4 : ∀ (v : Value) (u : World), Lies u v 40 r → Calls Try.prog 12 #[v, .int .i64 a, .int .i64 b] u fun e w' => e = .returned (.tuple #[.int .i64 (energyS r a b), .int .i64 0]) ∧ Below u.heap.size u w' := fun v u L => Energy_l r a b (fun i _ => hr i) ha hb L
  have c5 : ∀ (v : Value) (u : World), Lies u v 40 r → Calls Try.prog 12 #[v, .int .i64 b, .int .i64 a] u fun e w' => e = .returned (.tuple #[.int .i64 (energyS r a b), .int .i64 0]) ∧ Below u.heap.size u w' := fun v u L => by
    rw [energy_swap]
    exact Energy_l r b a (fun i _ => hr i) hb ha L
  have c6 : ∀ (v : Value) (u : World), Lies u v 40 r → Calls Try.prog 12 #[v, .int .i64 a, .int .i64 a] u fun e w' => e = .returned (.tuple #[.int .i64 (energyS r a a), .int .i64 0]) ∧ Below u.heap.size u w' := fun v u L => Energy_l r a a (fun i _ => hr i) ha ha L
  have C4 := Lib.hid c4
  have C5 := Lib.hid c5
  have C6 := Lib.hid c6
  obtain ⟨e1, e2⟩ := energy_self r ha
  have d1 := le_yes e1
  have d2 := le_yes e2
  have t0 := en_term (fun i _ => hr i) 0 0 (by omega) (by omega)
  have s1 : IntKind.i64.wrap (r 0 * r 0) = r 0 * r 0 := IntWalk.i64_in _ (by omega)
  clear c1 c2 c3 c4 c5 c6 hr e1 e2 t0 ha hb
  generalize energyS r a a = E at *
  generalize energyS r a b = E2 at *
  go_enter Try.func4, Try.ntmps4
  go_wp2_with (first | (go_at_call 11; (with_reducible refine (C3.out _ H.below).mono ?_); rintro e w1 ⟨g, rfl, hb⟩; replace H := H.join hb; clear hb; try simp only [Value.cells, List.cons_append, List.nil_append] at H) | (go_at_call 8; (with_reducible refine (C1.out _).mono ?_); rintro e w1 ⟨rfl, rfl⟩) | (go_at_call 8; (with_reducible refine (C2.out _).mono ?_); rintro e w1 ⟨rfl, rfl⟩) | (go_at_call 12; (with_reducible refine (C4.out _ _ (H.lies (by repeat (first | exact List.mem_cons_self | apply List.mem_cons_of_mem | apply List.mem_append_right)) (Nat.le_refl _))).mono ?_); rintro e w1 ⟨rfl, hb⟩; replace H := H.callee hb; clear hb) | (go_at_call 12; (with_reducible refine (C5.out _ _ (H.lies (by repeat (first | exact List.mem_cons_self | apply List.mem_cons_of_mem | apply List.mem_append_right)) (Nat.le_refl _))).mono ?_); rintro e w1 ⟨rfl, hb⟩; replace H := H.callee hb; clear hb) | (go_at_call 12; (with_reducible refine (C6.out _ _ (H.lies (by repeat (first | exact List.mem_cons_self | apply List.mem_cons_of_mem | apply List.mem_append_right)) (Nat.le_refl _))).mono ?_); rintro e w1 ⟨rfl, hb⟩; replace H := H.callee hb; clear hb))
  refine wp_region_text [] (by kernel_rfl) (by kernel_rfl) (by kernel_rfl) ?_; replace H := H.drew; generalize World.drew _ = u at *
  repeat (first | (refine ones_eff (o := ⟨_, .call _, _, _, _, _⟩) rfl rfl (fun K hK => ?_); go_simp; (go_at_call 10; (with_reducible refine (rings_any _).mono ?_); rintro e w1 ⟨rfl, hb⟩; replace H := H.callee hb; clear hb); refine hK _ _ ?_; clear hK K; try simp only [Act.put, List.setIfInBounds_toArray, List.set_cons_zero, List.set_cons_succ]) | (refine ones_load_one (o := ⟨_, .load 3 _, _, _, _, _⟩) H 3 _ rfl rfl rfl rfl (by repeat (first | exact List.mem_cons_self | apply List.mem_cons_of_mem | apply List.mem_append_right)) (by kernel_rfl) (row_get _ (by omega)) ?_; simp only [Act.put, List.setIfInBounds_toArray, List.set_cons_zero, List.set_cons_succ]) | (refine ones_free (v := ?_) rfl rfl ?_ ?_; rotate_left; (intro w'; go_simp; try with_reducible rfl); simp only [Act.put, List.setIfInBounds_toArray, List.set_cons_zero, List.set_cons_succ]))
  refine ones_nil ?_
  go_wp2
  go_ret
  exact ⟨rfl, H.below⟩
theorem energySwaps_walk (P : Option Addr) (n cap : Nat) (ad : Addr) (f : Nat → Int) (hn : n ≤ 9223372036854775807) {w : World} (hR : ReadsA w P n ad f) (x y : Int) :
    Calls Try.prog 4 #[.slice P n cap, .int .i64 x, .int .i64 y] w fun e w' => e = .returned (.bool true) ∧ Below w.heap.size w w' :=
  energySwaps_in (listF n f) P n cap (x % 40).toNat (y % 40).toNat x y w (fun i => listF_bd n f i) (by omega) (by omega)
    (fun w => by have := spot_any x 40 w (by omega) (by omega); rwa [show ((x % 40).toNat : Int) = x % 40 by omega])
    (fun w => by have := spot_any y 40 w (by omega) (by omega); rwa [show ((y % 40).toNat : Int) = y % 40 by omega])
    (fun w' hb => lists_any P n cap ad f 40 w' hn (by omega) (by omega) (hR.below hb))
end Go.Proofs.Ytabplcaeglnalaa
