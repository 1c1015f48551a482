/-
  The walk of PulsesOwn. No statement is proved here.
-/
import Derived.Test.YtabplcaeglnalaaRings
namespace Go.Proofs.Ytabplcaeglnalaa
open Go.RowKit
/-- How many of the first samples are pulses. -/
def cntS (x : Nat → Int) (k : Nat) : Int := sumTo k (fun i => if x (i % 4) = (i / 4 : Nat) then 1 else 0)
theorem hit_step (a : Int) (n : Nat) : (if a < ((n + 1 : Nat) : Int) then (1 : Int) else 0) = (if a < (n : Int) then 1 else 0) + (if a = (n : Int) then 1 else 0) := by
  split <;> split <;> split <;> omega
theorem cnt_four (x : Nat → Int) (h0 : 0 ≤ x 0) (h1 : 0 ≤ x 1) (h2 : 0 ≤ x 2) (h3 : 0 ≤ x 3) : ∀ n : Nat, cntS x (4 * n) = (if x 0 < (n : Int) then 1 else 0) + (if x 1 < (n : Int) then 1 else 0) + (if x 2 < (n : Int) then 1 else 0) + (if x 3 < (n : Int) then 1 else 0)
  | 0 => by
    rw [if_neg (by simp; omega), if_neg (by simp; omega), if_neg (by simp; omega), if_neg (by simp; omega)]; rfl
  | n + 1 => by
    have ih := cnt_four x h0 h1 h2 h3 n
    have e : cntS x (4 * (n + 1)) = cntS x (4 * n) + (if x ((4 * n) % 4) = ((4 * n / 4 : Nat) : Int) then 1 else 0) + (if x ((4 * n + 1) % 4) = (((4 * n + 1) / 4 : Nat) : Int) then 1 else 0) + (if x ((4 * n + 2) % 4) = (((4 * n + 2) / 4 : Nat) : Int) then 1 else 0) + (if x ((4 * n + 3) % 4) = (((4 * n + 3) / 4 : Nat) : Int) then 1 else 0) := rfl
    rw [e, show (4 * n) % 4 = 0 by omega, show 4 * n / 4 = n by omega, show (4 * n + 1) % 4 = 1 by omega, show (4 * n + 1) / 4 = n by omega, show (4 * n + 2) % 4 = 2 by omega, show (4 * n + 2) / 4 = n by omega, show (4 * n + 3) % 4 = 3 by omega, show (4 * n + 3) / 4 = n by omega, ih,
      hit_step, hit_step, hit_step, hit_step]
    generalize (if x 0 < (n : Int) then (1 : Int) else 0) = a0
    generalize (if x 1 < (n : Int) then (1 : Int) else 0) = a1
    generalize (if x 2 < (n : Int) then (1 : Int) else 0) = a2
    generalize (if x 3 < (n : Int) then (1 : Int) else 0) = a3
    generalize (if x 0 = (n : Int) then (1 : Int) else 0) = b0
    generalize (if x 1 = (n : Int) then (1 : Int) else 0) = b1
    generalize (if x 2 = (n : Int) then (1 : Int) else 0) = b2
    generalize (if x 3 = (n : Int) then (1 : Int) else 0) = b3
    omega
theorem cnt_all (x : Nat → Int) (hx : ∀ i, i < 4 → 0 ≤ x i ∧ x i ≤ 9) : cntS x 40 = 4 := by
  have a0 := hx 0 (by omega)
  have a1 := hx 1 (by omega)
  have a2 := hx 2 (by omega)
  have a3 := hx 3 (by omega)
  have h := cnt_four x a0.1 a1.1 a2.1 a3.1 10
  rw [if_pos (by omega), if_pos (by omega), if_pos (by omega), if_pos (by omega)] at h
  exact h
theorem cnt_bd (x : Nat → Int) : ∀ k, 0 ≤ cntS x k ∧ cntS x k ≤ k
  | 0 => by simp [cntS, sumTo]
  | k + 1 => by
    have := cnt_bd x k
    have e : cntS x (k + 1) = cntS x k + (if x (k % 4) = (k / 4 : Nat) then 1 else 0) := rfl
    rw [e]
    split <;> omega
set_option maxHeartbeats 6400000 in
set_option maxRecDepth 100000 in
theorem pulsesOwn_in (x0 x : Nat → Int) (s0 z0 s z : Int) (w : World) (hx : ∀ i, i < 4 → 0 ≤ x i ∧ x i ≤ 9) (hs0 : 0 ≤ s) (hs : s ≤ 15) (hz0 : 1 ≤ z) (hz : z ≤ 32767)
    (c1 : ∀ w : World, Calls Try.prog 7 #[.agg (row 4 x0)] w fun e w' => e = .returned (.agg (row 4 x)) ∧ Below w.heap.size w w')
    (c2 : ∀ w : World, Calls Try.prog 8 #[.int .i64 s0, .int .i64 16] w fun e w' => e = .returned (.int .i64 s) ∧ w = w')
    (c3 : ∀ w : World, Calls Try.prog 8 #[.int .i64 z0, .int .i64 32767] w fun e w' => e = .returned (.int .i64 (z - 1)) ∧ w = w') :
    Calls Try.prog 3 #[.agg (row 4 x0), .int .i64 s0, .int .i64 z0] w fun e w' => e = .returned (.bool true) ∧ Below w.heap.size w w' := by
  have H := Has.start w
  have C1 := Lib.hid c1
  have C2 := Lib.hid c2
  have C3 := Lib.hid c3
  have HX := Lib.hid hx
  have ez : 1 + (z - 1) = z := by omega
  clear c1 c2 c3 hx
  go_enter Try.func3, Try.ntmps3
  go_wp2_with (first | ((refine wpList_on (o := ⟨_, .box _ (.tmp 0), _, _, _, _⟩) rfl (fun K hK => ?_)); refine wp_box H _ (.tmp 0) rfl (v := .agg _) rfl ?_; clear H; intro u gx H; refine hK _ _ ?_; clear hK K; try simp only [Value.cells, List.cons_append, List.nil_append] at H) | ((refine wpList_on (o := ⟨_, .load 22 _, _, _, _, _⟩) rfl (fun K hK => ?_)); refine wp_load_all H 22 _ rfl rfl (by repeat (first | exact List.mem_cons_self | apply List.mem_cons_of_mem | apply List.mem_append_right)) (by kernel_rfl) ?_; refine hK _ _ ?_; clear hK K) | (go_at_call 7; (with_reducible refine (C1.out _).mono ?_); rintro e w1 ⟨rfl, hb⟩; replace H := H.callee hb; clear hb) | (go_at_call 8; (with_reducible refine (C2.out _).mono ?_); rintro e w1 ⟨rfl, rfl⟩) | (go_at_call 8; (with_reducible refine (C3.out _).mono ?_); rintro e w1 ⟨rfl, rfl⟩) | ((refine wpList_on (o := ⟨_, .store 22 _ _, _, _, _, _⟩) rfl (fun K hK => ?_)); refine wp_store_all (l1 := []) H 22 _ _ rfl rfl rfl (by kernel_rfl) (by simp [row_size]) (row_one _ _) ?_; clear H; intro u H; refine hK _ _ ?_; clear hK K; try simp only [Value.cells, List.cons_append, List.nil_append] at H) | (go_at_call 9; (with_reducible refine (Build_any x s z _ HX.out (by omega) (by omega) (by omega) (by omega)).mono ?_); rintro e w1 ⟨g, rfl, hb⟩; replace H := H.join hb; clear hb; try simp only [Value.cells, List.cons_append, List.nil_append] at H) | (go_at_call 10; (with_reducible refine (rings_any _).mono ?_); rintro e w1 ⟨rfl, hb⟩; replace H := H.callee hb; clear hb))
  clear C1 C2 C3
  go_loopw [9, 10] (fun c i wr => ∃ k : Nat, k ≤ 40 ∧ i = .int .i64 k ∧ c = .int .i64 (cntS x k) ∧ Has w wr [(g, 3, row 40 (buildS x s z 4)), (gx, 22, row 4 x)]) (fun _ i _ => 40 - (intOf i).toNat)
  case atStart => exact ⟨0, by omega, rfl, rfl, H⟩
  clear H
  case round =>
    obtain ⟨k, hk, rfl, rfl, H⟩ := hrel
    obtain ⟨n1, n2⟩ := cnt_bd x k
    by_cases hlt : k < 40
    · have HN : Hid (cntS x (k + 1) = cntS x k + (if x (k % 4) = (k / 4 : Nat) then 1 else 0)) := rfl
      generalize cntS x k = N at *
      by_cases hit : x (k % 4) = ((k / 4 : Nat) : Int)
      · have HN2 : Hid (cntS x (k + 1) = N + 1) := HN.out.trans (by rw [if_pos hit])
        have t4 : k % 4 < 4 := by omega
        have e2 : x (k % 4) = (k : Int) / 4 := by rw [hit]; omega
        have s0 : IntKind.u64.wrap ((k : Int) % 4) = (k : Int) % 4 := by rw [IntKind.wrap_u64]; omega
        have s1 : ((k : Int) % 4).toNat = k % 4 := by omega
        have hq := Nat.div_le_self s.toNat (2 ^ (k % 4))
        have b1 := and_one (s.toNat / 2 ^ (k % 4)) (by omega)
        have b3 : s / 2 ^ (k % 4) = ((s.toNat / 2 ^ (k % 4) : Nat) : Int) := by
          rw [Int.natCast_ediv]
          simp [Int.toNat_of_nonneg hs0]
        by_cases hbit : s.toNat / 2 ^ (k % 4) % 2 = 1
        · have e1 : buildS x s z 4 k = z := by
            unfold buildS
            rw [if_pos ⟨t4, hit⟩, if_pos hbit]
          have d : (bits .and .i64 (s / 2 ^ (k % 4)) 1 == 1) = true := by rw [b3, b1, hbit]; rfl
          have d2 := lt_yes (show 0 < z by omega)
          clear hit HN hbit ez hq b1 b3
          go_wp2_with ((refine wpList_on (o := ⟨_, .load 3 _, _, _, _, _⟩) rfl (fun K hK => ?_)); refine wp_load_one H 3 _ rfl rfl (by repeat (first | exact List.mem_cons_self | apply List.mem_cons_of_mem | apply List.mem_append_right)) (by kernel_rfl) (row_get _ (by omega)) ?_; refine hK _ _ ?_; clear hK K)
          go_roundw
          case rel => exact ⟨k + 1, by omega, by go_num, by rw [HN2.out], H⟩
          case measure => simp [intOf]; omega
        · have e1 : buildS x s z 4 k = -z := by
            unfold buildS
            rw [if_pos ⟨t4, hit⟩, if_neg hbit]
          have hb2 : s.toNat / 2 ^ (k % 4) % 2 = 0 := by generalize s.toNat / 2 ^ (k % 4) = q at hbit; omega
          have d : (bits .and .i64 (s / 2 ^ (k % 4)) 1 == 1) = false := by rw [b3, b1, hb2]; rfl
          have d2 : (-z != z) = true := by simp; omega
          have d3 : decide (0 < -z) = false := by simp; omega
          have d4 : decide (z < 0) = false := by simp; omega
          clear hit HN hbit ez hq b1 b3 hb2
          go_wp2_with ((refine wpList_on (o := ⟨_, .load 3 _, _, _, _, _⟩) rfl (fun K hK => ?_)); refine wp_load_one H 3 _ rfl rfl (by repeat (first | exact List.mem_cons_self | apply List.mem_cons_of_mem | apply List.mem_append_right)) (by kernel_rfl) (row_get _ (by omega)) ?_; refine hK _ _ ?_; clear hK K)
          go_roundw
          case rel => exact ⟨k + 1, by omega, by go_num, by rw [HN2.out], H⟩
          case measure => simp [intOf]; omega
      · have HN2 : Hid (cntS x (k + 1) = N) := HN.out.trans (by rw [if_neg hit]; omega)
        have e1 : buildS x s z 4 k = 0 := by
          unfold buildS
          rw [if_neg (fun h => hit h.2)]
        clear hit HN
        go_wp2_with ((refine wpList_on (o := ⟨_, .load 3 _, _, _, _, _⟩) rfl (fun K hK => ?_)); refine wp_load_one H 3 _ rfl rfl (by repeat (first | exact List.mem_cons_self | apply List.mem_cons_of_mem | apply List.mem_append_right)) (by kernel_rfl) (row_get _ (by omega)) ?_; refine hK _ _ ?_; clear hK K)
        go_roundw
        case rel => exact ⟨k + 1, by omega, by go_num, by rw [HN2.out], H⟩
        case measure => simp [intOf]; omega
    · obtain rfl : k = 40 := by omega
      have e1 : cntS x 40 = 4 := cnt_all x HX.out
      go_wp2
      go_ret
      exact ⟨rfl, H.below⟩
theorem pulsesOwn_walk (x : Nat → Int) (s z : Int) (w : World) : Calls Try.prog 3 #[.agg (row 4 x), .int .i64 s, .int .i64 z] w fun e w' => e = .returned (.bool true) ∧ Below w.heap.size w w' :=
  pulsesOwn_in x (indexI x) s z (s % 16) (1 + z % 32767) w (fun i _ => indexI_bd x i) (by omega) (by omega) (by omega) (by omega) (fun w => index_any x w) (fun w => spot_any s 16 w (by omega) (by omega))
    (fun w => by have := spot_any z 32767 w (by omega) (by omega); rwa [show 1 + z % 32767 - 1 = z % 32767 by omega])
end Go.Proofs.Ytabplcaeglnalaa
