/-
  synth.Fold walked. No statement is proved here.
-/
import Derived.Test.YtcoicmbjoaonoaaSynthSat
import Derived.Test.YtcoicmbjoaonoaaLies
namespace Go.Proofs.Ytcoicmbjoaonoaa
open Go.RowKit
def FoldPost (a b : Nat → Int) (n : Nat) (w : World) (e : Ending) (w' : World) : Prop :=
  ∃ v tl, e = .returned (.tuple #[v, .int .i64 0]) ∧ Rowed 3 1 v n (fun i => .int .i64 (foldOut a b i)) tl ∧ Has w w' tl
theorem fold_term {a b : Nat → Int} {n : Nat} (ha : ∀ i, i < n → In16 (a i)) (hb : ∀ i, i < n → In16 (b i)) (x y : Nat) (hx : x < n) (hy : y < n) : -1073741824 ≤ a x * b y ∧ a x * b y ≤ 1073741824 := by
  have h1 := (ha x hx).bd
  have h2 := (hb y hy).bd
  exact mul_bd _ _ 32768 32768 (by omega) (by omega) (by omega) (by omega)
set_option maxHeartbeats 6400000 in
set_option maxRecDepth 100000 in
theorem Fold_any (a b : Nat → Int) (P P' : Option Addr) (n cap g o cap' g' o' : Nat) (w : World) (hn : n ≤ 80) (ha : ∀ i, i < n → In16 (a i)) (hb : ∀ i, i < n → In16 (b i)) (hR1 : Reads w P n g o a) (hR2 : Reads w P' n g' o' b) :
    Calls Try.prog 11 #[.slice P n cap, .slice P' n cap'] w (FoldPost a b n w) := by
  have H := Has.start w
  have HA := Lib.hid ha
  have HB := Lib.hid hb
  have HS : Hid (∀ k j, k < n → j ≤ k + 1 → -(j * 1073741824) ≤ sumTo j (fun i => a i * b (k - i)) ∧ sumTo j (fun i => a i * b (k - i)) ≤ j * 1073741824) := fun k j hk hj => sumTo_bd j fun i hi => fold_term ha hb _ _ (by omega) (by omega)
  clear ha hb
  have d1 := lt_no (show (n : Int) ≤ 80 by omega)
  have d2 : decide (80 < n) = false := by simp; omega
  go_enter Try.func11, Try.ntmps11
  go_wp2
  go_loopw [6, 22] (fun v c wr => ∃ (k : Nat) (tl : List (Nat × TypeId × Array Value)), k ≤ n ∧ c = .int .i64 k ∧ Hid (Rowed 3 1 v k (fun i => .int .i64 (foldOut a b i)) tl) ∧ Has w wr tl) (fun _ c _ => n - (intOf c).toNat)
  case atStart => exact ⟨0, [], by omega, rfl, Rowed.nil _ _ _, H⟩
  clear H d1 d2
  case round =>
    obtain ⟨k, tl, hk, rfl, RO, H⟩ := hrel
    replace RO := RO.out
    by_cases hlt : k < n
    · obtain rfl := hR1.ptr (by omega)
      obtain rfl := hR2.ptr (by omega)
      go_wp2
      go_loopw [8, 9] (fun s c wr2 => ∃ j : Nat, j ≤ k + 1 ∧ c = .int .i64 j ∧ s = .int .i64 (2048 + sumTo j (fun i => a i * b (k - i))) ∧ Has w wr2 tl) (fun _ c _ => k + 1 - (intOf c).toNat)
      case atStart => exact ⟨0, by omega, rfl, rfl, H⟩
      clear H
      case round =>
        obtain ⟨j, hj, rfl, rfl, H⟩ := hrel
        obtain ⟨b1, b2⟩ := HS.out k j hlt hj
        by_cases hjk : j ≤ k
        · obtain ⟨y, hy⟩ : ∃ y, y = k - j := ⟨_, rfl⟩
          have HN : Hid (sumTo (j + 1) (fun i => a i * b (k - i)) = sumTo j (fun i => a i * b (k - i)) + a j * b y) := by rw [hy]; exact rfl
          obtain ⟨t1, t2⟩ := fold_term HA.out HB.out j y (by omega) (by omega)
          have hjn : j < n := by omega
          have hyn : y < n := by omega
          have k0 : IntKind.i64.wrap ((k : Int) - (j : Int)) = (y : Int) := by rw [IntWalk.i64_in _ (by omega)]; omega
          have k1 : (0 : Int) ≤ (j : Int) := by omega
          have k2 : (j : Int) < (n : Int) := by omega
          have k3 : (0 : Int) ≤ (y : Int) := by omega
          have k4 : (y : Int) < (n : Int) := by omega
          have k5 : (j : Int) ≤ (k : Int) := by omega
          have k6 : IntKind.i64.wrap (a j * b y) = a j * b y := IntWalk.i64_in _ (by omega)
          have e1 : (a j != a j) = false := by simp
          have e2 : (b y != b y) = false := by simp
          have HY := Lib.hid hy
          clear hy
          generalize sumTo j (fun i => a i * b (k - i)) = S at *
          go_wp2_with fail
          refine wp_region_text [29] (by kernel_rfl) (by kernel_rfl) (by kernel_rfl) ?_; replace H := H.drew; generalize World.drew _ = u at *
          have R1 := Reads.has hR1 H
          have R2 := Reads.has hR2 H
          repeat (first | (refine ones_load_num R1 (o := ⟨_, .load 3 _, _, _, _, _⟩) 3 _ rfl rfl rfl rfl (by kernel_rfl) hjn ?_; simp only [Act.put, List.setIfInBounds_toArray, List.set_cons_zero, List.set_cons_succ]) | (refine ones_load_num R2 (o := ⟨_, .load 3 _, _, _, _, _⟩) 3 _ rfl rfl rfl rfl (by kernel_rfl) hyn ?_; simp only [Act.put, List.setIfInBounds_toArray, List.set_cons_zero, List.set_cons_succ]) | (refine' ones_call (o := ⟨_, .call _, _, _, _, _⟩) rfl rfl _ _; rotate_left; (unfold CallOf; go_simp; exact synthSat_in _ _ (HA.out _ hjn)); simp only [Act.put, List.setIfInBounds_toArray, List.set_cons_zero, List.set_cons_succ]) | (refine' ones_call (o := ⟨_, .call _, _, _, _, _⟩) rfl rfl _ _; rotate_left; (unfold CallOf; go_simp; exact synthSat_in _ _ (HB.out _ hyn)); simp only [Act.put, List.setIfInBounds_toArray, List.set_cons_zero, List.set_cons_succ]) | (refine ones_free (v := ?_) rfl rfl ?_ ?_; rotate_left; (intro w'; go_simp; try with_reducible rfl); simp only [Act.put, List.setIfInBounds_toArray, List.set_cons_zero, List.set_cons_succ]))
          refine ones_nil ?_
          clear R1 R2
          go_wp2_with fail
          refine wp_region_text [] (by kernel_rfl) (by kernel_rfl) (by kernel_rfl) ?_; replace H := H.drew; generalize World.drew _ = u at *
          have R1 := Reads.has hR1 H
          have R2 := Reads.has hR2 H
          repeat (first | (refine ones_load_num R1 (o := ⟨_, .load 3 _, _, _, _, _⟩) 3 _ rfl rfl rfl rfl (by kernel_rfl) hjn ?_; simp only [Act.put, List.setIfInBounds_toArray, List.set_cons_zero, List.set_cons_succ]) | (refine ones_load_num R2 (o := ⟨_, .load 3 _, _, _, _, _⟩) 3 _ rfl rfl rfl rfl (by kernel_rfl) hyn ?_; simp only [Act.put, List.setIfInBounds_toArray, List.set_cons_zero, List.set_cons_succ]) | (refine ones_free (v := ?_) rfl rfl ?_ ?_; rotate_left; (intro w'; go_simp; try with_reducible rfl); simp only [Act.put, List.setIfInBounds_toArray, List.set_cons_zero, List.set_cons_succ]))
          refine ones_nil ?_
          clear R1 R2
          go_wp2
          go_roundw
          case rel => exact ⟨j + 1, by omega, by go_num, by
            rw [HN.out]
            generalize a j * b y = q at *
            rw [IntWalk.i64_in (2048 + S + q) (by omega)]
            congr 1; omega, H⟩
          case measure => simp [intOf]; omega
        · obtain rfl : j = k + 1 := by omega
          have HF : Hid (foldOut a b k = sat16 ((2048 + sumTo (k + 1) (fun i => a i * b (k - i))) / 4096)) := rfl
          generalize sumTo (k + 1) (fun i => a i * b (k - i)) = S at *
          have HE : Hid (¬ ((k : Int) + 1 ≤ k)) := fun h => by omega
          have d3 : decide (((k + 1 : Nat) : Int) ≤ (k : Int)) = false := by simp; omega
          have d4 : decide (k + 1 ≤ k) = false := by simp
          go_wp2_with (first | (go_at_call 29; (with_reducible refine (synthSat_any _ _).mono ?_); rintro e w1 ⟨rfl, rfl⟩) | ((refine wpList_on (o := ⟨some 73, .buildSlice _ _ _, _, _, _, _⟩) rfl (fun K hK => ?_)); refine wp_made H (elem := 3) (n := 1) (cs := #[.int .i64 (sat16 ((2048 + S) / 4096))]) (by kernel_rfl) ?_; clear H; intro u gs H; refine hK _ _ ?_; clear hK K) | ((refine wpList_on (o := ⟨some 74, .call _, _, _, _, _⟩) rfl (fun K hK => ?_)); refine wp_append_has (bs := [_]) (e := 3) (s := 1) (B := 8) (m := 1) (nw := fun _ => .int .i64 (sat16 ((2048 + S) / 4096))) _ _ 24 rfl H RO rfl rfl ?_ ?_ ?_ ?_ ?_; (kernel_rfl); (refine From.block (e := 3) (B := 8) H ?_ (by repeat (first | exact List.mem_cons_self | apply List.mem_cons_of_mem | apply List.mem_append_right)) ?_ ?_; (kernel_rfl); (intro j hj; have e0 : j = 0 := (by omega); subst e0; rfl); (intro j hj; rfl)); (unfold maxLen; omega); (omega); (clear H RO; intro v' u tl' RO H; refine hK _ _ ?_; clear hK K; try simp only [Value.cells, List.cons_append, List.nil_append] at H)))
          go_roundw
          case rel => exact ⟨k + 1, tl', by omega, by go_num, RO.snoc HF.out, H.tail⟩
          case measure => simp [intOf]; omega
    · obtain rfl : k = n := by omega
      go_wp2
      go_ret2
      exact ⟨_, tl, rfl, RO, H⟩
theorem Fold_l {a b : Nat → Int} {n : Nat} {v v' : Value} {u : World} (hn : n ≤ 80) (ha : ∀ i, i < n → In16 (a i)) (hb : ∀ i, i < n → In16 (b i)) (L : Lies u v n a) (L' : Lies u v' n b) :
    Calls Try.prog 11 #[v, v'] u (FoldPost a b n u) := by
  obtain ⟨P, cap, g, o, rfl, R⟩ := L
  obtain ⟨P', cap', g', o', rfl, R'⟩ := L'
  exact Fold_any a b P P' n cap g o cap' g' o' u hn ha hb R R'
end Go.Proofs.Ytcoicmbjoaonoaa
