/-
  pulses.Target walked. No statement is proved here.
-/
import Derived.Test.YtcoicmbjoaonoaaEnergy
import Derived.Test.YtcoicmbjoaonoaaLies
namespace Go.Proofs.Ytcoicmbjoaonoaa
open Go.RowKit
def tgM (d r : Nat → Int) (n m : Nat) : Int := sumTo m (fun k => d (n + k) * r k)
def tgS (d r : Nat → Int) (n : Nat) : Int := tgM d r n (40 - n)
def tgP (d r : Nat → Int) (n m j : Nat) : Int := if j < n then tgS d r j else if j = n then tgM d r n m else 0
theorem tgM_bd {d r : Nat → Int} (hd : ∀ i, i < 40 → In16 (d i)) (hr : ∀ i, i < 40 → In16 (r i)) {n m : Nat} (h : n + m ≤ 40) : -(m * 1073741824) ≤ tgM d r n m ∧ tgM d r n m ≤ m * 1073741824 :=
  sumTo_bd m fun k hk => by
    have h1 := hd (n + k) (by omega)
    have h2 := hr k (by omega)
    unfold In16 at h1 h2
    exact mul_bd _ _ 32768 32768 (by omega) (by omega) (by omega) (by omega)
theorem tgS_bd {d r : Nat → Int} (hd : ∀ i, i < 40 → In16 (d i)) (hr : ∀ i, i < 40 → In16 (r i)) (n : Nat) (hn : n < 40) : -1099511627776 ≤ tgS d r n ∧ tgS d r n ≤ 1099511627776 := by
  have := tgM_bd hd hr (n := n) (m := 40 - n) (by omega)
  unfold tgS
  omega
theorem tgP_0 (d r : Nat → Int) : row 40 (fun _ => (0 : Int)) = row 40 (tgP d r 0 0) := row_congr fun j _ => by
  unfold tgP
  rw [if_neg (by omega)]
  split <;> rfl
theorem tgP_at (d r : Nat → Int) (n m : Nat) : tgP d r n m n = tgM d r n m := by unfold tgP; rw [if_neg (by omega), if_pos rfl]
theorem tgP_step (d r : Nat → Int) (n m : Nat) : (row 40 fun j => if j = n then tgM d r n m + d (n + m) * r m else tgP d r n m j) = row 40 (tgP d r n (m + 1)) := row_congr fun j _ => by
  unfold tgP
  by_cases e : j = n
  · rw [if_pos e, if_neg (by omega), if_pos e]; rfl
  · rw [if_neg e]
    by_cases h : j < n
    · rw [if_pos h, if_pos h]
    · rw [if_neg h, if_neg e, if_neg h, if_neg e]
theorem tgP_next (d r : Nat → Int) (n : Nat) : row 40 (tgP d r n (40 - n)) = row 40 (tgP d r (n + 1) 0) := row_congr fun j _ => by
  unfold tgP
  by_cases h : j < n
  · rw [if_pos h, if_pos (by omega)]
  · rw [if_neg h]
    by_cases e : j = n
    · rw [if_pos e, if_pos (by omega), e]; rfl
    · rw [if_neg e, if_neg (by omega)]
      split <;> rfl
theorem tgP_all (d r : Nat → Int) : row 40 (tgP d r 40 0) = row 40 (tgS d r) := row_congr fun j hj => by unfold tgP; rw [if_pos hj]
def TargetPost (d r : Nat → Int) (w : World) (e : Ending) (w' : World) : Prop := ∃ g, e = .returned (.tuple #[.slice (some ⟨g, 0, none⟩) 40 40, .int .i64 0]) ∧ Has w w' [(g, 3, row 40 (tgS d r))]
set_option maxHeartbeats 6400000 in
set_option maxRecDepth 400000 in
theorem Target_any (d r : Nat → Int) {v v' : Value} {w : World} (hd : ∀ i, i < 40 → In16 (d i)) (hr : ∀ i, i < 40 → In16 (r i)) (L : Lies w v 40 d) (L' : Lies w v' 40 r) :
    Calls Try.prog 18 #[v, v'] w (TargetPost d r w) := by
  obtain ⟨P, cap, b1, o1, rfl, R1⟩ := L
  obtain ⟨P', cap', b2, o2, rfl, R2⟩ := L'
  obtain rfl := R1.ptr (by omega)
  obtain rfl := R2.ptr (by omega)
  have H := Has.start w
  have HD := Lib.hid hd
  have HR := Lib.hid hr
  clear hd hr
  go_enter Try.func18, Try.ntmps18
  go_wp2_with ((refine wpList_on (o := ⟨some 17, .makeSlice _ _ _, _, _, _, _⟩) rfl (fun K hK => ?_)); refine wp_make_has (t_ := 24) (e := 3) H _ _ rfl 40 .i64 .i64 rfl rfl ?_ ?_ ?_ ?_ ?_; (kernel_rfl); (kernel_rfl); (omega); (omega); (clear H; intro u g H; refine hK _ _ ?_; clear hK K; try simp only [Value.cells, List.cons_append, List.nil_append] at H))
  simp only [show (40 : Int).toNat = 40 from rfl] at *
  rw [tgP_0 d r] at H
  go_loopw [20] (fun c wr => ∃ n : Nat, n ≤ 40 ∧ c = .int .i64 n ∧ Has w wr [(g, 3, row 40 (tgP d r n 0))]) (fun c _ => 40 - (intOf c).toNat)
  case atStart => exact ⟨0, by omega, rfl, H⟩
  clear H
  case round =>
    obtain ⟨n, hn, rfl, H⟩ := hrel
    by_cases hlt : n < 40
    · have q0 : (n : Int) < 40 := by omega
      go_wp2
      go_loopw [8] (fun c wr => ∃ i m : Nat, i = n + m ∧ i ≤ 40 ∧ c = .int .i64 i ∧ Has w wr [(g, 3, row 40 (tgP d r n m))]) (fun c _ => 40 - (intOf c).toNat)
      case atStart => exact ⟨n, 0, rfl, hn, rfl, H⟩
      clear H
      case round =>
        obtain ⟨i, m, him, hi, rfl, H⟩ := hrel
        by_cases hlt2 : i < 40
        · have q1 : (i : Int) < 40 := by omega
          have hm : m < 40 := by omega
          have q2 : (m : Int) < 40 := by omega
          have q3 : (0 : Int) ≤ (m : Int) := by omega
          have ei : IntKind.i64.wrap ((i : Int) - (n : Int)) = (m : Int) := by rw [IntKind.wrap_i64]; omega
          have em : IntKind.i64.wrap (m : Int) = (m : Int) := by rw [IntKind.wrap_i64]; omega
          have ei2 : (i : Int) - (n : Int) = (m : Int) := by omega
          obtain ⟨b1', b2'⟩ := tgM_bd HD.out HR.out (n := n) (m := m) (by omega)
          have hst := Lib.hid (tgP_step d r n m)
          have hat := Lib.hid (tgP_at d r n m)
          have ht := mul_bd (d i) (r m) 32768 32768 (by have := HD.out i hlt2; unfold In16 at this; omega) (by have := HD.out i hlt2; unfold In16 at this; omega) (by have := HR.out m hm; unfold In16 at this; omega) (by have := HR.out m hm; unfold In16 at this; omega)
          rw [← him] at hst
          obtain ⟨t1, t2⟩ := ht
          generalize tgM d r n m = S at *
          have s1 : IntKind.i64.wrap (d i * r m) = d i * r m := IntWalk.i64_in _ (by omega)
          have s2 : IntKind.i64.wrap (S + d i * r m) = S + d i * r m := IntWalk.i64_in _ (by generalize d i * r m = q at *; omega)
          clear t1 t2 b1' b2'
          replace him := Lib.hid him
          go_wp2_with fail
          refine wp_region_text [39] (by kernel_rfl) (by kernel_rfl) (by kernel_rfl) ?_; replace H := H.drew; generalize World.drew _ = u at *
          have K1 := Reads.has R1 H
          have K2 := Reads.has R2 H
          repeat (first | (refine ones_load_num K1 (o := ⟨_, .load 3 _, _, _, _, _⟩) 3 _ rfl rfl rfl rfl (by kernel_rfl) hlt2 ?_; simp only [Act.put, List.setIfInBounds_toArray, List.set_cons_zero, List.set_cons_succ]) | (refine ones_load_num K2 (o := ⟨_, .load 3 _, _, _, _, _⟩) 3 _ rfl rfl rfl rfl (by kernel_rfl) hm ?_; simp only [Act.put, List.setIfInBounds_toArray, List.set_cons_zero, List.set_cons_succ]) | (refine' ones_call (o := ⟨_, .call _, _, _, _, _⟩) rfl rfl _ _; rotate_left; (unfold CallOf; go_simp; exact pulsesSat_in _ _ (HD.out _ hlt2)); simp only [Act.put, List.setIfInBounds_toArray, List.set_cons_zero, List.set_cons_succ]) | (refine' ones_call (o := ⟨_, .call _, _, _, _, _⟩) rfl rfl _ _; rotate_left; (unfold CallOf; go_simp; exact pulsesSat_in _ _ (HR.out _ hm)); simp only [Act.put, List.setIfInBounds_toArray, List.set_cons_zero, List.set_cons_succ]) | (refine ones_free (v := ?_) rfl rfl ?_ ?_; rotate_left; (intro w'; go_simp; try with_reducible rfl); simp only [Act.put, List.setIfInBounds_toArray, List.set_cons_zero, List.set_cons_succ]))
          refine ones_nil ?_
          clear K1 K2
          go_wp2_with fail
          refine wp_region_text [] (by kernel_rfl) (by kernel_rfl) (by kernel_rfl) ?_; replace H := H.drew; generalize World.drew _ = u at *
          have K1 := Reads.has R1 H
          have K2 := Reads.has R2 H
          repeat (first | (refine ones_load_one (v := .int .i64 S) (o := ⟨_, .load 3 _, _, _, _, _⟩) H 3 _ rfl rfl rfl rfl (by repeat (first | exact List.mem_cons_self | apply List.mem_cons_of_mem | apply List.mem_append_right)) (by kernel_rfl) (by rw [row_get _ hlt, hat.out]) ?_; simp only [Act.put, List.setIfInBounds_toArray, List.set_cons_zero, List.set_cons_succ]) | (refine ones_load_num K1 (o := ⟨_, .load 3 _, _, _, _, _⟩) 3 _ rfl rfl rfl rfl (by kernel_rfl) hlt2 ?_; simp only [Act.put, List.setIfInBounds_toArray, List.set_cons_zero, List.set_cons_succ]) | (refine ones_load_num K2 (o := ⟨_, .load 3 _, _, _, _, _⟩) 3 _ rfl rfl rfl rfl (by kernel_rfl) hm ?_; simp only [Act.put, List.setIfInBounds_toArray, List.set_cons_zero, List.set_cons_succ]) | (refine ones_eff (o := ⟨_, .store 3 _ _, _, _, _, _⟩) rfl rfl (fun K hK => ?_); refine wp_store_row_ (l1 := []) H 3 _ _ rfl rfl rfl (by kernel_rfl) hlt ?_; clear H; intro u H; refine hK _ _ ?_; clear hK K; simp only [Act.put, List.setIfInBounds_toArray, List.set_cons_zero, List.set_cons_succ]; try simp only [Value.cells, List.cons_append, List.nil_append] at H) | (refine ones_free (v := ?_) rfl rfl ?_ ?_; rotate_left; (intro w'; go_simp; try with_reducible rfl); simp only [Act.put, List.setIfInBounds_toArray, List.set_cons_zero, List.set_cons_succ]))
          refine ones_nil ?_
          clear K1 K2
          go_wp2
          go_roundw
          case rel => exact ⟨i + 1, m + 1, by have := him.out; omega, by omega, by go_num, by rw [← hst.out]; exact H⟩
          case measure => simp [intOf]; omega
        · have dn : decide ((i : Int) < 40) = false := lt_no (by omega)
          have q1 : (40 : Int) ≤ (i : Int) := by omega
          obtain rfl : m = 40 - n := by omega
          replace him := Lib.hid him
          rw [tgP_next] at H
          go_wp2
          go_roundw
          case rel => exact ⟨n + 1, by omega, by go_num, H⟩
          case measure => simp [intOf]; omega
    · obtain rfl : n = 40 := by omega
      rw [tgP_all] at H
      go_wp2
      go_ret2
      exact ⟨g, rfl, H⟩
end Go.Proofs.Ytcoicmbjoaonoaa
