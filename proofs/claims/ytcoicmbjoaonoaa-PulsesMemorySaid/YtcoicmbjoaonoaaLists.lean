/-
  Small functions of the statements on lists: same, lists, s16. No statement is proved here.
-/
import Derived.Test.YtcoicmbjoaonoaaSlice
import Derived.Test.YtcoicmbjoaonoaaSpot
namespace Go.Proofs.Ytcoicmbjoaonoaa
open Go.RowKit
def s16I (v : Int) : Int := v % 65536 - 32768
theorem s16I_bd (v : Int) : -32768 ≤ s16I v ∧ s16I v ≤ 32767 := by unfold s16I; omega
theorem s16I_any (v : Int) (w : World) : Calls Try.prog 27 #[.int .i64 v] w fun e w' => e = .returned (.int .i64 (s16I v)) ∧ w = w' := by
  have h1 := Int.emod_nonneg v (show (65536 : Int) ≠ 0 by omega)
  have h2 := Int.emod_lt_of_pos v (show (0 : Int) < 65536 by omega)
  go_enter Try.func27, Try.ntmps27
  go_wp2_with (go_at_call 26; (with_reducible refine (spot_any _ _ _ (by omega) (by omega)).mono ?_); rintro e w1 ⟨rfl, rfl⟩)
  go_ret
  exact ⟨rfl, rfl⟩
set_option maxHeartbeats 1600000 in
theorem same_yes (P P' : Option Addr) (n cap b o cap' b' o' : Nat) (f : Nat → Int) (w : World) (hn : n ≤ 9223372036854775807) (hR1 : Reads w P n b o f) (hR2 : Reads w P' n b' o' f) :
    Calls Try.prog 38 #[.slice P n cap, .slice P' n cap'] w fun e w' => e = .returned (.bool true) ∧ Below w.heap.size w w' := by
  have H := Has.start w
  go_enter Try.func38, Try.ntmps38
  go_wp2
  go_loopw [5] (fun c wr => ∃ k : Nat, k ≤ n ∧ c = .int .i64 k ∧ Has w wr []) (fun c _ => n - (intOf c).toNat)
  case atStart => exact ⟨0, by omega, rfl, H⟩
  clear H
  case round =>
    obtain ⟨k, hk, rfl, H⟩ := hrel
    by_cases hlt : k < n
    · obtain rfl := hR1.ptr (by omega)
      obtain rfl := hR2.ptr (by omega)
      have s6 : (0 : Int) ≤ (k : Int) := by omega
      have s5 : (k : Int) < (n : Int) := by omega
      go_wp2_with fail
      refine wp_region_text [] (by kernel_rfl) (by kernel_rfl) (by kernel_rfl) ?_; replace H := H.drew; generalize World.drew _ = u at *
      have R1 := Reads.has hR1 H
      have R2 := Reads.has hR2 H
      repeat (first | (refine ones_load_num R1 (o := ⟨_, .load 3 _, _, _, _, _⟩) 3 _ rfl rfl rfl rfl (by kernel_rfl) hlt ?_; simp only [Act.put, List.setIfInBounds_toArray, List.set_cons_zero, List.set_cons_succ]) | (refine ones_load_num R2 (o := ⟨_, .load 3 _, _, _, _, _⟩) 3 _ rfl rfl rfl rfl (by kernel_rfl) hlt ?_; simp only [Act.put, List.setIfInBounds_toArray, List.set_cons_zero, List.set_cons_succ]) | (refine ones_free (v := ?_) rfl rfl ?_ ?_; rotate_left; (intro w'; go_simp; try with_reducible rfl); simp only [Act.put, List.setIfInBounds_toArray, List.set_cons_zero, List.set_cons_succ]))
      refine ones_nil ?_
      go_wp2
      go_roundw
      case rel => exact ⟨k + 1, by omega, by go_num, H⟩
      case measure => simp [intOf]; omega
    · go_wp2
      go_ret
      exact ⟨rfl, H.below⟩
/-- So many numbers of 16 bits. -/
def listF (n : Nat) (f : Nat → Int) (i : Nat) : Int := if i < n then s16I (f i) else 0
theorem listF_bd (n : Nat) (f : Nat → Int) (i : Nat) : -32768 ≤ listF n f i ∧ listF n f i ≤ 32767 := by
  unfold listF
  split
  · exact s16I_bd _
  · omega
def ListPost (n : Nat) (f : Nat → Int) (m : Int) (w : World) (e : Ending) (w' : World) : Prop := ∃ g, e = .returned (.slice (some ⟨g, 0, none⟩) m.toNat m.toNat) ∧ Has w w' [(g, 3, row m.toNat (listF n f))]
set_option maxHeartbeats 1600000 in
theorem lists_any (P : Option Addr) (n cap : Nat) (ad : Addr) (f : Nat → Int) (m : Int) (w : World) (hn : n ≤ 9223372036854775807) (hm0 : 0 ≤ m) (hm : m ≤ 100000) (hR : ReadsA w P n ad f) :
    Calls Try.prog 7 #[.slice P n cap, .int .i64 m] w (ListPost n f m w) := by
  have H := Has.start w
  go_enter Try.func7, Try.ntmps7
  go_wp2_with ((refine wpList_on (o := ⟨some 8, .makeSlice _ _ _, _, _, _, _⟩) rfl (fun K hK => ?_)); refine wp_make_has (t_ := 24) (e := 3) H _ _ rfl m .i64 .i64 rfl rfl ?_ ?_ ?_ ?_ ?_; (kernel_rfl); (kernel_rfl); (omega); (omega); (clear H; intro u g H; refine hK _ _ ?_; clear hK K; try simp only [Value.cells, List.cons_append, List.nil_append] at H))
  go_loopw [6] (fun c wr => ∃ k : Nat, (k : Int) ≤ m ∧ k ≤ n ∧ c = .int .i64 k ∧ Has w wr [(g, 3, row m.toNat fun i => if i < k then s16I (f i) else 0)]) (fun c _ => (m - intOf c).toNat)
  case atStart => exact ⟨0, by omega, by omega, rfl, by
    have e : (fun i : Nat => if i < 0 then s16I (f i) else 0) = fun _ => 0 := by funext i; simp
    rw [e]; exact H⟩
  clear H
  case round =>
    obtain ⟨k, hkm, hkn, rfl, H⟩ := hrel
    have R := ReadsA.has hR H
    by_cases h1 : (k : Int) < m
    · by_cases hlt : k < n
      · obtain rfl := R.ptr (by omega)
        have d1 := lt_yes h1
        have s7 : k < m.toNat := by omega
        have s8 : (k : Int) < (m.toNat : Int) := by omega
        have HE : Hid ((fun i => if i < k + 1 then s16I (f i) else 0) = fun j => if j = k then s16I (f k) else if j < k then s16I (f j) else 0) := by
          show (fun i => if i < k + 1 then s16I (f i) else 0) = _
          funext i
          by_cases e : i = k
          · subst e; simp
          · have : i < k + 1 ↔ i < k := by omega
            simp [e, this]
        go_wp2_with (first | ((refine wpList_on (o := ⟨_, .load 3 _, _, _, _, _⟩) rfl (fun K hK => ?_)); refine wp_load_numA R 3 _ rfl rfl (by kernel_rfl) hlt ?_; refine hK _ _ ?_; clear hK K) | (go_at_call 27; (with_reducible refine (s16I_any _ _).mono ?_); rintro e w1 ⟨rfl, rfl⟩) | ((refine wpList_on (o := ⟨_, .store 3 _ _, _, _, _, _⟩) rfl (fun K hK => ?_)); refine wp_store_row_ (l1 := []) H 3 _ _ rfl rfl rfl (by kernel_rfl) (by omega) ?_; clear H; intro u H; refine hK _ _ ?_; clear hK K; try simp only [Value.cells, List.cons_append, List.nil_append] at H))
        go_roundw
        case rel => exact ⟨k + 1, by omega, by omega, by go_num, by rw [HE.out]; exact H⟩
        case measure => simp [intOf]; omega
      · have d1 := lt_yes h1
        have d2 : decide (k < n) = false := by simp; omega
        have HE : Hid (row m.toNat (fun i => if i < k then s16I (f i) else 0) = row m.toNat (listF n f)) := row_congr fun i hi => by
          unfold listF
          rw [show k = n by omega]
        go_wp2
        go_ret
        exact ⟨g, rfl, by rw [← HE.out]; exact H⟩
    · have d1 := lt_no (show m ≤ (k : Int) by omega)
      have HE : Hid (row m.toNat (fun i => if i < k then s16I (f i) else 0) = row m.toNat (listF n f)) := row_congr fun i hi => by
        unfold listF
        rw [if_pos (by omega), if_pos (by omega)]
      go_wp2
      go_ret
      exact ⟨g, rfl, by rw [← HE.out]; exact H⟩
def pastI (p : Nat → Int) (i : Nat) : Int := s16I (p i)
set_option maxHeartbeats 1600000 in
theorem past_any (p : Nat → Int) (w : World) :
    Calls Try.prog 6 #[.agg (row 8 p)] w fun e w' => e = .returned (.agg (row 8 (pastI p))) ∧ Below w.heap.size w w' := by
  have H := Has.start w
  go_enter Try.func6, Try.ntmps6
  go_wp2_with (first | ((refine wpList_on (o := ⟨_, .box _ (.tmp 0), _, _, _, _⟩) rfl (fun K hK => ?_)); refine wp_box H _ (.tmp 0) rfl (v := .agg _) rfl ?_; clear H; intro u gp H; refine hK _ _ ?_; clear hK K; try simp only [Value.cells, List.cons_append, List.nil_append] at H) | (refine wpList_on (o := ⟨some 2, .alloc 23, _, _, _, _⟩) rfl (fun K hK => ?_); refine wp_alloc H 23 rfl (z := (.agg (row 8 fun _ => 0))) (by kernel_rfl) ?_; clear H; intro u gr H; refine hK _ _ ?_; clear hK K; try simp only [Value.cells, List.cons_append, List.nil_append] at H))
  go_loopw [4] (fun c wr => ∃ k : Nat, k ≤ 8 ∧ c = .int .i64 k ∧ Has w wr [(gr, 23, row 8 fun _ => 0), (gp, 23, row 8 fun i => if i < k then s16I (p i) else p i)]) (fun c _ => 8 - (intOf c).toNat)
  case atStart => exact ⟨0, by omega, rfl, H⟩
  clear H
  case round =>
    obtain ⟨k, hk, rfl, H⟩ := hrel
    by_cases hlt : k < 8
    · have HE : Hid ((fun i => if i < k + 1 then s16I (p i) else p i) = fun j => if j = k then s16I (p k) else if j < k then s16I (p j) else p j) := by
        show (fun i => if i < k + 1 then s16I (p i) else p i) = _
        funext i
        by_cases e : i = k
        · subst e; simp
        · have : i < k + 1 ↔ i < k := by omega
          simp [e, this]
      have e0 : (if k < k then s16I (p k) else p k) = p k := by simp
      go_wp2_with (first | ((refine wpList_on (o := ⟨_, .load 3 _, _, _, _, _⟩) rfl (fun K hK => ?_)); refine wp_load_one H 3 _ rfl rfl (by repeat (first | exact List.mem_cons_self | apply List.mem_cons_of_mem | apply List.mem_append_right)) (by kernel_rfl) (row_get _ (by omega)) ?_; refine hK _ _ ?_; clear hK K) | (go_at_call 27; (with_reducible refine (s16I_any _ _).mono ?_); rintro e w1 ⟨rfl, rfl⟩) | ((refine wpList_on (o := ⟨_, .store 3 _ _, _, _, _, _⟩) rfl (fun K hK => ?_)); refine wp_store_row_ (l1 := [_]) H 3 _ _ rfl rfl rfl (by kernel_rfl) (by omega) ?_; clear H; intro u H; refine hK _ _ ?_; clear hK K; try simp only [Value.cells, List.cons_append, List.nil_append] at H))
      go_roundw
      case rel => exact ⟨k + 1, by omega, by go_num, by rw [HE.out]; simpa using H⟩
      case measure => simp [intOf]; omega
    · obtain rfl : k = 8 := by omega
      have HE : Hid (row 8 (fun i => if i < 8 then s16I (p i) else p i) = row 8 (pastI p)) := row_congr fun i hi => if_pos hi
      go_wp2_with (first | ((refine wpList_on (o := ⟨_, .load 23 _, _, _, _, _⟩) rfl (fun K hK => ?_)); refine wp_load_all H 23 _ rfl rfl (by repeat (first | exact List.mem_cons_self | apply List.mem_cons_of_mem | apply List.mem_append_right)) (by kernel_rfl) ?_; refine hK _ _ ?_; clear hK K) | ((refine wpList_on (o := ⟨_, .store 23 _ _, _, _, _, _⟩) rfl (fun K hK => ?_)); refine wp_store_all (l1 := []) H 23 _ _ rfl rfl rfl (by kernel_rfl) (by simp [row_size]) (row_one _ _) ?_; clear H; intro u H; refine hK _ _ ?_; clear hK K; try simp only [Value.cells, List.cons_append, List.nil_append] at H))
      refine bodyPost_ret (results_one rfl _ H rfl (by repeat (first | exact List.mem_cons_self | apply List.mem_cons_of_mem | apply List.mem_append_right)) (by kernel_rfl)) rfl ⟨by rw [HE.out], H.below⟩
def predI (a : Nat → Int) (i : Nat) : Int := if i = 0 then 4096 else a i % 32768 - 16384
theorem predI_bd (a : Nat → Int) (i : Nat) (_ : i < 9) : -1048576 ≤ predI a i ∧ predI a i ≤ 1048576 := by unfold predI; split <;> omega
set_option maxHeartbeats 1600000 in
theorem predictor_any (a : Nat → Int) (w : World) :
    Calls Try.prog 5 #[.agg (row 9 a)] w fun e w' => e = .returned (.agg (row 9 (predI a))) ∧ Below w.heap.size w w' := by
  have H := Has.start w
  go_enter Try.func5, Try.ntmps5
  go_wp2_with (first | ((refine wpList_on (o := ⟨_, .box _ (.tmp 0), _, _, _, _⟩) rfl (fun K hK => ?_)); refine wp_box H _ (.tmp 0) rfl (v := .agg _) rfl ?_; clear H; intro u ga H; refine hK _ _ ?_; clear hK K; try simp only [Value.cells, List.cons_append, List.nil_append] at H) | (refine wpList_on (o := ⟨some 2, .alloc 22, _, _, _, _⟩) rfl (fun K hK => ?_); refine wp_alloc H 22 rfl (z := (.agg (row 9 fun _ => 0))) (by kernel_rfl) ?_; clear H; intro u gr H; refine hK _ _ ?_; clear hK K; try simp only [Value.cells, List.cons_append, List.nil_append] at H))
  go_loopw [4] (fun c wr => ∃ k : Nat, k ≤ 9 ∧ c = .int .i64 k ∧ Has w wr [(gr, 22, row 9 fun _ => 0), (ga, 22, row 9 fun i => if i < k then a i % 32768 - 16384 else a i)]) (fun c _ => 9 - (intOf c).toNat)
  case atStart => exact ⟨0, by omega, rfl, H⟩
  clear H
  case round =>
    obtain ⟨k, hk, rfl, H⟩ := hrel
    by_cases hlt : k < 9
    · have HE : Hid ((fun i => if i < k + 1 then a i % 32768 - 16384 else a i) = fun j => if j = k then a k % 32768 - 16384 else if j < k then a j % 32768 - 16384 else a j) := by
        show (fun i => if i < k + 1 then a i % 32768 - 16384 else a i) = _
        funext i
        by_cases e : i = k
        · subst e; simp
        · have : i < k + 1 ↔ i < k := by omega
          simp [e, this]
      have hb : 0 ≤ a k % 32768 ∧ a k % 32768 < 32768 := by omega
      obtain ⟨hb1, hb2⟩ := hb
      go_wp2_with (first | ((refine wpList_on (o := ⟨_, .load 3 _, _, _, _, _⟩) rfl (fun K hK => ?_)); refine wp_load_one H 3 _ rfl rfl (by repeat (first | exact List.mem_cons_self | apply List.mem_cons_of_mem | apply List.mem_append_right)) (by kernel_rfl) (row_get _ (by omega)) ?_; refine hK _ _ ?_; clear hK K) | (go_at_call 26; (with_reducible refine (spot_any _ _ _ (by omega) (by omega)).mono ?_); rintro e w1 ⟨rfl, rfl⟩) | ((refine wpList_on (o := ⟨_, .store 3 _ _, _, _, _, _⟩) rfl (fun K hK => ?_)); refine wp_store_row_ (l1 := [_]) H 3 _ _ rfl rfl rfl (by kernel_rfl) (by omega) ?_; clear H; intro u H; refine hK _ _ ?_; clear hK K; try simp only [Value.cells, List.cons_append, List.nil_append] at H))
      go_roundw
      case rel => exact ⟨k + 1, by omega, by go_num, by rw [HE.out]; simpa using H⟩
      case measure => simp [intOf]; omega
    · obtain rfl : k = 9 := by omega
      have HE : Hid (row 9 (fun j => if j = 0 then 4096 else if j < 9 then a j % 32768 - 16384 else a j) = row 9 (predI a)) := row_congr fun i hi => by unfold predI; simp [hi]
      go_wp2_with (first | ((refine wpList_on (o := ⟨_, .store 3 _ _, _, _, _, _⟩) rfl (fun K hK => ?_)); refine wp_store_row_ (l1 := [_]) H 3 _ _ rfl rfl rfl (by kernel_rfl) (by omega) ?_; clear H; intro u H; refine hK _ _ ?_; clear hK K; try simp only [Value.cells, List.cons_append, List.nil_append] at H) | ((refine wpList_on (o := ⟨_, .load 22 _, _, _, _, _⟩) rfl (fun K hK => ?_)); refine wp_load_all H 22 _ rfl rfl (by repeat (first | exact List.mem_cons_self | apply List.mem_cons_of_mem | apply List.mem_append_right)) (by kernel_rfl) ?_; refine hK _ _ ?_; clear hK K) | ((refine wpList_on (o := ⟨_, .store 22 _ _, _, _, _, _⟩) rfl (fun K hK => ?_)); refine wp_store_all (l1 := []) H 22 _ _ rfl rfl rfl (by kernel_rfl) (by simp [row_size]) (row_one _ _) ?_; clear H; intro u H; refine hK _ _ ?_; clear hK K; try simp only [Value.cells, List.cons_append, List.nil_append] at H))
      refine bodyPost_ret (results_one rfl _ H rfl (by repeat (first | exact List.mem_cons_self | apply List.mem_cons_of_mem | apply List.mem_append_right)) (by kernel_rfl)) rfl ⟨by rw [HE.out], H.below⟩
end Go.Proofs.Ytcoicmbjoaonoaa
