/-
  synth.Fold walked; the walk of FoldSwaps. No statement is proved here.
-/
import Derived.Test.YtakacoiknapjiaaSynth
import Derived.Test.YtakacoiknapjiaaLies
import Derived.Test.YtakacoiknapjiaaFilters
namespace Go.Proofs.Ytakacoiknapjiaa
open Go.RowKit
def FoldPost (a b : Nat → Int) (n : Nat) (w : World) (e : Ending) (w' : World) : Prop :=
  ∃ v tl, e = .returned (.tuple #[v, .int .i64 0]) ∧ Rowed 3 1 v n (fun i => .int .i64 (foldOut a b i)) tl ∧ Has w w' tl
theorem fold_term {a b : Nat → Int} {n : Nat} (ha : ∀ i, i < n → In16 (a i)) (hb : ∀ i, i < n → In16 (b i)) (x y : Nat) (hx : x < n) (hy : y < n) : -1073741824 ≤ a x * b y ∧ a x * b y ≤ 1073741824 := by
  have h1 := (ha x hx).bd
  have h2 := (hb y hy).bd
  exact mul_bd _ _ 32768 32768 (by omega) (by omega) (by omega) (by omega)
set_option maxHeartbeats 6400000 in
set_option maxRecDepth 100000 in
theorem Fold_any (a b : Nat → Int) (P P' : Option Addr) (n cap g o cap' g' o' : Nat) (w : World) (hn : n ≤ 80) (ha : ∀ i, i < n → In16 (a i)) (hb : ∀ i, i < n → In16 (b i)) (hR1 : Reads w P n g o a) (hR2 : Reads w P' n g' o' b) :
    Calls Try.prog 23 #[.slice P n cap, .slice P' n cap'] w (FoldPost a b n w) := by
  have H := Has.start w
  have HA := Lib.hid ha
  have HB := Lib.hid hb
  have HS : Hid (∀ k j, k < n → j ≤ k + 1 → -(j * 1073741824) ≤ sumTo j (fun i => a i * b (k - i)) ∧ sumTo j (fun i => a i * b (k - i)) ≤ j * 1073741824) := fun k j hk hj => sumTo_bd j fun i hi => fold_term ha hb _ _ (by omega) (by omega)
  clear ha hb
  have d1 := lt_no (show (n : Int) ≤ 80 by omega)
  have d2 : decide (80 < n) = false := by simp; omega
  go_enter Try.func23, Try.ntmps23
  go_wp2
  go_loopw [6, 22] (fun v c wr => ∃ (k : Nat) (tl : List (Nat × TypeId × Array Value)), k ≤ n ∧ c = .int .i64 k ∧ Hid (Rowed 3 1 v k (fun i => .int .i64 (foldOut a b i)) tl) ∧ Has w wr tl) (fun _ c _ => n - (intOf c).toNat)
  case atStart => exact ⟨0, [], by omega, rfl, Rowed.nil _ _ _, H⟩
  clear H d1 d2
  case round =>
    obtain ⟨k, tl, hk, rfl, RO, H⟩ := hrel
    replace RO := RO.out
    by_cases hlt : k < n
    · obtain rfl := hR1.ptr (by omega)
      obtain rfl := hR2.ptr (by omega)
      go_wp2
      go_loopw [8, 9] (fun s c wr2 => ∃ j : Nat, j ≤ k + 1 ∧ c = .int .i64 j ∧ s = .int .i64 (2048 + sumTo j (fun i => a i * b (k - i))) ∧ Has w wr2 tl) (fun _ c _ => k + 1 - (intOf c).toNat)
      case atStart => exact ⟨0, by omega, rfl, rfl, H⟩
      clear H
      case round =>
        obtain ⟨j, hj, rfl, rfl, H⟩ := hrel
        obtain ⟨b1, b2⟩ := HS.out k j hlt hj
        by_cases hjk : j ≤ k
        · obtain ⟨y, hy⟩ : ∃ y, y = k - j := ⟨_, rfl⟩
          have HN : Hid (sumTo (j + 1) (fun i => a i * b (k - i)) = sumTo j (fun i => a i * b (k - i)) + a j * b y) := by rw [hy]; exact rfl
          obtain ⟨t1, t2⟩ := fold_term HA.out HB.out j y (by omega) (by omega)
          have hjn : j < n := by omega
          have hyn : y < n := by omega
          have k0 : IntKind.i64.wrap ((k : Int) - (j : Int)) = (y : Int) := by rw [IntWalk.i64_in _ (by omega)]; omega
          have k1 : (0 : Int) ≤ (j : Int) := by omega
          have k2 : (j : Int) < (n : Int) := by omega
          have k3 : (0 : Int) ≤ (y : Int) := by omega
          have k4 : (y : Int) < (n : Int) := by omega
          have k5 : (j : Int) ≤ (k : Int) := by omega
          have k6 : IntKind.i64.wrap (a j * b y) = a j * b y := IntWalk.i64_in _ (by omega)
          have e1 : (a j != a j) = false := by simp
          have e2 : (b y != b y) = false := by simp
          have HY := Lib.hid hy
          clear hy
          generalize sumTo j (fun i => a i * b (k - i)) = S at *
          go_wp2_with fail
          refine wp_region_text [28] (by kernel_rfl) (by kernel_rfl) (by kernel_rfl) ?_; replace H := H.drew; generalize World.drew _ = u at *
          have R1 := Reads.has hR1 H
          have R2 := Reads.has hR2 H
          repeat (first | (refine ones_load_num R1 (o := ⟨_, .load 3 _, _, _, _, _⟩) 3 _ rfl rfl rfl rfl (by kernel_rfl) hjn ?_; simp only [Act.put, List.setIfInBounds_toArray, List.set_cons_zero, List.set_cons_succ]) | (refine ones_load_num R2 (o := ⟨_, .load 3 _, _, _, _, _⟩) 3 _ rfl rfl rfl rfl (by kernel_rfl) hyn ?_; simp only [Act.put, List.setIfInBounds_toArray, List.set_cons_zero, List.set_cons_succ]) | (refine' ones_call (o := ⟨_, .call _, _, _, _, _⟩) rfl rfl _ _; rotate_left; (unfold CallOf; go_simp; exact synthSat_in _ _ (HA.out _ hjn)); simp only [Act.put, List.setIfInBounds_toArray, List.set_cons_zero, List.set_cons_succ]) | (refine' ones_call (o := ⟨_, .call _, _, _, _, _⟩) rfl rfl _ _; rotate_left; (unfold CallOf; go_simp; exact synthSat_in _ _ (HB.out _ hyn)); simp only [Act.put, List.setIfInBounds_toArray, List.set_cons_zero, List.set_cons_succ]) | (refine ones_free (v := ?_) rfl rfl ?_ ?_; rotate_left; (intro w'; go_simp; try with_reducible rfl); simp only [Act.put, List.setIfInBounds_toArray, List.set_cons_zero, List.set_cons_succ]))
          refine ones_nil ?_
          clear R1 R2
          go_wp2_with fail
          refine wp_region_text [] (by kernel_rfl) (by kernel_rfl) (by kernel_rfl) ?_; replace H := H.drew; generalize World.drew _ = u at *
          have R1 := Reads.has hR1 H
          have R2 := Reads.has hR2 H
          repeat (first | (refine ones_load_num R1 (o := ⟨_, .load 3 _, _, _, _, _⟩) 3 _ rfl rfl rfl rfl (by kernel_rfl) hjn ?_; simp only [Act.put, List.setIfInBounds_toArray, List.set_cons_zero, List.set_cons_succ]) | (refine ones_load_num R2 (o := ⟨_, .load 3 _, _, _, _, _⟩) 3 _ rfl rfl rfl rfl (by kernel_rfl) hyn ?_; simp only [Act.put, List.setIfInBounds_toArray, List.set_cons_zero, List.set_cons_succ]) | (refine ones_free (v := ?_) rfl rfl ?_ ?_; rotate_left; (intro w'; go_simp; try with_reducible rfl); simp only [Act.put, List.setIfInBounds_toArray, List.set_cons_zero, List.set_cons_succ]))
          refine ones_nil ?_
          clear R1 R2
          go_wp2
          go_roundw
          case rel => exact ⟨j + 1, by omega, by go_num, by
            rw [HN.out]
            generalize a j * b y = q at *
            rw [IntWalk.i64_in (2048 + S + q) (by omega)]
            congr 1; omega, H⟩
          case measure => simp [intOf]; omega
        · obtain rfl : j = k + 1 := by omega
          have HF : Hid (foldOut a b k = sat16 ((2048 + sumTo (k + 1) (fun i => a i * b (k - i))) / 4096)) := rfl
          generalize sumTo (k + 1) (fun i => a i * b (k - i)) = S at *
          have HE : Hid (¬ ((k : Int) + 1 ≤ k)) := fun h => by omega
          have d3 : decide (((k + 1 : Nat) : Int) ≤ (k : Int)) = false := by simp; omega
          have d4 : decide (k + 1 ≤ k) = false := by simp
          go_wp2_with (first | (go_at_call 28; (with_reducible refine (synthSat_any _ _).mono ?_); rintro e w1 ⟨rfl, rfl⟩) | ((refine wpList_on (o := ⟨some 73, .buildSlice _ _ _, _, _, _, _⟩) rfl (fun K hK => ?_)); refine wp_made H (elem := 3) (n := 1) (cs := #[.int .i64 (sat16 ((2048 + S) / 4096))]) (by kernel_rfl) ?_; clear H; intro u gs H; refine hK _ _ ?_; clear hK K) | ((refine wpList_on (o := ⟨some 74, .call _, _, _, _, _⟩) rfl (fun K hK => ?_)); refine wp_append_has (bs := [_]) (e := 3) (s := 1) (B := 8) (m := 1) (nw := fun _ => .int .i64 (sat16 ((2048 + S) / 4096))) _ _ 25 rfl H RO rfl rfl ?_ ?_ ?_ ?_ ?_; (kernel_rfl); (refine From.block (e := 3) (B := 8) H ?_ (by repeat (first | exact List.mem_cons_self | apply List.mem_cons_of_mem | apply List.mem_append_right)) ?_ ?_; (kernel_rfl); (intro j hj; have e0 : j = 0 := (by omega); subst e0; rfl); (intro j hj; rfl)); (unfold maxLen; omega); (omega); (clear H RO; intro v' u tl' RO H; refine hK _ _ ?_; clear hK K; try simp only [Value.cells, List.cons_append, List.nil_append] at H)))
          go_roundw
          case rel => exact ⟨k + 1, tl', by omega, by go_num, RO.snoc HF.out, H.tail⟩
          case measure => simp [intOf]; omega
    · obtain rfl : k = n := by omega
      go_wp2
      go_ret2
      exact ⟨_, tl, rfl, RO, H⟩
theorem Fold_l {a b : Nat → Int} {n : Nat} {v v' : Value} {u : World} (hn : n ≤ 80) (ha : ∀ i, i < n → In16 (a i)) (hb : ∀ i, i < n → In16 (b i)) (L : Lies u v n a) (L' : Lies u v' n b) :
    Calls Try.prog 23 #[v, v'] u (FoldPost a b n u) := by
  obtain ⟨P, cap, g, o, rfl, R⟩ := L
  obtain ⟨P', cap', g', o', rfl, R'⟩ := L'
  exact Fold_any a b P P' n cap g o cap' g' o' u hn ha hb R R'
def min3 (x y z : Int) : Int := if z < (if y < x then y else x) then z else (if y < x then y else x)
theorem min3_run (P : Program) (x y z : Int) (ts : Array TypeId) (t : TypeId) (w : World) : (Builtin.min_ ts t #[.int .i64 x, .int .i64 y, .int .i64 z]).run P w = .ok (.int .i64 (min3 x y z)) w := by
  simp [Builtin.min_, Builtin.min2, List.foldlM, Sem.run_bind, Result.andThen, min3]
theorem fold_swap (a b : Nat → Int) (i : Nat) : foldOut a b i = foldOut b a i := by
  unfold foldOut
  rw [conv_swap]
set_option maxHeartbeats 6400000 in
set_option maxRecDepth 100000 in
theorem foldSwaps_in (a b : Nat → Int) (P P' : Option Addr) (n cap n' cap' M : Nat) (w : World) (hn : n ≤ 9223372036854775807) (hn' : n' ≤ 9223372036854775807) (hM0 : M ≤ 80) (hM1 : M ≤ n) (hM2 : M ≤ n') (hM3 : M = n ∨ M = n' ∨ M = 80)
    (ha : ∀ i, In16 (a i)) (hb : ∀ i, In16 (b i))
    (c1 : ∀ w' : World, Below w.heap.size w w' → Calls Try.prog 16 #[.slice P n cap, .int .i64 M] w' fun e w'' => ∃ g, e = .returned (.slice (some ⟨g, 0, none⟩) M M) ∧ Has w' w'' [(g, 3, row M a)])
    (c2 : ∀ w' : World, Below w.heap.size w w' → Calls Try.prog 16 #[.slice P' n' cap', .int .i64 M] w' fun e w'' => ∃ g, e = .returned (.slice (some ⟨g, 0, none⟩) M M) ∧ Has w' w'' [(g, 3, row M b)]) :
    Calls Try.prog 9 #[.slice P n cap, .slice P' n' cap'] w fun e w' => e = .returned (.bool true) ∧ Below w.heap.size w w' := by
  have H := Has.start w
  have C1 := Lib.hid c1
  have C2 := Lib.hid c2
  have HA := Lib.hid ha
  have HB := Lib.hid hb
  have em : min3 n n' 80 = (M : Int) := by unfold min3; (split <;> split <;> omega)
  have hmin : ∀ w : World, (Builtin.min_ #[3, 3, 3] 3 #[.int .i64 n, .int .i64 n', .int .i64 80]).run Try.prog w = .ok (.int .i64 M) w := fun w => by rw [min3_run, em]
  clear c1 c2 ha hb em hM1 hM2 hM3
  go_enter Try.func9, Try.ntmps9
  go_wp2_with (first | (go_at_call 16; (with_reducible refine (C1.out _ H.below).mono ?_); rintro e w1 ⟨ga, rfl, hb⟩; replace H := H.joinR hb; clear hb; (try simp only [List.cons_append, List.nil_append, List.append_assoc] at H)) | (go_at_call 16; (with_reducible refine (C2.out _ H.below).mono ?_); rintro e w1 ⟨gb, rfl, hb⟩; replace H := H.joinR hb; clear hb; (try simp only [List.cons_append, List.nil_append, List.append_assoc] at H)))
  refine (Fold_l hM0 (fun i _ => HA.out i) (fun i _ => HB.out i) (H.lies (by repeat (first | exact List.mem_cons_self | apply List.mem_cons_of_mem | apply List.mem_append_right)) (Nat.le_refl _)) (H.lies (by repeat (first | exact List.mem_cons_self | apply List.mem_cons_of_mem | apply List.mem_append_right)) (Nat.le_refl _))).mono ?_
  rintro e w1 ⟨v1, tl1, rfl, RO1, hb⟩; replace H := H.joinR hb; clear hb; (try simp only [List.cons_append, List.nil_append, List.append_assoc] at H)
  go_wp2_with fail
  refine (Fold_l hM0 (fun i _ => HB.out i) (fun i _ => HA.out i) (H.lies (by repeat (first | exact List.mem_cons_self | apply List.mem_cons_of_mem | apply List.mem_append_right)) (Nat.le_refl _)) (H.lies (by repeat (first | exact List.mem_cons_self | apply List.mem_cons_of_mem | apply List.mem_append_right)) (Nat.le_refl _))).mono ?_
  rintro e w1 ⟨v2, tl2, rfl, RO2, hb⟩; replace H := H.joinR hb; clear hb; (try simp only [List.cons_append, List.nil_append, List.append_assoc] at H)
  by_cases h0 : 0 < M
  · have HE : Hid (row (Int.toNat M) (fun j => if j = 0 then 4096 else 0) = row M oneAt) := row_congr fun i _ => rfl
    go_wp2_with (first | ((refine wpList_on (o := ⟨some 37, .makeSlice _ _ _, _, _, _, _⟩) rfl (fun K hK => ?_)); refine wp_make_has (t_ := 25) (e := 3) H _ _ rfl M .i64 .i64 rfl rfl ?_ ?_ ?_ ?_ ?_; (kernel_rfl); (kernel_rfl); (omega); (omega); (clear H; intro u gm H; refine hK _ _ ?_; clear hK K; try simp only [Value.cells, List.cons_append, List.nil_append] at H)) | ((refine wpList_on (o := ⟨_, .store 3 _ _, _, _, _, _⟩) rfl (fun K hK => ?_)); refine wp_store_row_ (l1 := []) H 3 _ _ rfl rfl rfl (by kernel_rfl) (by omega) ?_; clear H; intro u H; refine hK _ _ ?_; clear hK K; try simp only [Value.cells, List.cons_append, List.nil_append] at H))
    rw [HE.out] at H
    refine (Fold_l (b := oneAt) hM0 (fun i _ => HA.out i) (fun i _ => by unfold oneAt In16; split <;> omega) (H.lies (by repeat (first | exact List.mem_cons_self | apply List.mem_cons_of_mem | apply List.mem_append_right)) (Nat.le_refl _)) (H.lies (by repeat (first | exact List.mem_cons_self | apply List.mem_cons_of_mem | apply List.mem_append_right)) (Nat.le_refl _))).mono ?_
    rintro e w1 ⟨v3, tl3, rfl, RO3, hb⟩; replace H := H.joinR hb; clear hb; (try simp only [List.cons_append, List.nil_append, List.append_assoc] at H)
    go_wp2_with (go_at_call 20; (with_reducible refine (filters_any _).mono ?_); rintro e w1 ⟨rfl, hb⟩; replace H := H.callee hb; clear hb); refine (same_l (by omega) (RO1.lies H (by repeat (first | exact List.Sublist.refl _ | exact List.sublist_append_left _ _ | exact List.sublist_append_right _ _ | apply List.Sublist.cons | refine List.Sublist.trans ?_ (List.sublist_append_right _ _)))) ((RO2.lies H (by repeat (first | exact List.Sublist.refl _ | exact List.sublist_append_left _ _ | exact List.sublist_append_right _ _ | apply List.Sublist.cons | refine List.Sublist.trans ?_ (List.sublist_append_right _ _)))).congr fun i _ => fold_swap b a i)).mono ?_; rintro e w1 ⟨rfl, hb⟩; replace H := H.callee hb; clear hb; go_wp2_with fail; refine (same_l (by omega) ((RO3.lies H (by repeat (first | exact List.Sublist.refl _ | exact List.sublist_append_left _ _ | exact List.sublist_append_right _ _ | apply List.Sublist.cons | refine List.Sublist.trans ?_ (List.sublist_append_right _ _)))).congr fun i hi => fold_one (HA.out i)) (H.lies (by repeat (first | exact List.mem_cons_self | apply List.mem_cons_of_mem | apply List.mem_append_right)) (Nat.le_refl _))).mono ?_; rintro e w1 ⟨rfl, hb⟩; replace H := H.callee hb; clear hb; go_wp2_with fail; go_ret; exact ⟨rfl, H.below⟩
  · obtain rfl : M = 0 := by omega
    go_wp2_with ((refine wpList_on (o := ⟨some 37, .makeSlice _ _ _, _, _, _, _⟩) rfl (fun K hK => ?_)); refine wp_make_has (t_ := 25) (e := 3) H _ _ rfl 0 .i64 .i64 rfl rfl ?_ ?_ ?_ ?_ ?_; (kernel_rfl); (kernel_rfl); (omega); (omega); (clear H; intro u gm H; refine hK _ _ ?_; clear hK K; try simp only [Value.cells, List.cons_append, List.nil_append] at H))
    have HE : row (Int.toNat 0) (fun _ => 0) = row 0 oneAt := rfl
    rw [HE] at H
    refine (Fold_l (b := oneAt) hM0 (fun i _ => HA.out i) (fun i _ => by unfold oneAt In16; split <;> omega) (H.lies (by repeat (first | exact List.mem_cons_self | apply List.mem_cons_of_mem | apply List.mem_append_right)) (Nat.le_refl _)) (H.lies (by repeat (first | exact List.mem_cons_self | apply List.mem_cons_of_mem | apply List.mem_append_right)) (Nat.le_refl _))).mono ?_
    rintro e w1 ⟨v3, tl3, rfl, RO3, hb⟩; replace H := H.joinR hb; clear hb; (try simp only [List.cons_append, List.nil_append, List.append_assoc] at H)
    go_wp2_with (go_at_call 20; (with_reducible refine (filters_any _).mono ?_); rintro e w1 ⟨rfl, hb⟩; replace H := H.callee hb; clear hb); refine (same_l (by omega) (RO1.lies H (by repeat (first | exact List.Sublist.refl _ | exact List.sublist_append_left _ _ | exact List.sublist_append_right _ _ | apply List.Sublist.cons | refine List.Sublist.trans ?_ (List.sublist_append_right _ _)))) ((RO2.lies H (by repeat (first | exact List.Sublist.refl _ | exact List.sublist_append_left _ _ | exact List.sublist_append_right _ _ | apply List.Sublist.cons | refine List.Sublist.trans ?_ (List.sublist_append_right _ _)))).congr fun i _ => fold_swap b a i)).mono ?_; rintro e w1 ⟨rfl, hb⟩; replace H := H.callee hb; clear hb; go_wp2_with fail; refine (same_l (by omega) ((RO3.lies H (by repeat (first | exact List.Sublist.refl _ | exact List.sublist_append_left _ _ | exact List.sublist_append_right _ _ | apply List.Sublist.cons | refine List.Sublist.trans ?_ (List.sublist_append_right _ _)))).congr fun i hi => fold_one (HA.out i)) (H.lies (by repeat (first | exact List.mem_cons_self | apply List.mem_cons_of_mem | apply List.mem_append_right)) (Nat.le_refl _))).mono ?_; rintro e w1 ⟨rfl, hb⟩; replace H := H.callee hb; clear hb; go_wp2_with fail; go_ret; exact ⟨rfl, H.below⟩
theorem foldSwaps_walk (P : Option Addr) (n cap : Nat) (ad : Addr) (f : Nat → Int) (hn : n ≤ 9223372036854775807) {w : World} (hR : ReadsA w P n ad f) (P' : Option Addr) (n' cap' : Nat) (ad' : Addr) (f' : Nat → Int) (hn' : n' ≤ 9223372036854775807) (hR' : ReadsA w P' n' ad' f') :
    Calls Try.prog 9 #[.slice P n cap, .slice P' n' cap'] w fun e w' => e = .returned (.bool true) ∧ Below w.heap.size w w' :=
  foldSwaps_in (listF n f) (listF n' f') P P' n cap n' cap' (min n (min n' 80)) w hn hn' (by omega) (by omega) (by omega) (by omega) (fun i => listF_bd n f i) (fun i => listF_bd n' f' i)
    (fun w' hb => lists_any P n cap ad f (min n (min n' 80) : Nat) w' hn (by omega) (by omega) (hR.below hb)) (fun w' hb => lists_any P' n' cap' ad' f' (min n (min n' 80) : Nat) w' hn' (by omega) (by omega) (hR'.below hb))
end Go.Proofs.Ytakacoiknapjiaa
