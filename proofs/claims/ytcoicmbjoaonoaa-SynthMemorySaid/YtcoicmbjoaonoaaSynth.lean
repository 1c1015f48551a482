/-
  synth: sat, good, guess, push, Make, Undo walked. No statement is proved here.
-/
import Derived.Test.YtcoicmbjoaonoaaSlice
import Derived.Test.YtcoicmbjoaonoaaSynthSat
namespace Go.Proofs.Ytcoicmbjoaonoaa
open Go.RowKit
set_option maxHeartbeats 1600000 in
theorem good_yes (a p f : Nat → Int) (P : Option Addr) (n cap b o : Nat) (w : World) (hn : n ≤ 9223372036854775807) (ha : (∀ i, i < 9 → -1048576 ≤ a i ∧ a i ≤ 1048576)) (hp : ∀ i, i < 8 → In16 (p i)) (hf : ∀ i, i < n → In16 (f i)) (h0 : a 0 = 4096) (hR : Reads w P n b o f) :
    Calls Try.prog 28 #[.agg (row 9 a), .agg (row 8 p), .slice P n cap] w fun e w' => e = .returned (.bool true) ∧ Below w.heap.size w w' := by
  have H := Has.start w
  have HA := Lib.hid ha
  have HP := Lib.hid hp
  have HF := Lib.hid hf
  have H0 := Lib.hid h0
  clear ha hp hf h0
  go_enter Try.func28, Try.ntmps28
  go_wp2_with (first | ((refine wpList_on (o := ⟨_, .box _ (.tmp 0), _, _, _, _⟩) rfl (fun K hK => ?_)); refine wp_box H _ (.tmp 0) rfl (v := .agg _) rfl ?_; clear H; intro u ga H; refine hK _ _ ?_; clear hK K; try simp only [Value.cells, List.cons_append, List.nil_append] at H) | ((refine wpList_on (o := ⟨_, .box _ (.tmp 1), _, _, _, _⟩) rfl (fun K hK => ?_)); refine wp_box H _ (.tmp 1) rfl (v := .agg _) rfl ?_; clear H; intro u gp H; refine hK _ _ ?_; clear hK K; try simp only [Value.cells, List.cons_append, List.nil_append] at H) | ((refine wpList_on (o := ⟨_, .load 22 _, _, _, _, _⟩) rfl (fun K hK => ?_)); refine wp_load_all H 22 _ rfl rfl (by repeat (first | exact List.mem_cons_self | apply List.mem_cons_of_mem | apply List.mem_append_right)) (by kernel_rfl) ?_; refine hK _ _ ?_; clear hK K))
  have R := Reads.has hR H
  go_loop [14] (fun c => ∃ j : Nat, j ≤ 9 ∧ c = .int .i64 j) (fun c => 9 - (intOf c).toNat)
  case atStart => exact ⟨0, by omega, rfl⟩
  case round =>
    obtain ⟨j, hj, rfl⟩ := hrel
    by_cases hlt : j < 9
    · have hix := fun w => run_index_row (P := Try.prog) (n := 9) (i := j) Try.underlying22 Try.underlying3 (by kernel_rfl) (by kernel_rfl) a hlt w
      have hb := HA.out j hlt
      have d1 := lt_no hb.1
      have d2 := lt_no hb.2
      clear hb
      go_wp2
      go_round
      case rel => exact ⟨j + 1, by omega, by go_num⟩
      case measure => simp [intOf]; omega
    · obtain rfl : j = 9 := by omega
      go_wp2_with ((refine wpList_on (o := ⟨_, .load 23 _, _, _, _, _⟩) rfl (fun K hK => ?_)); refine wp_load_all H 23 _ rfl rfl (by repeat (first | exact List.mem_cons_self | apply List.mem_cons_of_mem | apply List.mem_append_right)) (by kernel_rfl) ?_; refine hK _ _ ?_; clear hK K)
      go_loop [25] (fun c => ∃ j : Nat, j ≤ 8 ∧ c = .int .i64 j) (fun c => 8 - (intOf c).toNat)
      case atStart => exact ⟨0, by omega, rfl⟩
      case round =>
        obtain ⟨j, hj, rfl⟩ := hrel
        by_cases hlt : j < 8
        · have hix := fun w => run_index_row (P := Try.prog) (n := 8) (i := j) Try.underlying23 Try.underlying3 (by kernel_rfl) (by kernel_rfl) p hlt w
          have c1 := fun w => synthSat_in (p j) w (HP.out j hlt)
          have C1 := Lib.hid c1
          clear c1
          go_wp2_with (go_at_call 29; (with_reducible refine (C1.out _).mono ?_); rintro e w1 ⟨rfl, rfl⟩)
          go_round
          case rel => exact ⟨j + 1, by omega, by go_num⟩
          case measure => simp [intOf]; omega
        · obtain rfl : j = 8 := by omega
          go_wp2
          go_loop [35] (fun c => ∃ j : Nat, j ≤ n ∧ c = .int .i64 j) (fun c => n - (intOf c).toNat)
          case atStart => exact ⟨0, by omega, rfl⟩
          case round =>
            obtain ⟨j, hj, rfl⟩ := hrel
            by_cases hlt : j < n
            · obtain rfl := R.ptr (by omega)
              have c1 := fun w => synthSat_in (f j) w (HF.out j hlt)
              have C1 := Lib.hid c1
              clear c1
              go_wp2_with (first | ((refine wpList_on (o := ⟨_, .load 3 _, _, _, _, _⟩) rfl (fun K hK => ?_)); refine wp_load_num R 3 _ rfl rfl (by kernel_rfl) hlt ?_; refine hK _ _ ?_; clear hK K) | (go_at_call 29; (with_reducible refine (C1.out _).mono ?_); rintro e w1 ⟨rfl, rfl⟩))
              go_round
              case rel => exact ⟨j + 1, by omega, by go_num⟩
              case measure => simp [intOf]; omega
            · go_wp2_with ((refine wpList_on (o := ⟨_, .load 3 _, _, _, _, _⟩) rfl (fun K hK => ?_)); refine wp_load_one H 3 _ rfl rfl (by repeat (first | exact List.mem_cons_self | apply List.mem_cons_of_mem | apply List.mem_append_right)) (by kernel_rfl) (row_get _ (by omega)) ?_; refine hK _ _ ?_; clear hK K)
              go_ret
              exact ⟨by rw [H0.out]; rfl, H.below⟩
theorem term_bd {a p : Nat → Int} (ha : (∀ i, i < 9 → -1048576 ≤ a i ∧ a i ≤ 1048576)) (hp : ∀ i, i < 8 → In16 (p i)) (i : Nat) (hi : i < 8) : -34359738368 ≤ a (i + 1) * p i ∧ a (i + 1) * p i ≤ 34359738368 := by
  have h1 := ha (i + 1) (by omega)
  have h2 := (hp i hi).bd
  exact mul_bd _ _ 1048576 32768 h1.1 h1.2 (by omega) (by omega)
theorem guess_bd {a p : Nat → Int} (ha : (∀ i, i < 9 → -1048576 ≤ a i ∧ a i ≤ 1048576)) (hp : ∀ i, i < 8 → In16 (p i)) : -68719476736 ≤ guessS a p ∧ guessS a p ≤ 68719476736 := by
  have h := sumTo_bd (f := fun i => a (i + 1) * p i) (B := 34359738368) 8 (fun i hi => term_bd ha hp i hi)
  unfold guessS
  omega
set_option maxHeartbeats 1600000 in
theorem guess_any (a p : Nat → Int) (w : World) (ha : (∀ i, i < 9 → -1048576 ≤ a i ∧ a i ≤ 1048576)) (hp : ∀ i, i < 8 → In16 (p i)) :
    Calls Try.prog 30 #[.agg (row 9 a), .agg (row 8 p)] w fun e w' => e = .returned (.int .i64 (guessS a p)) ∧ Below w.heap.size w w' := by
  have H := Has.start w
  have HT : Hid (∀ i, i < 8 → -34359738368 ≤ a (i + 1) * p i ∧ a (i + 1) * p i ≤ 34359738368) := fun i hi => term_bd ha hp i hi
  have HS : Hid (∀ k : Nat, k ≤ 8 → -(k * 34359738368) ≤ sumTo k (fun i => a (i + 1) * p i) ∧ sumTo k (fun i => a (i + 1) * p i) ≤ k * 34359738368) := fun k hk => sumTo_bd k (fun i hi => term_bd ha hp i (by omega))
  clear ha hp
  go_enter Try.func30, Try.ntmps30
  go_wp2_with (first | ((refine wpList_on (o := ⟨_, .box _ (.tmp 0), _, _, _, _⟩) rfl (fun K hK => ?_)); refine wp_box H _ (.tmp 0) rfl (v := .agg _) rfl ?_; clear H; intro u ga H; refine hK _ _ ?_; clear hK K; try simp only [Value.cells, List.cons_append, List.nil_append] at H) | ((refine wpList_on (o := ⟨_, .box _ (.tmp 1), _, _, _, _⟩) rfl (fun K hK => ?_)); refine wp_box H _ (.tmp 1) rfl (v := .agg _) rfl ?_; clear H; intro u gp H; refine hK _ _ ?_; clear hK K; try simp only [Value.cells, List.cons_append, List.nil_append] at H) | ((refine wpList_on (o := ⟨_, .load 23 _, _, _, _, _⟩) rfl (fun K hK => ?_)); refine wp_load_all H 23 _ rfl rfl (by repeat (first | exact List.mem_cons_self | apply List.mem_cons_of_mem | apply List.mem_append_right)) (by kernel_rfl) ?_; refine hK _ _ ?_; clear hK K))
  go_loop [5, 9] (fun s c => ∃ j : Nat, j ≤ 8 ∧ c = .int .i64 j ∧ s = .int .i64 (2048 + sumTo j (fun i => a (i + 1) * p i))) (fun _ c => 8 - (intOf c).toNat)
  case atStart => exact ⟨0, by omega, rfl, rfl⟩
  case round =>
    obtain ⟨j, hj, rfl, rfl⟩ := hrel
    by_cases hlt : j < 8
    · have hix := fun w => run_index_row (P := Try.prog) (n := 8) (i := j) Try.underlying23 Try.underlying3 (by kernel_rfl) (by kernel_rfl) p hlt w
      obtain ⟨t1, t2⟩ := HT.out j hlt
      obtain ⟨b1, b2⟩ := HS.out j hj
      have HN : Hid (sumTo (j + 1) (fun i => a (i + 1) * p i) = sumTo j (fun i => a (i + 1) * p i) + a (j + 1) * p j) := rfl
      have s1 : IntKind.i64.wrap (a (j + 1) * p j) = a (j + 1) * p j := IntWalk.i64_in _ (by omega)
      have s2 : ((j : Int) + 1).toNat = j + 1 := by omega
      have s3 : (j : Int) + 1 < 9 := by omega
      generalize sumTo j (fun i => a (i + 1) * p i) = S at *
      go_wp2_with ((refine wpList_on (o := ⟨_, .load 3 _, _, _, _, _⟩) rfl (fun K hK => ?_)); refine wp_load_one H 3 _ rfl rfl (by repeat (first | exact List.mem_cons_self | apply List.mem_cons_of_mem | apply List.mem_append_right)) (by kernel_rfl) (row_get _ (by omega)) ?_; refine hK _ _ ?_; clear hK K)
      go_round
      case rel => exact ⟨j + 1, by omega, by go_num, by rw [HN.out]; go_num⟩
      case measure => simp [intOf]; omega
    · obtain rfl : j = 8 := by omega
      go_wp2
      go_ret
      exact ⟨rfl, H.below⟩
theorem pushS_row (p : Nat → Int) (x : Int) : row 8 (fun j => if j = 0 then x else if 1 ≤ j ∧ j < 1 + 7 then p (j - 1) else p j) = row 8 (pushS p x) := row_congr fun i hi => by
  unfold pushS
  by_cases h0 : i = 0
  · rw [if_pos h0, if_pos h0]
  · rw [if_neg h0, if_neg h0, if_pos (by omega)]
set_option maxHeartbeats 1600000 in
theorem push_any (p : Nat → Int) (x : Int) (w : World) :
    Calls Try.prog 31 #[.agg (row 8 p), .int .i64 x] w fun e w' => e = .returned (.agg (row 8 (pushS p x))) ∧ Below w.heap.size w w' := by
  have H := Has.start w
  go_enter Try.func31, Try.ntmps31
  go_wp2_with (first | ((refine wpList_on (o := ⟨_, .box _ (.tmp 0), _, _, _, _⟩) rfl (fun K hK => ?_)); refine wp_box H _ (.tmp 0) rfl (v := .agg _) rfl ?_; clear H; intro u gp H; refine hK _ _ ?_; clear hK K; try simp only [Value.cells, List.cons_append, List.nil_append] at H) | (refine wpList_on (o := ⟨some 4, .alloc 23, _, _, _, _⟩) rfl (fun K hK => ?_); refine wp_alloc H 23 rfl (z := (.agg (row 8 fun _ => 0))) (by kernel_rfl) ?_; clear H; intro u gr H; refine hK _ _ ?_; clear hK K; try simp only [Value.cells, List.cons_append, List.nil_append] at H))
  refine wp_region_ordB [] [(0, 0), (1, 0), (2, 4)] (fun w' => Has w w' []) [] [[0, 1, 2]] (by kernel_rfl) (by kernel_rfl) (by kernel_rfl) ?_; replace H := H.drew; generalize World.drew _ = u at *; simp only [List.forall_mem_cons, List.not_mem_nil, false_imp_iff, implies_true, and_true]; (repeat' refine And.intro ?_ ?_)
  simp only [Act.put, List.setIfInBounds_toArray, List.set_cons_zero, List.set_cons_succ]
  repeat (first | (refine sq_free (o := ⟨_, _, _, _, _, _⟩) (v := ?_) rfl rfl rfl ?_ ?_; rotate_left; (intro w'; go_simp; try with_reducible rfl); simp only [Act.put, List.setIfInBounds_toArray, List.set_cons_zero, List.set_cons_succ]) | (refine sq_eff (o := ⟨_, .call { callee := .builtin .copy, args := #[_, _], argTypes := #[24, 24] }, _, _, _, _⟩) rfl rfl rfl (fun K hK => ?_); refine wp_copy_has (l1 := [_]) H _ _ 24 24 3 rfl (m := 7) (nw := fun i => p i) rfl rfl (by kernel_rfl) rfl (fun j hj => by rw [Addr.add_mid, (H.at_ (by repeat (first | exact List.mem_cons_self | apply List.mem_cons_of_mem | apply List.mem_append_right))).cell, Nat.zero_add]; exact row_get p (by omega)) (by simp [row_size]) (row_patchL p _ (by omega)) ?_; clear H; intro u H; refine hK _ _ ?_; clear hK K; simp only [Act.put, List.setIfInBounds_toArray, List.set_cons_zero, List.set_cons_succ]; simp only [List.cons_append, List.nil_append] at H))
  refine sq_nil ?_
  go_wp2_with (first | ((refine wpList_on (o := ⟨_, .store 3 _ _, _, _, _, _⟩) rfl (fun K hK => ?_)); refine wp_store_row_ (l1 := [_]) H 3 _ _ rfl rfl rfl (by kernel_rfl) (by omega) ?_; clear H; intro u H; refine hK _ _ ?_; clear hK K; try simp only [Value.cells, List.cons_append, List.nil_append] at H) | ((refine wpList_on (o := ⟨_, .load 23 _, _, _, _, _⟩) rfl (fun K hK => ?_)); refine wp_load_all H 23 _ rfl rfl (by repeat (first | exact List.mem_cons_self | apply List.mem_cons_of_mem | apply List.mem_append_right)) (by kernel_rfl) ?_; refine hK _ _ ?_; clear hK K) | ((refine wpList_on (o := ⟨_, .store 23 _ _, _, _, _, _⟩) rfl (fun K hK => ?_)); refine wp_store_all (l1 := []) H 23 _ _ rfl rfl rfl (by kernel_rfl) (by simp [row_size]) (row_one _ _) ?_; clear H; intro u H; refine hK _ _ ?_; clear hK K; try simp only [Value.cells, List.cons_append, List.nil_append] at H))
  refine bodyPost_ret (results_one rfl _ H rfl (by repeat (first | exact List.mem_cons_self | apply List.mem_cons_of_mem | apply List.mem_append_right)) (by kernel_rfl)) rfl ⟨?_, H.below⟩
  rw [← pushS_row]
/-- What Make leaves. -/
def MkPost (a f p : Nat → Int) (n : Nat) (w : World) (e : Ending) (w' : World) : Prop :=
  ∃ v tl, e = .returned (.tuple #[v, .agg (row 8 (mk a f p n)), .int .i64 0]) ∧ Rowed 3 1 v n (fun i => .int .i64 (mkOut a f p i)) tl ∧ Has w w' tl
set_option maxHeartbeats 3200000 in
set_option maxRecDepth 100000 in
theorem Make_any (a p f : Nat → Int) (P : Option Addr) (n cap b o : Nat) (w : World) (hn : n ≤ 17592186044416) (ha : (∀ i, i < 9 → -1048576 ≤ a i ∧ a i ≤ 1048576)) (hp : ∀ i, i < 8 → In16 (p i)) (hf : ∀ i, i < n → In16 (f i)) (h0 : a 0 = 4096) (hR : Reads w P n b o f) :
    Calls Try.prog 9 #[.agg (row 9 a), .agg (row 8 p), .slice P n cap] w (MkPost a f p n w) := by
  have H := Has.start w
  have g1 := fun w' hb => good_yes a p f P n cap b o w' (by omega) ha hp hf h0 (hR.below hb)
  have g2 := fun k w' => guess_any a (mk a f p k) w' ha (mk_bd a f hp k)
  have G1 := Lib.hid g1
  have G2 := Lib.hid g2
  have HB : Hid (∀ k, -68719476736 ≤ guessS a (mk a f p k) ∧ guessS a (mk a f p k) ≤ 68719476736) := fun k => guess_bd ha (mk_bd a f hp k)
  have HF := Lib.hid hf
  clear g1 g2 ha hp hf h0
  go_enter Try.func9, Try.ntmps9
  go_wp2_with (first | ((refine wpList_on (o := ⟨_, .box _ (.tmp 0), _, _, _, _⟩) rfl (fun K hK => ?_)); refine wp_box H _ (.tmp 0) rfl (v := .agg _) rfl ?_; clear H; intro u ga H; refine hK _ _ ?_; clear hK K; try simp only [Value.cells, List.cons_append, List.nil_append] at H) | ((refine wpList_on (o := ⟨_, .box _ (.tmp 1), _, _, _, _⟩) rfl (fun K hK => ?_)); refine wp_box H _ (.tmp 1) rfl (v := .agg _) rfl ?_; clear H; intro u gp H; refine hK _ _ ?_; clear hK K; try simp only [Value.cells, List.cons_append, List.nil_append] at H) | (refine wpList_on (o := ⟨some 7, .alloc 23, _, _, _, _⟩) rfl (fun K hK => ?_); refine wp_alloc H 23 rfl (z := (.agg (row 8 fun _ => 0))) (by kernel_rfl) ?_; clear H; intro u gr H; refine hK _ _ ?_; clear hK K; try simp only [Value.cells, List.cons_append, List.nil_append] at H) | ((refine wpList_on (o := ⟨_, .load 22 _, _, _, _, _⟩) rfl (fun K hK => ?_)); refine wp_load_all H 22 _ rfl rfl (by repeat (first | exact List.mem_cons_self | apply List.mem_cons_of_mem | apply List.mem_append_right)) (by kernel_rfl) ?_; refine hK _ _ ?_; clear hK K) | ((refine wpList_on (o := ⟨_, .load 23 _, _, _, _, _⟩) rfl (fun K hK => ?_)); refine wp_load_all H 23 _ rfl rfl (by repeat (first | exact List.mem_cons_self | apply List.mem_cons_of_mem | apply List.mem_append_right)) (by kernel_rfl) ?_; refine hK _ _ ?_; clear hK K) | (go_at_call 28; (with_reducible refine (G1.out _ H.below).mono ?_); rintro e w1 ⟨rfl, hb⟩; replace H := H.callee hb; clear hb))
  clear G1
  go_loopw [9, 21] (fun v c wr => ∃ (k : Nat) (tl : List (Nat × TypeId × Array Value)), k ≤ n ∧ c = .int .i64 k ∧ Hid (Rowed 3 1 v k (fun i => .int .i64 (mkOut a f p i)) tl) ∧ Has w wr ((gr, 23, row 8 fun _ => 0) :: (gp, 23, row 8 (mk a f p k)) :: (ga, 22, row 9 a) :: tl)) (fun _ c _ => n - (intOf c).toNat)
  case atStart => exact ⟨0, [], by omega, rfl, Rowed.nil _ _ _, H⟩
  clear H
  case round =>
    obtain ⟨k, tl, hk, rfl, RO, H⟩ := hrel
    replace RO := RO.out
    have R := Reads.has hR H
    by_cases hlt : k < n
    · obtain rfl := R.ptr (by omega)
      obtain ⟨b1, b2⟩ := HB.out k
      obtain ⟨b3, b4⟩ := (HF.out k hlt).bd
      have HM : Hid (mk a f p (k + 1) = pushS (mk a f p k) (sat16 (f k - guessS a (mk a f p k)))) := rfl
      go_wp2_with (first | ((refine wpList_on (o := ⟨_, .load 3 _, _, _, _, _⟩) rfl (fun K hK => ?_)); refine wp_load_num R 3 _ rfl rfl (by kernel_rfl) hlt ?_; refine hK _ _ ?_; clear hK K) | ((refine wpList_on (o := ⟨_, .load 22 _, _, _, _, _⟩) rfl (fun K hK => ?_)); refine wp_load_all H 22 _ rfl rfl (by repeat (first | exact List.mem_cons_self | apply List.mem_cons_of_mem | apply List.mem_append_right)) (by kernel_rfl) ?_; refine hK _ _ ?_; clear hK K) | ((refine wpList_on (o := ⟨_, .load 23 _, _, _, _, _⟩) rfl (fun K hK => ?_)); refine wp_load_all H 23 _ rfl rfl (by repeat (first | exact List.mem_cons_self | apply List.mem_cons_of_mem | apply List.mem_append_right)) (by kernel_rfl) ?_; refine hK _ _ ?_; clear hK K) | (go_at_call 30; (with_reducible refine (G2.out k _).mono ?_); rintro e w1 ⟨rfl, hb⟩; replace H := H.callee hb; clear hb) | (go_at_call 29; (with_reducible refine (synthSat_any _ _).mono ?_); rintro e w1 ⟨rfl, rfl⟩) | (go_at_call 31; (with_reducible refine (push_any _ _ _).mono ?_); rintro e w1 ⟨rfl, hb⟩; replace H := H.callee hb; clear hb) | ((refine wpList_on (o := ⟨_, .store 23 _ _, _, _, _, _⟩) rfl (fun K hK => ?_)); refine wp_store_all (l1 := [_]) H 23 _ _ rfl rfl rfl (by kernel_rfl) (by simp [row_size]) (row_one _ _) ?_; clear H; intro u H; refine hK _ _ ?_; clear hK K; try simp only [Value.cells, List.cons_append, List.nil_append] at H) | ((refine wpList_on (o := ⟨some 36, .buildSlice _ _ _, _, _, _, _⟩) rfl (fun K hK => ?_)); refine wp_made H (elem := 3) (n := 1) (cs := #[.int .i64 (sat16 (f k - guessS a (mk a f p k)))]) (by kernel_rfl) ?_; clear H; intro u gs H; refine hK _ _ ?_; clear hK K) | ((refine wpList_on (o := ⟨some 37, .call _, _, _, _, _⟩) rfl (fun K hK => ?_)); refine wp_append_has (bs := [_, _, _, _]) (e := 3) (s := 1) (B := 8) (m := 1) (nw := fun _ => .int .i64 (sat16 (f k - guessS a (mk a f p k)))) _ _ 24 rfl H RO rfl rfl ?_ ?_ ?_ ?_ ?_; (kernel_rfl); (refine From.block (e := 3) (B := 8) H ?_ (by repeat (first | exact List.mem_cons_self | apply List.mem_cons_of_mem | apply List.mem_append_right)) ?_ ?_; (kernel_rfl); (intro j hj; have e0 : j = 0 := (by omega); subst e0; rfl); (intro j hj; rfl)); (unfold maxLen; omega); (omega); (clear H RO; intro v' u tl' RO H; refine hK _ _ ?_; clear hK K; try simp only [Value.cells, List.cons_append, List.nil_append] at H)))
      go_roundw
      case rel =>
        refine ⟨k + 1, tl', by omega, by go_num, RO.snoc rfl, ?_⟩
        rw [HM.out]; exact H.tail
      case measure => simp [intOf]; omega
    · obtain rfl : k = n := by omega
      go_wp2
      refine wp_region_text [] (by kernel_rfl) (by kernel_rfl) (by kernel_rfl) ?_; replace H := H.drew; generalize World.drew _ = u at *
      repeat (first | (refine ones_load_all (o := ⟨_, .load 23 _, _, _, _, _⟩) H 23 _ rfl rfl rfl rfl (by repeat (first | exact List.mem_cons_self | apply List.mem_cons_of_mem | apply List.mem_append_right)) (by kernel_rfl) ?_; simp only [Act.put, List.setIfInBounds_toArray, List.set_cons_zero, List.set_cons_succ]) | (refine ones_eff (o := ⟨_, .store 23 _ _, _, _, _, _⟩) rfl rfl (fun K hK => ?_); refine wp_store_all (l1 := []) H 23 _ _ rfl rfl rfl (by kernel_rfl) (by simp [row_size]) (row_one _ _) ?_; clear H; intro u H; refine hK _ _ ?_; clear hK K; simp only [Act.put, List.setIfInBounds_toArray, List.set_cons_zero, List.set_cons_succ]; try simp only [Value.cells, List.cons_append, List.nil_append] at H) | (refine ones_free (v := ?_) rfl rfl ?_ ?_; rotate_left; (intro w'; go_simp; try with_reducible rfl); simp only [Act.put, List.setIfInBounds_toArray, List.set_cons_zero, List.set_cons_succ]))
      refine ones_nil ?_
      go_wp2
      refine bodyPost_ret (results_tct rfl _ H rfl (by repeat (first | exact List.mem_cons_self | apply List.mem_cons_of_mem | apply List.mem_append_right)) (by kernel_rfl)) rfl ⟨_, tl, rfl, RO, H.tail.tail.tail⟩
/-- What Undo leaves. -/
def UdPost (a f p : Nat → Int) (n : Nat) (w : World) (e : Ending) (w' : World) : Prop :=
  ∃ v tl, e = .returned (.tuple #[v, .agg (row 8 (ud f p n)), .int .i64 0]) ∧ Rowed 3 1 v n (fun i => .int .i64 (udOut a f p i)) tl ∧ Has w w' tl
set_option maxHeartbeats 3200000 in
set_option maxRecDepth 100000 in
theorem Undo_any (a p f : Nat → Int) (P : Option Addr) (n cap b o : Nat) (w : World) (hn : n ≤ 17592186044416) (ha : (∀ i, i < 9 → -1048576 ≤ a i ∧ a i ≤ 1048576)) (hp : ∀ i, i < 8 → In16 (p i)) (hf : ∀ i, i < n → In16 (f i)) (h0 : a 0 = 4096) (hR : Reads w P n b o f) :
    Calls Try.prog 10 #[.agg (row 9 a), .agg (row 8 p), .slice P n cap] w (UdPost a f p n w) := by
  have H := Has.start w
  have g1 := fun w' hb => good_yes a p f P n cap b o w' (by omega) ha hp hf h0 (hR.below hb)
  have g2 := fun k hk w' => guess_any a (ud f p k) w' ha (ud_bd hp hf k hk)
  have G1 := Lib.hid g1
  have G2 := Lib.hid g2
  have HB : Hid (∀ k, k ≤ n → -68719476736 ≤ guessS a (ud f p k) ∧ guessS a (ud f p k) ≤ 68719476736) := fun k hk => guess_bd ha (ud_bd hp hf k hk)
  have HF := Lib.hid hf
  clear g1 g2 ha hp hf h0
  go_enter Try.func10, Try.ntmps10
  go_wp2_with (first | ((refine wpList_on (o := ⟨_, .box _ (.tmp 0), _, _, _, _⟩) rfl (fun K hK => ?_)); refine wp_box H _ (.tmp 0) rfl (v := .agg _) rfl ?_; clear H; intro u ga H; refine hK _ _ ?_; clear hK K; try simp only [Value.cells, List.cons_append, List.nil_append] at H) | ((refine wpList_on (o := ⟨_, .box _ (.tmp 1), _, _, _, _⟩) rfl (fun K hK => ?_)); refine wp_box H _ (.tmp 1) rfl (v := .agg _) rfl ?_; clear H; intro u gp H; refine hK _ _ ?_; clear hK K; try simp only [Value.cells, List.cons_append, List.nil_append] at H) | (refine wpList_on (o := ⟨some 7, .alloc 23, _, _, _, _⟩) rfl (fun K hK => ?_); refine wp_alloc H 23 rfl (z := (.agg (row 8 fun _ => 0))) (by kernel_rfl) ?_; clear H; intro u gr H; refine hK _ _ ?_; clear hK K; try simp only [Value.cells, List.cons_append, List.nil_append] at H) | ((refine wpList_on (o := ⟨_, .load 22 _, _, _, _, _⟩) rfl (fun K hK => ?_)); refine wp_load_all H 22 _ rfl rfl (by repeat (first | exact List.mem_cons_self | apply List.mem_cons_of_mem | apply List.mem_append_right)) (by kernel_rfl) ?_; refine hK _ _ ?_; clear hK K) | ((refine wpList_on (o := ⟨_, .load 23 _, _, _, _, _⟩) rfl (fun K hK => ?_)); refine wp_load_all H 23 _ rfl rfl (by repeat (first | exact List.mem_cons_self | apply List.mem_cons_of_mem | apply List.mem_append_right)) (by kernel_rfl) ?_; refine hK _ _ ?_; clear hK K) | (go_at_call 28; (with_reducible refine (G1.out _ H.below).mono ?_); rintro e w1 ⟨rfl, hb⟩; replace H := H.callee hb; clear hb))
  clear G1
  go_loopw [9, 20] (fun v c wr => ∃ (k : Nat) (tl : List (Nat × TypeId × Array Value)), k ≤ n ∧ c = .int .i64 k ∧ Hid (Rowed 3 1 v k (fun i => .int .i64 (udOut a f p i)) tl) ∧ Has w wr ((gr, 23, row 8 fun _ => 0) :: (gp, 23, row 8 (ud f p k)) :: (ga, 22, row 9 a) :: tl)) (fun _ c _ => n - (intOf c).toNat)
  case atStart => exact ⟨0, [], by omega, rfl, Rowed.nil _ _ _, H⟩
  clear H
  case round =>
    obtain ⟨k, tl, hk, rfl, RO, H⟩ := hrel
    replace RO := RO.out
    have R := Reads.has hR H
    by_cases hlt : k < n
    · obtain rfl := R.ptr (by omega)
      obtain ⟨b1, b2⟩ := HB.out k hk
      obtain ⟨b3, b4⟩ := (HF.out k hlt).bd
      have HM : Hid (ud f p (k + 1) = pushS (ud f p k) (f k)) := rfl
      go_wp2_with (first | ((refine wpList_on (o := ⟨_, .load 3 _, _, _, _, _⟩) rfl (fun K hK => ?_)); refine wp_load_num R 3 _ rfl rfl (by kernel_rfl) hlt ?_; refine hK _ _ ?_; clear hK K) | ((refine wpList_on (o := ⟨_, .load 22 _, _, _, _, _⟩) rfl (fun K hK => ?_)); refine wp_load_all H 22 _ rfl rfl (by repeat (first | exact List.mem_cons_self | apply List.mem_cons_of_mem | apply List.mem_append_right)) (by kernel_rfl) ?_; refine hK _ _ ?_; clear hK K) | ((refine wpList_on (o := ⟨_, .load 23 _, _, _, _, _⟩) rfl (fun K hK => ?_)); refine wp_load_all H 23 _ rfl rfl (by repeat (first | exact List.mem_cons_self | apply List.mem_cons_of_mem | apply List.mem_append_right)) (by kernel_rfl) ?_; refine hK _ _ ?_; clear hK K) | (go_at_call 30; (with_reducible refine (G2.out k hk _).mono ?_); rintro e w1 ⟨rfl, hb⟩; replace H := H.callee hb; clear hb) | (go_at_call 29; (with_reducible refine (synthSat_any _ _).mono ?_); rintro e w1 ⟨rfl, rfl⟩) | (go_at_call 31; (with_reducible refine (push_any _ _ _).mono ?_); rintro e w1 ⟨rfl, hb⟩; replace H := H.callee hb; clear hb) | ((refine wpList_on (o := ⟨_, .store 23 _ _, _, _, _, _⟩) rfl (fun K hK => ?_)); refine wp_store_all (l1 := [_, _]) H 23 _ _ rfl rfl rfl (by kernel_rfl) (by simp [row_size]) (row_one _ _) ?_; clear H; intro u H; refine hK _ _ ?_; clear hK K; try simp only [Value.cells, List.cons_append, List.nil_append] at H) | ((refine wpList_on (o := ⟨some 31, .buildSlice _ _ _, _, _, _, _⟩) rfl (fun K hK => ?_)); refine wp_made H (elem := 3) (n := 1) (cs := #[.int .i64 (sat16 (f k + guessS a (ud f p k)))]) (by kernel_rfl) ?_; clear H; intro u gs H; refine hK _ _ ?_; clear hK K) | ((refine wpList_on (o := ⟨some 32, .call _, _, _, _, _⟩) rfl (fun K hK => ?_)); refine wp_append_has (bs := [_, _, _, _]) (e := 3) (s := 1) (B := 8) (m := 1) (nw := fun _ => .int .i64 (sat16 (f k + guessS a (ud f p k)))) _ _ 24 rfl H RO rfl rfl ?_ ?_ ?_ ?_ ?_; (kernel_rfl); (refine From.block (e := 3) (B := 8) H ?_ (by repeat (first | exact List.mem_cons_self | apply List.mem_cons_of_mem | apply List.mem_append_right)) ?_ ?_; (kernel_rfl); (intro j hj; have e0 : j = 0 := (by omega); subst e0; rfl); (intro j hj; rfl)); (unfold maxLen; omega); (omega); (clear H RO; intro v' u tl' RO H; refine hK _ _ ?_; clear hK K; try simp only [Value.cells, List.cons_append, List.nil_append] at H)))
      go_roundw
      case rel =>
        refine ⟨k + 1, tl', by omega, by go_num, RO.snoc rfl, ?_⟩
        rw [HM.out]; exact H.tail
      case measure => simp [intOf]; omega
    · obtain rfl : k = n := by omega
      go_wp2
      refine wp_region_text [] (by kernel_rfl) (by kernel_rfl) (by kernel_rfl) ?_; replace H := H.drew; generalize World.drew _ = u at *
      repeat (first | (refine ones_load_all (o := ⟨_, .load 23 _, _, _, _, _⟩) H 23 _ rfl rfl rfl rfl (by repeat (first | exact List.mem_cons_self | apply List.mem_cons_of_mem | apply List.mem_append_right)) (by kernel_rfl) ?_; simp only [Act.put, List.setIfInBounds_toArray, List.set_cons_zero, List.set_cons_succ]) | (refine ones_eff (o := ⟨_, .store 23 _ _, _, _, _, _⟩) rfl rfl (fun K hK => ?_); refine wp_store_all (l1 := []) H 23 _ _ rfl rfl rfl (by kernel_rfl) (by simp [row_size]) (row_one _ _) ?_; clear H; intro u H; refine hK _ _ ?_; clear hK K; simp only [Act.put, List.setIfInBounds_toArray, List.set_cons_zero, List.set_cons_succ]; try simp only [Value.cells, List.cons_append, List.nil_append] at H) | (refine ones_free (v := ?_) rfl rfl ?_ ?_; rotate_left; (intro w'; go_simp; try with_reducible rfl); simp only [Act.put, List.setIfInBounds_toArray, List.set_cons_zero, List.set_cons_succ]))
      refine ones_nil ?_
      go_wp2
      refine bodyPost_ret (results_tct rfl _ H rfl (by repeat (first | exact List.mem_cons_self | apply List.mem_cons_of_mem | apply List.mem_append_right)) (by kernel_rfl)) rfl ⟨_, tl, rfl, RO, H.tail.tail.tail⟩
end Go.Proofs.Ytcoicmbjoaonoaa
