/-
  Several texts of this claim, one behind the other: Direct, SynthSat, Synth, Filters, SynthBack. No statement is proved here.
-/
import Derived.Test.YtcoicmbjoaonoaaDoorZac
import Derived.Test.YtcoicmbjoaonoaaDoorZae
import Derived.WalkKit
import Derived.Test.YtcoicmbjoaonoaaDoorZad
namespace Go.Proofs.YtcoicmbjoaonoaaDoor
set_option linter.unusedVariables false
set_option linter.unusedSimpArgs false
open Go.RowKit
set_option maxRecDepth 100000

/-- The predictor of m reflections, in 24 bits. -/
def dirM (k : Nat → Int) : Nat → Nat → Int
  | 0, i => if i = 0 then 16777216 else 0
  | m + 1, i => if 1 ≤ i ∧ i ≤ m + 1 then dirM k m i + (k m * dirM k m (m + 1 - i)) / 32768 else dirM k m i
theorem dirM_succ (k : Nat → Int) (m i : Nat) : dirM k (m + 1) i = if 1 ≤ i ∧ i ≤ m + 1 then dirM k m i + (k m * dirM k m (m + 1 - i)) / 32768 else dirM k m i := rfl
def dirC : Nat → Nat → Int
  | 0, i => if i = 0 then 1 else 0
  | m + 1, i => if 1 ≤ i ∧ i ≤ m + 1 then dirC m i + dirC m (m + 1 - i) else dirC m i
theorem dirC_bd : ∀ m, m < 9 → ∀ i, i < 9 → 0 ≤ dirC m i ∧ dirC m i ≤ 70 := by decide
theorem part_bd (q x X : Int) (h1 : -32768 < q) (h2 : q < 32768) (h3 : -X ≤ x) (h4 : x ≤ X) : -X ≤ (q * x) / 32768 ∧ (q * x) / 32768 ≤ X := by
  have := mul_bd q x 32767 X (by omega) (by omega) h3 h4
  omega
theorem dirM_bd (k : Nat → Int) (hk : ∀ i, i < 8 → -32768 < k i ∧ k i < 32768) : ∀ m, m ≤ 8 → ∀ i, -(dirC m i * 16777216) ≤ dirM k m i ∧ dirM k m i ≤ dirC m i * 16777216
  | 0, _, i => by unfold dirM dirC; split <;> omega
  | m + 1, hm, i => by
    have ih := dirM_bd k hk m (by omega)
    have h1 := ih i
    have h2 := ih (m + 1 - i)
    have hp := part_bd (k m) _ _ (hk m (by omega)).1 (hk m (by omega)).2 h2.1 h2.2
    unfold dirM dirC
    split <;> omega
theorem dirM_70 (k : Nat → Int) (hk : ∀ i, i < 8 → -32768 < k i ∧ k i < 32768) {m i : Nat} (hm : m ≤ 8) (hi : i < 9) : -1174405120 ≤ dirM k m i ∧ dirM k m i ≤ 1174405120 := by
  have h1 := dirM_bd k hk m hm i
  have h2 := dirC_bd m (by omega) i hi
  omega
def dirIn (k : Nat → Int) (m i : Nat) : Nat → Int := fun j => if 1 ≤ j ∧ j < i then dirM k (m + 1) j else dirM k m j
theorem dirIn_step (k : Nat → Int) (m i : Nat) (h1 : 1 ≤ i) (h2 : i ≤ m + 1) : (fun j => if j = i then dirM k m i + k m * dirM k m (m + 1 - i) / 32768 else dirIn k m i j) = dirIn k m (i + 1) := by
  funext j
  unfold dirIn
  by_cases e : j = i
  · subst e
    have : 1 ≤ j ∧ j < j + 1 := by omega
    have h3 : 1 ≤ j ∧ j ≤ m + 1 := by omega
    rw [if_pos rfl, if_pos this, dirM_succ, if_pos h3]
  · have : (1 ≤ j ∧ j < i + 1) ↔ (1 ≤ j ∧ j < i) := by omega
    simp only [e, this, if_false]
theorem dirIn_one (k : Nat → Int) (m : Nat) : dirIn k m 1 = dirM k m := by
  funext j
  unfold dirIn
  rw [if_neg (by omega)]
theorem dirIn_all (k : Nat → Int) (m : Nat) : dirIn k m (m + 2) = dirM k (m + 1) := by
  funext j
  unfold dirIn
  split
  · rfl
  · rename_i h
    rw [dirM_succ, if_neg (by omega)]
def dirOut (k : Nat → Int) : Nat → Int := fun i => (dirM k 8 i + 2048) / 4096
def dirTo (k : Nat → Int) (n : Nat) : Nat → Int := fun i => if i < n then dirOut k i else dirM k 8 i
theorem dirTo_step (k : Nat → Int) (n : Nat) : (fun j => if j = n then (dirM k 8 n + 2048) / 4096 else dirTo k n j) = dirTo k (n + 1) := by
  funext j
  unfold dirTo
  by_cases e : j = n
  · subst e; simp [dirOut]
  · have : j < n + 1 ↔ j < n := by omega
    simp [e, this]
theorem dirTo_all (k : Nat → Int) : row 9 (dirTo k 9) = row 9 (dirOut k) := row_congr fun i hi => by simp [dirTo, hi]
theorem dirTo_zero (k : Nat → Int) : dirTo k 0 = dirM k 8 := by funext i; simp [dirTo]

set_option maxRecDepth 100000 in
set_option maxHeartbeats 800000 in
theorem direct_any (k : Nat → Int) (w : World) (hk : ∀ i, i < 8 → -32768 < k i ∧ k i < 32768) :
    Calls Tryd.prog 48 #[.agg (row 8 k)] w fun e w' => e = .returned (.tuple #[.agg (row 9 (dirOut k)), .int .i64 0]) ∧ Below w.heap.size w w' := by
  have HK := Lib.hid hk
  clear hk
  have H := Has.start w
  go_enter Tryd.func48, Tryd.ntmps48
  go_wp2_with (first | ((refine wpList_on (o := ⟨_, .box _ (.tmp 0), _, _, _, _⟩) rfl (fun K hK => ?_)); (try simp only [Act.put, List.setIfInBounds_toArray, List.set_cons_zero, List.set_cons_succ]); refine wp_box H _ (.tmp 0) rfl (v := .agg _) rfl ?_; clear H; intro u gk H; refine hK _ _ ?_; clear hK K; try simp only [Value.cells, List.cons_append, List.nil_append] at H) | (refine wpList_on (o := ⟨some 2, .alloc 77, _, _, _, _⟩) rfl (fun K hK => ?_); refine wp_alloc H 77 rfl (z := (.agg (row 9 fun _ => 0))) (by kernel_rfl) ?_; clear H; intro u gr H; refine hK _ _ ?_; clear hK K; try simp only [Value.cells, List.cons_append, List.nil_append] at H) | (refine wpList_on (o := ⟨some 4, .alloc 77, _, _, _, _⟩) rfl (fun K hK => ?_); refine wp_alloc H 77 rfl (z := (.agg (row 9 fun _ => 0))) (by kernel_rfl) ?_; clear H; intro u ga H; refine hK _ _ ?_; clear hK K; try simp only [Value.cells, List.cons_append, List.nil_append] at H) | ((refine wpList_on (o := ⟨_, .load 26 _, _, _, _, _⟩) rfl (fun K hK => ?_)); (try simp only [Act.put, List.setIfInBounds_toArray, List.set_cons_zero, List.set_cons_succ]); refine wp_load_all H 26 _ rfl rfl (by repeat (first | exact List.mem_cons_self | apply List.mem_cons_of_mem | apply List.mem_append_right)) (by kernel_rfl) ?_; refine hK _ _ ?_; clear hK K) | (refine wpList_on (o := ⟨_, .store 77 (.tmp 4) (.tmp 12), _, _, _, _⟩) rfl (fun K hK => ?_); refine wp_store_all (l1 := []) H 77 _ _ rfl (cs' := row 9 (dirM k 0)) rfl rfl (by kernel_rfl) (by simp [row_size]) (row_one _ _) ?_; clear H; intro u H; refine hK _ _ ?_; clear hK K; simp only [List.nil_append] at H))
  go_loop [14] (fun i => ∃ j : Nat, j ≤ 8 ∧ i = .int .i64 j) (fun i => 8 - (intOf i).toNat)
  case atStart => exact ⟨0, by omega, rfl⟩
  case round =>
    obtain ⟨j, hj, rfl⟩ := hrel
    by_cases hlt : j < 8
    · obtain ⟨b1, b2⟩ := HK.out j hlt
      have d1 := le_no b1
      have d2 := le_no b2
      have hix := fun w => run_index_row (P := Tryd.prog) (n := 8) (i := j) Tryd.underlying26 Tryd.underlying3 (by kernel_rfl) (by kernel_rfl) k hlt w
      go_wp2
      go_round
      case rel => exact ⟨j + 1, by omega, by go_num⟩
      case measure => simp [intOf]; omega
    · obtain rfl : j = 8 := by omega
      go_wp2_with ((refine wpList_on (o := ⟨_, .load 26 _, _, _, _, _⟩) rfl (fun K hK => ?_)); (try simp only [Act.put, List.setIfInBounds_toArray, List.set_cons_zero, List.set_cons_succ]); refine wp_load_all H 26 _ rfl rfl (by repeat (first | exact List.mem_cons_self | apply List.mem_cons_of_mem | apply List.mem_append_right)) (by kernel_rfl) ?_; refine hK _ _ ?_; clear hK K)
      go_loopw [26] (fun c wr => ∃ m : Nat, m ≤ 8 ∧ c = .int .i64 m ∧ Has w wr [(ga, 77, row 9 (dirM k m)), (gr, 77, row 9 fun _ => 0)]) (fun c _ => 8 - (intOf c).toNat)
      case atStart => exact ⟨0, by omega, rfl, (H.sub (by repeat (first | exact List.Sublist.refl _ | exact List.nil_sublist _ | apply List.Sublist.cons_cons | apply List.Sublist.cons | refine List.Sublist.trans ?_ (List.sublist_append_right _ _))))⟩
      clear H
      case round =>
        obtain ⟨m, hm, rfl, H⟩ := hrel
        by_cases hlm : m < 8
        · have hix := fun w => run_index_row (P := Tryd.prog) (n := 8) (i := m) Tryd.underlying26 Tryd.underlying3 (by kernel_rfl) (by kernel_rfl) k hlm w
          have HD : Hid (∀ i, i < 9 → -1174405120 ≤ dirM k m i ∧ dirM k m i ≤ 1174405120) := fun i hi => dirM_70 k HK.out hm hi
          obtain ⟨bk1, bk2⟩ := HK.out m hlm
          go_wp2_with (first | ((refine wpList_on (o := ⟨_, .load 77 _, _, _, _, _⟩) rfl (fun K hK => ?_)); (try simp only [Act.put, List.setIfInBounds_toArray, List.set_cons_zero, List.set_cons_succ]); refine wp_load_all H 77 _ rfl rfl (by repeat (first | exact List.mem_cons_self | apply List.mem_cons_of_mem | apply List.mem_append_right)) (by kernel_rfl) ?_; refine hK _ _ ?_; clear hK K) | (refine wpList_on (o := ⟨some 9, .alloc 77, _, _, _, _⟩) rfl (fun K hK => ?_); refine wp_alloc H 77 rfl (z := (.agg (row 9 fun _ => 0))) (by kernel_rfl) ?_; clear H; intro u gw H; refine hK _ _ ?_; clear hK K; try simp only [Value.cells, List.cons_append, List.nil_append] at H) | ((refine wpList_on (o := ⟨_, .store 77 _ _, _, _, _, _⟩) rfl (fun K hK => ?_)); (try simp only [Act.put, List.setIfInBounds_toArray, List.set_cons_zero, List.set_cons_succ]); refine wp_store_all (l1 := []) H 77 _ _ rfl rfl rfl (by kernel_rfl) (by simp [row_size]) (row_one _ _) ?_; clear H; intro u H; refine hK _ _ ?_; clear hK K; try simp only [Value.cells, List.cons_append, List.nil_append] at H))
          clear hix
          go_loopw [10] (fun c wr => ∃ i : Nat, 1 ≤ i ∧ i ≤ m + 2 ∧ c = .int .i64 i ∧ Has w wr [(gw, 77, row 9 (dirM k m)), (ga, 77, row 9 (dirIn k m i)), (gr, 77, row 9 fun _ => 0)]) (fun c _ => m + 2 - (intOf c).toNat)
          case atStart => exact ⟨1, by omega, by omega, rfl, by rw [dirIn_one]; exact H⟩
          clear H
          case round =>
            obtain ⟨i, hi1, hi2, rfl, H⟩ := hrel
            by_cases hli : i ≤ m + 1
            · obtain ⟨x1, x2⟩ := HD.out i (by omega)
              obtain ⟨y1, y2⟩ := HD.out (m + 1 - i) (by omega)
              obtain ⟨z1, z2⟩ := mul_bd (k m) (dirM k m (m + 1 - i)) 32768 1174405120 (by omega) (by omega) y1 y2
              have wz : IntKind.i64.wrap (k m * dirM k m (m + 1 - i)) = k m * dirM k m (m + 1 - i) := IntWalk.i64_in _ (by omega)
              have wy : IntKind.i64.wrap (dirM k m i + k m * dirM k m (m + 1 - i) / 32768) = dirM k m i + k m * dirM k m (m + 1 - i) / 32768 := IntWalk.i64_in _ (by omega)
              have s1 : IntKind.i64.wrap ((m : Int) + 1) = (m : Int) + 1 := IntWalk.i64_in _ (by omega)
              have s2 : IntKind.i64.wrap ((m : Int) + 1 - i) = (m : Int) + 1 - i := IntWalk.i64_in _ (by omega)
              have s3 : ((m : Int) + 1 - i).toNat = m + 1 - i := by omega
              have s4 : (0 : Int) ≤ (m : Int) + 1 - i := by omega
              have s5 : (m : Int) + 1 - i < 9 := by omega
              have s6 : (i : Int) < 9 := by omega
              have s7 : (0 : Int) ≤ (i : Int) := by omega
              go_wp2_with fail
              refine wp_region_text [] (by kernel_rfl) (by kernel_rfl) (by kernel_rfl) ?_; replace H := H.drew; generalize World.drew _ = u at *
              repeat (first | (refine ones_load_one (o := ⟨_, .load 3 _, _, _, _, _⟩) H 3 _ rfl rfl rfl rfl (by repeat (first | exact List.mem_cons_self | apply List.mem_cons_of_mem | apply List.mem_append_right)) (by kernel_rfl) (row_get _ (by omega)) ?_; simp only [Act.put, List.setIfInBounds_toArray, List.set_cons_zero, List.set_cons_succ]) | (refine ones_free (v := ?_) rfl rfl ?_ ?_; rotate_left; (intro w'; go_simp; try with_reducible rfl); simp only [Act.put, List.setIfInBounds_toArray, List.set_cons_zero, List.set_cons_succ]) | (refine ones_eff (o := ⟨_, .store 3 _ _, _, _, _, _⟩) rfl rfl (fun K hK => ?_); refine wp_store_row_ (l1 := [_]) H 3 _ _ rfl rfl rfl (by kernel_rfl) (by omega) ?_; clear H; intro u H; refine hK _ _ ?_; clear hK K; simp only [Act.put, List.setIfInBounds_toArray, List.set_cons_zero, List.set_cons_succ]; try simp only [Value.cells, List.cons_append, List.nil_append] at H))
              refine ones_nil ?_
              rw [dirIn_step k m i hi1 hli] at H
              go_wp2
              go_roundw
              case rel => exact ⟨i + 1, by omega, by omega, by go_num, H⟩
              case measure => simp [intOf]; omega
            · obtain rfl : i = m + 2 := by omega
              rw [dirIn_all] at H
              go_wp2
              go_roundw
              case rel => exact ⟨m + 1, by omega, by go_num, H.tail⟩
              case measure => simp [intOf]; omega
        · obtain rfl : m = 8 := by omega
          go_wp2_with fail
          simp only [show ((8 : Nat) : Int) = 8 from rfl]
          go_loopw [53] (fun c wr => ∃ i : Nat, i ≤ 9 ∧ c = .int .i64 i ∧ Has w wr [(ga, 77, row 9 (dirTo k i)), (gr, 77, row 9 fun _ => 0)]) (fun c _ => 9 - (intOf c).toNat)
          case atStart => exact ⟨0, by omega, rfl, by rw [dirTo_zero]; exact H⟩
          clear H
          case round =>
            obtain ⟨i, hi, rfl, H⟩ := hrel
            by_cases hli : i < 9
            · obtain ⟨x1, x2⟩ := dirM_70 k HK.out (m := 8) (by omega) hli
              have ea : dirTo k i i = dirM k 8 i := by simp [dirTo]
              go_wp2_with (first | ((refine wpList_on (o := ⟨_, .load 3 _, _, _, _, _⟩) rfl (fun K hK => ?_)); (try simp only [Act.put, List.setIfInBounds_toArray, List.set_cons_zero, List.set_cons_succ]); refine wp_load_one H 3 _ rfl rfl (by repeat (first | exact List.mem_cons_self | apply List.mem_cons_of_mem | apply List.mem_append_right)) (by kernel_rfl) (row_get _ (by omega)) ?_; refine hK _ _ ?_; clear hK K) | ((refine wpList_on (o := ⟨_, .store 3 _ _, _, _, _, _⟩) rfl (fun K hK => ?_)); (try simp only [Act.put, List.setIfInBounds_toArray, List.set_cons_zero, List.set_cons_succ]); refine wp_store_row_ (l1 := []) H 3 _ _ rfl rfl rfl (by kernel_rfl) (by omega) ?_; clear H; intro u H; refine hK _ _ ?_; clear hK K; try simp only [Value.cells, List.cons_append, List.nil_append] at H))
              go_roundw
              case rel =>
                refine ⟨i + 1, by omega, by go_num, ?_⟩
                rw [dirTo_step] at H
                exact H
              case measure => simp [intOf]; omega
            · obtain rfl : i = 9 := by omega
              rw [dirTo_all] at H
              go_wp2_with (first | ((refine wpList_on (o := ⟨_, .load 77 _, _, _, _, _⟩) rfl (fun K hK => ?_)); (try simp only [Act.put, List.setIfInBounds_toArray, List.set_cons_zero, List.set_cons_succ]); refine wp_load_all H 77 _ rfl rfl (by repeat (first | exact List.mem_cons_self | apply List.mem_cons_of_mem | apply List.mem_append_right)) (by kernel_rfl) ?_; refine hK _ _ ?_; clear hK K) | ((refine wpList_on (o := ⟨_, .store 77 _ _, _, _, _, _⟩) rfl (fun K hK => ?_)); (try simp only [Act.put, List.setIfInBounds_toArray, List.set_cons_zero, List.set_cons_succ]); refine wp_store_all (l1 := [_]) H 77 _ _ rfl rfl rfl (by kernel_rfl) (by simp [row_size]) (row_one _ _) ?_; clear H; intro u H; refine hK _ _ ?_; clear hK K; try simp only [Value.cells, List.cons_append, List.nil_append] at H))
              refine bodyPost_ret (results_has rfl _ H rfl (by repeat (first | exact List.mem_cons_self | apply List.mem_cons_of_mem | apply List.mem_append_right)) (by kernel_rfl)) rfl ⟨rfl, H.below⟩
end Go.Proofs.YtcoicmbjoaonoaaDoor
/-
  synth.sat walked. No statement is proved here.
-/
namespace Go.Proofs.YtcoicmbjoaonoaaDoor
set_option linter.unusedVariables false
set_option linter.unusedSimpArgs false
open Go.RowKit
set_option maxRecDepth 100000
theorem synthSat_any (x : Int) (w : World) : Calls Tryd.prog 89 #[.int .i64 x] w fun e w' => e = .returned (.int .i64 (sat16 x)) ∧ w = w' := by
  go_enter Tryd.func89, Tryd.ntmps89
  go_wp2_with (go_at_call 87; (with_reducible refine (Sat16_any _ _).mono ?_); rintro e w1 ⟨rfl, rfl⟩)
  go_ret
  exact ⟨rfl, rfl⟩
theorem synthSat_in (x : Int) (w : World) (h : In16 x) : Calls Tryd.prog 89 #[.int .i64 x] w fun e w' => e = .returned (.int .i64 x) ∧ w = w' := by
  have := synthSat_any x w
  rw [sat16_in h] at this; exact this
theorem In16.bd {x : Int} (h : In16 x) : -32768 ≤ x ∧ x ≤ 32767 := h
end Go.Proofs.YtcoicmbjoaonoaaDoor
/-
  synth: sat, good, guess, push, Make, Undo walked. No statement is proved here.
-/
namespace Go.Proofs.YtcoicmbjoaonoaaDoor
set_option linter.unusedVariables false
set_option linter.unusedSimpArgs false
open Go.RowKit
set_option maxRecDepth 100000
set_option maxHeartbeats 1600000 in
theorem good_yes (a p f : Nat → Int) (P : Option Addr) (n cap b o : Nat) (w : World) (hn : n ≤ 9223372036854775807) (ha : (∀ i, i < 9 → -1048576 ≤ a i ∧ a i ≤ 1048576)) (hp : ∀ i, i < 8 → In16 (p i)) (hf : ∀ i, i < n → In16 (f i)) (h0 : a 0 = 4096) (hR : Reads w P n b o f) :
    Calls Tryd.prog 88 #[.agg (row 9 a), .agg (row 8 p), .slice P n cap] w fun e w' => e = .returned (.bool true) ∧ Below w.heap.size w w' := by
  have H := Has.start w
  have HA := Lib.hid ha
  have HP := Lib.hid hp
  have HF := Lib.hid hf
  have H0 := Lib.hid h0
  clear ha hp hf h0
  go_enter Tryd.func88, Tryd.ntmps88
  go_wp2_with (first | ((refine wpList_on (o := ⟨_, .box _ (.tmp 0), _, _, _, _⟩) rfl (fun K hK => ?_)); (try simp only [Act.put, List.setIfInBounds_toArray, List.set_cons_zero, List.set_cons_succ]); refine wp_box H _ (.tmp 0) rfl (v := .agg _) rfl ?_; clear H; intro u ga H; refine hK _ _ ?_; clear hK K; try simp only [Value.cells, List.cons_append, List.nil_append] at H) | ((refine wpList_on (o := ⟨_, .box _ (.tmp 1), _, _, _, _⟩) rfl (fun K hK => ?_)); (try simp only [Act.put, List.setIfInBounds_toArray, List.set_cons_zero, List.set_cons_succ]); refine wp_box H _ (.tmp 1) rfl (v := .agg _) rfl ?_; clear H; intro u gp H; refine hK _ _ ?_; clear hK K; try simp only [Value.cells, List.cons_append, List.nil_append] at H) | ((refine wpList_on (o := ⟨_, .load 77 _, _, _, _, _⟩) rfl (fun K hK => ?_)); (try simp only [Act.put, List.setIfInBounds_toArray, List.set_cons_zero, List.set_cons_succ]); refine wp_load_all H 77 _ rfl rfl (by repeat (first | exact List.mem_cons_self | apply List.mem_cons_of_mem | apply List.mem_append_right)) (by kernel_rfl) ?_; refine hK _ _ ?_; clear hK K))
  have R := Reads.has hR H
  go_loop [14] (fun c => ∃ j : Nat, j ≤ 9 ∧ c = .int .i64 j) (fun c => 9 - (intOf c).toNat)
  case atStart => exact ⟨0, by omega, rfl⟩
  case round =>
    obtain ⟨j, hj, rfl⟩ := hrel
    by_cases hlt : j < 9
    · have hix := fun w => run_index_row (P := Tryd.prog) (n := 9) (i := j) Tryd.underlying77 Tryd.underlying3 (by kernel_rfl) (by kernel_rfl) a hlt w
      have hb := HA.out j hlt
      have d1 := lt_no hb.1
      have d2 := lt_no hb.2
      clear hb
      go_wp2
      go_round
      case rel => exact ⟨j + 1, by omega, by go_num⟩
      case measure => simp [intOf]; omega
    · obtain rfl : j = 9 := by omega
      go_wp2_with ((refine wpList_on (o := ⟨_, .load 26 _, _, _, _, _⟩) rfl (fun K hK => ?_)); (try simp only [Act.put, List.setIfInBounds_toArray, List.set_cons_zero, List.set_cons_succ]); refine wp_load_all H 26 _ rfl rfl (by repeat (first | exact List.mem_cons_self | apply List.mem_cons_of_mem | apply List.mem_append_right)) (by kernel_rfl) ?_; refine hK _ _ ?_; clear hK K)
      go_loop [25] (fun c => ∃ j : Nat, j ≤ 8 ∧ c = .int .i64 j) (fun c => 8 - (intOf c).toNat)
      case atStart => exact ⟨0, by omega, rfl⟩
      case round =>
        obtain ⟨j, hj, rfl⟩ := hrel
        by_cases hlt : j < 8
        · have hix := fun w => run_index_row (P := Tryd.prog) (n := 8) (i := j) Tryd.underlying26 Tryd.underlying3 (by kernel_rfl) (by kernel_rfl) p hlt w
          have c1 := fun w => synthSat_in (p j) w (HP.out j hlt)
          have C1 := Lib.hid c1
          clear c1
          go_wp2_with (go_at_call 89; (with_reducible refine (C1.out _).mono ?_); rintro e w1 ⟨rfl, rfl⟩)
          go_round
          case rel => exact ⟨j + 1, by omega, by go_num⟩
          case measure => simp [intOf]; omega
        · obtain rfl : j = 8 := by omega
          go_wp2
          go_loop [35] (fun c => ∃ j : Nat, j ≤ n ∧ c = .int .i64 j) (fun c => n - (intOf c).toNat)
          case atStart => exact ⟨0, by omega, rfl⟩
          case round =>
            obtain ⟨j, hj, rfl⟩ := hrel
            by_cases hlt : j < n
            · obtain rfl := R.ptr (by omega)
              have c1 := fun w => synthSat_in (f j) w (HF.out j hlt)
              have C1 := Lib.hid c1
              clear c1
              go_wp2_with (first | ((refine wpList_on (o := ⟨_, .load 3 _, _, _, _, _⟩) rfl (fun K hK => ?_)); refine wp_load_num R 3 _ rfl rfl (by kernel_rfl) hlt ?_; refine hK _ _ ?_; clear hK K) | (go_at_call 89; (with_reducible refine (C1.out _).mono ?_); rintro e w1 ⟨rfl, rfl⟩))
              go_round
              case rel => exact ⟨j + 1, by omega, by go_num⟩
              case measure => simp [intOf]; omega
            · go_wp2_with ((refine wpList_on (o := ⟨_, .load 3 _, _, _, _, _⟩) rfl (fun K hK => ?_)); (try simp only [Act.put, List.setIfInBounds_toArray, List.set_cons_zero, List.set_cons_succ]); refine wp_load_one H 3 _ rfl rfl (by repeat (first | exact List.mem_cons_self | apply List.mem_cons_of_mem | apply List.mem_append_right)) (by kernel_rfl) (row_get _ (by omega)) ?_; refine hK _ _ ?_; clear hK K)
              go_ret
              exact ⟨by rw [H0.out]; rfl, H.below⟩
theorem term_bd {a p : Nat → Int} (ha : (∀ i, i < 9 → -1048576 ≤ a i ∧ a i ≤ 1048576)) (hp : ∀ i, i < 8 → In16 (p i)) (i : Nat) (hi : i < 8) : -34359738368 ≤ a (i + 1) * p i ∧ a (i + 1) * p i ≤ 34359738368 := by
  have h1 := ha (i + 1) (by omega)
  have h2 := (hp i hi).bd
  exact mul_bd _ _ 1048576 32768 h1.1 h1.2 (by omega) (by omega)
theorem guess_bd {a p : Nat → Int} (ha : (∀ i, i < 9 → -1048576 ≤ a i ∧ a i ≤ 1048576)) (hp : ∀ i, i < 8 → In16 (p i)) : -68719476736 ≤ guessS a p ∧ guessS a p ≤ 68719476736 := by
  have h := sumTo_bd (f := fun i => a (i + 1) * p i) (B := 34359738368) 8 (fun i hi => term_bd ha hp i hi)
  unfold guessS
  omega
set_option maxHeartbeats 1600000 in
theorem guess_any (a p : Nat → Int) (w : World) (ha : (∀ i, i < 9 → -1048576 ≤ a i ∧ a i ≤ 1048576)) (hp : ∀ i, i < 8 → In16 (p i)) :
    Calls Tryd.prog 90 #[.agg (row 9 a), .agg (row 8 p)] w fun e w' => e = .returned (.int .i64 (guessS a p)) ∧ Below w.heap.size w w' := by
  have H := Has.start w
  have HT : Hid (∀ i, i < 8 → -34359738368 ≤ a (i + 1) * p i ∧ a (i + 1) * p i ≤ 34359738368) := fun i hi => term_bd ha hp i hi
  have HS : Hid (∀ k : Nat, k ≤ 8 → -(k * 34359738368) ≤ sumTo k (fun i => a (i + 1) * p i) ∧ sumTo k (fun i => a (i + 1) * p i) ≤ k * 34359738368) := fun k hk => sumTo_bd k (fun i hi => term_bd ha hp i (by omega))
  clear ha hp
  go_enter Tryd.func90, Tryd.ntmps90
  go_wp2_with (first | ((refine wpList_on (o := ⟨_, .box _ (.tmp 0), _, _, _, _⟩) rfl (fun K hK => ?_)); (try simp only [Act.put, List.setIfInBounds_toArray, List.set_cons_zero, List.set_cons_succ]); refine wp_box H _ (.tmp 0) rfl (v := .agg _) rfl ?_; clear H; intro u ga H; refine hK _ _ ?_; clear hK K; try simp only [Value.cells, List.cons_append, List.nil_append] at H) | ((refine wpList_on (o := ⟨_, .box _ (.tmp 1), _, _, _, _⟩) rfl (fun K hK => ?_)); (try simp only [Act.put, List.setIfInBounds_toArray, List.set_cons_zero, List.set_cons_succ]); refine wp_box H _ (.tmp 1) rfl (v := .agg _) rfl ?_; clear H; intro u gp H; refine hK _ _ ?_; clear hK K; try simp only [Value.cells, List.cons_append, List.nil_append] at H) | ((refine wpList_on (o := ⟨_, .load 26 _, _, _, _, _⟩) rfl (fun K hK => ?_)); (try simp only [Act.put, List.setIfInBounds_toArray, List.set_cons_zero, List.set_cons_succ]); refine wp_load_all H 26 _ rfl rfl (by repeat (first | exact List.mem_cons_self | apply List.mem_cons_of_mem | apply List.mem_append_right)) (by kernel_rfl) ?_; refine hK _ _ ?_; clear hK K))
  go_loop [5, 9] (fun s c => ∃ j : Nat, j ≤ 8 ∧ c = .int .i64 j ∧ s = .int .i64 (2048 + sumTo j (fun i => a (i + 1) * p i))) (fun _ c => 8 - (intOf c).toNat)
  case atStart => exact ⟨0, by omega, rfl, rfl⟩
  case round =>
    obtain ⟨j, hj, rfl, rfl⟩ := hrel
    by_cases hlt : j < 8
    · have hix := fun w => run_index_row (P := Tryd.prog) (n := 8) (i := j) Tryd.underlying26 Tryd.underlying3 (by kernel_rfl) (by kernel_rfl) p hlt w
      obtain ⟨t1, t2⟩ := HT.out j hlt
      obtain ⟨b1, b2⟩ := HS.out j hj
      have HN : Hid (sumTo (j + 1) (fun i => a (i + 1) * p i) = sumTo j (fun i => a (i + 1) * p i) + a (j + 1) * p j) := rfl
      have s1 : IntKind.i64.wrap (a (j + 1) * p j) = a (j + 1) * p j := IntWalk.i64_in _ (by omega)
      have s2 : ((j : Int) + 1).toNat = j + 1 := by omega
      have s3 : (j : Int) + 1 < 9 := by omega
      generalize sumTo j (fun i => a (i + 1) * p i) = S at *
      go_wp2_with ((refine wpList_on (o := ⟨_, .load 3 _, _, _, _, _⟩) rfl (fun K hK => ?_)); (try simp only [Act.put, List.setIfInBounds_toArray, List.set_cons_zero, List.set_cons_succ]); refine wp_load_one H 3 _ rfl rfl (by repeat (first | exact List.mem_cons_self | apply List.mem_cons_of_mem | apply List.mem_append_right)) (by kernel_rfl) (row_get _ (by omega)) ?_; refine hK _ _ ?_; clear hK K)
      go_round
      case rel => exact ⟨j + 1, by omega, by go_num, by rw [HN.out]; go_num⟩
      case measure => simp [intOf]; omega
    · obtain rfl : j = 8 := by omega
      go_wp2
      go_ret
      exact ⟨rfl, H.below⟩
theorem pushS_row (p : Nat → Int) (x : Int) : row 8 (fun j => if j = 0 then x else if 1 ≤ j ∧ j < 1 + 7 then p (j - 1) else p j) = row 8 (pushS p x) := row_congr fun i hi => by
  unfold pushS
  by_cases h0 : i = 0
  · rw [if_pos h0, if_pos h0]
  · rw [if_neg h0, if_neg h0, if_pos (by omega)]
set_option maxHeartbeats 1600000 in
theorem push_any (p : Nat → Int) (x : Int) (w : World) :
    Calls Tryd.prog 91 #[.agg (row 8 p), .int .i64 x] w fun e w' => e = .returned (.agg (row 8 (pushS p x))) ∧ Below w.heap.size w w' := by
  have H := Has.start w
  go_enter Tryd.func91, Tryd.ntmps91
  go_wp2_with (first | ((refine wpList_on (o := ⟨_, .box _ (.tmp 0), _, _, _, _⟩) rfl (fun K hK => ?_)); (try simp only [Act.put, List.setIfInBounds_toArray, List.set_cons_zero, List.set_cons_succ]); refine wp_box H _ (.tmp 0) rfl (v := .agg _) rfl ?_; clear H; intro u gp H; refine hK _ _ ?_; clear hK K; try simp only [Value.cells, List.cons_append, List.nil_append] at H) | (refine wpList_on (o := ⟨some 4, .alloc 26, _, _, _, _⟩) rfl (fun K hK => ?_); refine wp_alloc H 26 rfl (z := (.agg (row 8 fun _ => 0))) (by kernel_rfl) ?_; clear H; intro u gr H; refine hK _ _ ?_; clear hK K; try simp only [Value.cells, List.cons_append, List.nil_append] at H))
  refine wp_region_ordB [] [(0, 0), (1, 0), (2, 4)] (fun w' => Has w w' []) [] [[0, 1, 2]] (by kernel_rfl) (by kernel_rfl) (by kernel_rfl) ?_; replace H := H.drew; generalize World.drew _ = u at *; simp only [List.forall_mem_cons, List.not_mem_nil, false_imp_iff, implies_true, and_true]; (repeat' refine And.intro ?_ ?_)
  simp only [Act.put, List.setIfInBounds_toArray, List.set_cons_zero, List.set_cons_succ]
  repeat (first | (refine sq_free (o := ⟨_, _, _, _, _, _⟩) (v := ?_) rfl rfl rfl ?_ ?_; rotate_left; (intro w'; go_simp; try with_reducible rfl); simp only [Act.put, List.setIfInBounds_toArray, List.set_cons_zero, List.set_cons_succ]) | (refine sq_eff (o := ⟨_, .call { callee := .builtin .copy, args := #[_, _], argTypes := #[35, 35] }, _, _, _, _⟩) rfl rfl rfl (fun K hK => ?_); refine wp_copy_has (l1 := [_]) H _ _ 35 35 3 rfl (m := 7) (nw := fun i => p i) rfl rfl (by kernel_rfl) rfl (fun j hj => by rw [Addr.add_mid, (H.at_ (by repeat (first | exact List.mem_cons_self | apply List.mem_cons_of_mem | apply List.mem_append_right))).cell, Nat.zero_add]; exact row_get p (by omega)) (by simp [row_size]) (row_patchL p _ (by omega)) ?_; clear H; intro u H; refine hK _ _ ?_; clear hK K; simp only [Act.put, List.setIfInBounds_toArray, List.set_cons_zero, List.set_cons_succ]; simp only [List.cons_append, List.nil_append] at H))
  refine sq_nil ?_
  go_wp2_with (first | ((refine wpList_on (o := ⟨_, .store 3 _ _, _, _, _, _⟩) rfl (fun K hK => ?_)); (try simp only [Act.put, List.setIfInBounds_toArray, List.set_cons_zero, List.set_cons_succ]); refine wp_store_row_ (l1 := [_]) H 3 _ _ rfl rfl rfl (by kernel_rfl) (by omega) ?_; clear H; intro u H; refine hK _ _ ?_; clear hK K; try simp only [Value.cells, List.cons_append, List.nil_append] at H) | ((refine wpList_on (o := ⟨_, .load 26 _, _, _, _, _⟩) rfl (fun K hK => ?_)); (try simp only [Act.put, List.setIfInBounds_toArray, List.set_cons_zero, List.set_cons_succ]); refine wp_load_all H 26 _ rfl rfl (by repeat (first | exact List.mem_cons_self | apply List.mem_cons_of_mem | apply List.mem_append_right)) (by kernel_rfl) ?_; refine hK _ _ ?_; clear hK K) | ((refine wpList_on (o := ⟨_, .store 26 _ _, _, _, _, _⟩) rfl (fun K hK => ?_)); (try simp only [Act.put, List.setIfInBounds_toArray, List.set_cons_zero, List.set_cons_succ]); refine wp_store_all (l1 := []) H 26 _ _ rfl rfl rfl (by kernel_rfl) (by simp [row_size]) (row_one _ _) ?_; clear H; intro u H; refine hK _ _ ?_; clear hK K; try simp only [Value.cells, List.cons_append, List.nil_append] at H))
  refine bodyPost_ret (results_one rfl _ H rfl (by repeat (first | exact List.mem_cons_self | apply List.mem_cons_of_mem | apply List.mem_append_right)) (by kernel_rfl)) rfl ⟨?_, H.below⟩
  rw [← pushS_row]
/-- What Make leaves. -/
def MkPost (a f p : Nat → Int) (n : Nat) (w : World) (e : Ending) (w' : World) : Prop :=
  ∃ v tl, e = .returned (.tuple #[v, .agg (row 8 (mk a f p n)), .int .i64 0]) ∧ Rowed 3 1 v n (fun i => .int .i64 (mkOut a f p i)) tl ∧ Has w w' tl
set_option maxHeartbeats 3200000 in
set_option maxRecDepth 100000 in
theorem Make_any (a p f : Nat → Int) (P : Option Addr) (n cap b o : Nat) (w : World) (hn : n ≤ 17592186044416) (ha : (∀ i, i < 9 → -1048576 ≤ a i ∧ a i ≤ 1048576)) (hp : ∀ i, i < 8 → In16 (p i)) (hf : ∀ i, i < n → In16 (f i)) (h0 : a 0 = 4096) (hR : Reads w P n b o f) :
    Calls Tryd.prog 65 #[.agg (row 9 a), .agg (row 8 p), .slice P n cap] w (MkPost a f p n w) := by
  have H := Has.start w
  have g1 := fun w' hb => good_yes a p f P n cap b o w' (by omega) ha hp hf h0 (hR.below hb)
  have g2 := fun k w' => guess_any a (mk a f p k) w' ha (mk_bd a f hp k)
  have G1 := Lib.hid g1
  have G2 := Lib.hid g2
  have HB : Hid (∀ k, -68719476736 ≤ guessS a (mk a f p k) ∧ guessS a (mk a f p k) ≤ 68719476736) := fun k => guess_bd ha (mk_bd a f hp k)
  have HF := Lib.hid hf
  clear g1 g2 ha hp hf h0
  go_enter Tryd.func65, Tryd.ntmps65
  go_wp2_with (first | ((refine wpList_on (o := ⟨_, .box _ (.tmp 0), _, _, _, _⟩) rfl (fun K hK => ?_)); (try simp only [Act.put, List.setIfInBounds_toArray, List.set_cons_zero, List.set_cons_succ]); refine wp_box H _ (.tmp 0) rfl (v := .agg _) rfl ?_; clear H; intro u ga H; refine hK _ _ ?_; clear hK K; try simp only [Value.cells, List.cons_append, List.nil_append] at H) | ((refine wpList_on (o := ⟨_, .box _ (.tmp 1), _, _, _, _⟩) rfl (fun K hK => ?_)); (try simp only [Act.put, List.setIfInBounds_toArray, List.set_cons_zero, List.set_cons_succ]); refine wp_box H _ (.tmp 1) rfl (v := .agg _) rfl ?_; clear H; intro u gp H; refine hK _ _ ?_; clear hK K; try simp only [Value.cells, List.cons_append, List.nil_append] at H) | (refine wpList_on (o := ⟨some 7, .alloc 26, _, _, _, _⟩) rfl (fun K hK => ?_); refine wp_alloc H 26 rfl (z := (.agg (row 8 fun _ => 0))) (by kernel_rfl) ?_; clear H; intro u gr H; refine hK _ _ ?_; clear hK K; try simp only [Value.cells, List.cons_append, List.nil_append] at H) | ((refine wpList_on (o := ⟨_, .load 77 _, _, _, _, _⟩) rfl (fun K hK => ?_)); (try simp only [Act.put, List.setIfInBounds_toArray, List.set_cons_zero, List.set_cons_succ]); refine wp_load_all H 77 _ rfl rfl (by repeat (first | exact List.mem_cons_self | apply List.mem_cons_of_mem | apply List.mem_append_right)) (by kernel_rfl) ?_; refine hK _ _ ?_; clear hK K) | ((refine wpList_on (o := ⟨_, .load 26 _, _, _, _, _⟩) rfl (fun K hK => ?_)); (try simp only [Act.put, List.setIfInBounds_toArray, List.set_cons_zero, List.set_cons_succ]); refine wp_load_all H 26 _ rfl rfl (by repeat (first | exact List.mem_cons_self | apply List.mem_cons_of_mem | apply List.mem_append_right)) (by kernel_rfl) ?_; refine hK _ _ ?_; clear hK K) | (go_at_call 88; (with_reducible refine (G1.out _ H.below).mono ?_); rintro e w1 ⟨rfl, hb⟩; replace H := H.callee hb; clear hb))
  clear G1
  go_loopw [9, 21] (fun v c wr => ∃ (k : Nat) (tl : List (Nat × TypeId × Array Value)), k ≤ n ∧ c = .int .i64 k ∧ Hid (Rowed 3 1 v k (fun i => .int .i64 (mkOut a f p i)) tl) ∧ Has w wr ((gr, 26, row 8 fun _ => 0) :: (gp, 26, row 8 (mk a f p k)) :: (ga, 77, row 9 a) :: tl)) (fun _ c _ => n - (intOf c).toNat)
  case atStart => exact ⟨0, [], by omega, rfl, Rowed.nil _ _ _, H⟩
  clear H
  case round =>
    obtain ⟨k, tl, hk, rfl, RO, H⟩ := hrel
    replace RO := RO.out
    have R := Reads.has hR H
    by_cases hlt : k < n
    · obtain rfl := R.ptr (by omega)
      obtain ⟨b1, b2⟩ := HB.out k
      obtain ⟨b3, b4⟩ := (HF.out k hlt).bd
      have HM : Hid (mk a f p (k + 1) = pushS (mk a f p k) (sat16 (f k - guessS a (mk a f p k)))) := rfl
      go_wp2_with (first | ((refine wpList_on (o := ⟨_, .load 3 _, _, _, _, _⟩) rfl (fun K hK => ?_)); refine wp_load_num R 3 _ rfl rfl (by kernel_rfl) hlt ?_; refine hK _ _ ?_; clear hK K) | ((refine wpList_on (o := ⟨_, .load 77 _, _, _, _, _⟩) rfl (fun K hK => ?_)); (try simp only [Act.put, List.setIfInBounds_toArray, List.set_cons_zero, List.set_cons_succ]); refine wp_load_all H 77 _ rfl rfl (by repeat (first | exact List.mem_cons_self | apply List.mem_cons_of_mem | apply List.mem_append_right)) (by kernel_rfl) ?_; refine hK _ _ ?_; clear hK K) | ((refine wpList_on (o := ⟨_, .load 26 _, _, _, _, _⟩) rfl (fun K hK => ?_)); (try simp only [Act.put, List.setIfInBounds_toArray, List.set_cons_zero, List.set_cons_succ]); refine wp_load_all H 26 _ rfl rfl (by repeat (first | exact List.mem_cons_self | apply List.mem_cons_of_mem | apply List.mem_append_right)) (by kernel_rfl) ?_; refine hK _ _ ?_; clear hK K) | (go_at_call 90; (with_reducible refine (G2.out k _).mono ?_); rintro e w1 ⟨rfl, hb⟩; replace H := H.callee hb; clear hb) | (go_at_call 89; (with_reducible refine (synthSat_any _ _).mono ?_); rintro e w1 ⟨rfl, rfl⟩) | (go_at_call 91; (with_reducible refine (push_any _ _ _).mono ?_); rintro e w1 ⟨rfl, hb⟩; replace H := H.callee hb; clear hb) | ((refine wpList_on (o := ⟨_, .store 26 _ _, _, _, _, _⟩) rfl (fun K hK => ?_)); (try simp only [Act.put, List.setIfInBounds_toArray, List.set_cons_zero, List.set_cons_succ]); refine wp_store_all (l1 := [_]) H 26 _ _ rfl rfl rfl (by kernel_rfl) (by simp [row_size]) (row_one _ _) ?_; clear H; intro u H; refine hK _ _ ?_; clear hK K; try simp only [Value.cells, List.cons_append, List.nil_append] at H) | ((refine wpList_on (o := ⟨some 36, .buildSlice _ _ _, _, _, _, _⟩) rfl (fun K hK => ?_)); refine wp_made H (elem := 3) (n := 1) (cs := #[.int .i64 (sat16 (f k - guessS a (mk a f p k)))]) (by kernel_rfl) ?_; clear H; intro u gs H; refine hK _ _ ?_; clear hK K) | ((refine wpList_on (o := ⟨some 37, .call _, _, _, _, _⟩) rfl (fun K hK => ?_)); refine wp_append_has (bs := [_, _, _, _]) (e := 3) (s := 1) (B := 8) (m := 1) (nw := fun _ => .int .i64 (sat16 (f k - guessS a (mk a f p k)))) _ _ 35 rfl H RO rfl rfl ?_ ?_ ?_ ?_ ?_; (kernel_rfl); (refine From.block (e := 3) (B := 8) H ?_ (by repeat (first | exact List.mem_cons_self | apply List.mem_cons_of_mem | apply List.mem_append_right)) ?_ ?_; (kernel_rfl); (intro j hj; have e0 : j = 0 := (by omega); subst e0; rfl); (intro j hj; rfl)); (unfold maxLen; omega); (omega); (clear H RO; intro v' u tl' RO H; refine hK _ _ ?_; clear hK K; try simp only [Value.cells, List.cons_append, List.nil_append] at H)))
      go_roundw
      case rel =>
        refine ⟨k + 1, tl', by omega, by go_num, RO.snoc rfl, ?_⟩
        rw [HM.out]; exact H.tail
      case measure => simp [intOf]; omega
    · obtain rfl : k = n := by omega
      go_wp2
      refine wp_region_text [] (by kernel_rfl) (by kernel_rfl) (by kernel_rfl) ?_; replace H := H.drew; generalize World.drew _ = u at *
      repeat (first | (refine ones_load_all (o := ⟨_, .load 26 _, _, _, _, _⟩) H 26 _ rfl rfl rfl rfl (by repeat (first | exact List.mem_cons_self | apply List.mem_cons_of_mem | apply List.mem_append_right)) (by kernel_rfl) ?_; simp only [Act.put, List.setIfInBounds_toArray, List.set_cons_zero, List.set_cons_succ]) | (refine ones_eff (o := ⟨_, .store 26 _ _, _, _, _, _⟩) rfl rfl (fun K hK => ?_); refine wp_store_all (l1 := []) H 26 _ _ rfl rfl rfl (by kernel_rfl) (by simp [row_size]) (row_one _ _) ?_; clear H; intro u H; refine hK _ _ ?_; clear hK K; simp only [Act.put, List.setIfInBounds_toArray, List.set_cons_zero, List.set_cons_succ]; try simp only [Value.cells, List.cons_append, List.nil_append] at H) | (refine ones_free (v := ?_) rfl rfl ?_ ?_; rotate_left; (intro w'; go_simp; try with_reducible rfl); simp only [Act.put, List.setIfInBounds_toArray, List.set_cons_zero, List.set_cons_succ]))
      refine ones_nil ?_
      go_wp2
      refine bodyPost_ret (results_tct rfl _ H rfl (by repeat (first | exact List.mem_cons_self | apply List.mem_cons_of_mem | apply List.mem_append_right)) (by kernel_rfl)) rfl ⟨_, tl, rfl, RO, H.tail.tail.tail⟩
end Go.Proofs.YtcoicmbjoaonoaaDoor
/-
  filters, ends walked. No statement is proved here.
-/
namespace Go.Proofs.YtcoicmbjoaonoaaDoor
set_option linter.unusedVariables false
set_option linter.unusedSimpArgs false
open Go.RowKit
set_option maxRecDepth 100000
def exA (i : Nat) : Int := if i = 0 then 4096 else if i = 1 then -4096 else 0
def exF (i : Nat) : Int := if i = 0 then 5 else if i = 2 then 1 else 0
def exY (i : Nat) : Int := if i = 2 then 6 else 5
def zeroF (_ : Nat) : Int := 0
theorem ex_out : ∀ i, i < 3 → mkOut exA exF zeroF i = exY i := by decide
theorem ex_past : mk exA exF zeroF 3 0 = 6 := by decide
theorem ex_A : (#[.int .i64 4096, .int .i64 (-4096), .int .i64 0, .int .i64 0, .int .i64 0, .int .i64 0, .int .i64 0, .int .i64 0, .int .i64 0] : Array Value) = row 9 exA := rfl
theorem ex_P : (#[.int .i64 0, .int .i64 0, .int .i64 0, .int .i64 0, .int .i64 0, .int .i64 0, .int .i64 0, .int .i64 0] : Array Value) = row 8 zeroF := rfl
theorem Make_ex (g : Nat) (w u : World) (t : TypeId) (H : Has w u [(g, t, row 3 exF)]) :
    Calls Tryd.prog 65 #[.agg #[.int .i64 4096, .int .i64 (-4096), .int .i64 0, .int .i64 0, .int .i64 0, .int .i64 0, .int .i64 0, .int .i64 0, .int .i64 0], .agg #[.int .i64 0, .int .i64 0, .int .i64 0, .int .i64 0, .int .i64 0, .int .i64 0, .int .i64 0, .int .i64 0], .slice (some ⟨g, 0, none⟩) 3 3] u (MkPost exA exF zeroF 3 u) := by
  rw [ex_A, ex_P]
  exact Make_any exA zeroF exF _ 3 3 g 0 u (by omega) (fun i hi => by unfold exA; split <;> (try split) <;> omega) (fun i hi => by unfold zeroF In16; omega) (fun i hi => by unfold exF In16; split <;> (try split) <;> omega) rfl (Reads.ofRow H (by repeat (first | exact List.mem_cons_self | apply List.mem_cons_of_mem | apply List.mem_append_right)) (by omega))
end Go.Proofs.YtcoicmbjoaonoaaDoor
/-
  The walk of SynthBack. No statement is proved here.
-/
namespace Go.Proofs.YtcoicmbjoaonoaaDoor
set_option linter.unusedVariables false
set_option linter.unusedSimpArgs false
open Go.RowKit
set_option maxRecDepth 100000
theorem pastI_bd (p : Nat → Int) : ∀ i, i < 8 → In16 (pastI p i) := fun i _ => s16I_bd _
theorem listF_in (n : Nat) (f : Nat → Int) : ∀ i, In16 (listF n f i) := fun i => listF_bd n f i
theorem Make_l {a p f : Nat → Int} {n : Nat} {v : Value} {u : World} (hn : n ≤ 17592186044416) (ha : ∀ i, i < 9 → -1048576 ≤ a i ∧ a i ≤ 1048576) (h0 : a 0 = 4096) (hp : ∀ i, i < 8 → In16 (p i)) (hf : ∀ i, i < n → In16 (f i)) (L : Lies u v n f) :
    Calls Tryd.prog 65 #[.agg (row 9 a), .agg (row 8 p), v] u (MkPost a f p n u) := by
  obtain ⟨P, cap, b, o, rfl, R⟩ := L
  exact Make_any a p f P n cap b o u hn ha hp hf h0 R
end Go.Proofs.YtcoicmbjoaonoaaDoor
