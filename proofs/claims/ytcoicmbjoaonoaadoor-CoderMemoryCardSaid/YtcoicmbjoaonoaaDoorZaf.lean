/-
  Several texts of this claim, one behind the other: MixKeep, Conceal, EncLaw, Mix. No statement is proved here.
-/
import Derived.Test.YtcoicmbjoaonoaaDoorZac
import Derived.Test.YtcoicmbjoaonoaaDoorZad
import Derived.Test.YtcoicmbjoaonoaaDoorZae
import Derived.Test.YtcoicmbjoaonoaaDoorZaa
/-
  conceal: sat, Mix, Keep walked. No statement is proved here.
-/
namespace Go.Proofs.YtcoicmbjoaonoaaDoor
set_option linter.unusedVariables false
set_option linter.unusedSimpArgs false
open Go.RowKit
set_option maxRecDepth 100000
theorem concealSat_any (x : Int) (w : World) : Calls Tryd.prog 52 #[.int .i64 x] w fun e w' => e = .returned (.int .i64 (sat16 x)) ∧ w = w' := by
  go_enter Tryd.func52, Tryd.ntmps52
  go_wp2_with (go_at_call 87; (with_reducible refine (Sat16_any _ _).mono ?_); rintro e w1 ⟨rfl, rfl⟩)
  go_ret
  exact ⟨rfl, rfl⟩
theorem concealSat_in (x : Int) (w : World) (h : In16 x) : Calls Tryd.prog 52 #[.int .i64 x] w fun e w' => e = .returned (.int .i64 x) ∧ w = w' := by
  have := concealSat_any x w
  rw [sat16_in h] at this; exact this
def mixF (h : Nat → Int) (L : Nat) (g : Int) (x : Nat → Int) (i : Nat) : Int := sat16 ((sat16 (pastF h L i) * g + 8192) / 16384 + sat16 (x i))
theorem mixF_bd (h : Nat → Int) (L : Nat) (g : Int) (x : Nat → Int) (i : Nat) : In16 (mixF h L g x i) := sat16_bd _
def MixPost (h : Nat → Int) (L : Nat) (g : Int) (x : Nat → Int) (w : World) (e : Ending) (w' : World) : Prop := ∃ gv, e = .returned (.tuple #[.slice (some ⟨gv, 0, none⟩) 40 40, .int .i64 0]) ∧ Has w w' [(gv, 3, row 40 (mixF h L g x))]
set_option maxHeartbeats 3200000 in
theorem Mix_any (h x : Nat → Int) (L : Nat) (g : Int) {v : Value} {w : World} (hL0 : 20 ≤ L) (hL1 : L ≤ 79) (hg0 : 0 ≤ g) (hg1 : g ≤ 32767) (LX : Lies w v 40 x) :
    Calls Tryd.prog 81 #[.agg (row 80 h), .int .i64 L, .int .i64 g, v] w (MixPost h L g x w) := by
  obtain ⟨P, cap, gx, ox, rfl, hR⟩ := LX
  obtain rfl := hR.ptr (by omega)
  have H := Has.start w
  have d1 := lt_no hg0
  have d2 := lt_no hg1
  go_enter Tryd.func81, Tryd.ntmps81
  go_wp2_with (first | ((refine wpList_on (o := ⟨_, .box _ (.tmp 0), _, _, _, _⟩) rfl (fun K hK => ?_)); (try simp only [Act.put, List.setIfInBounds_toArray, List.set_cons_zero, List.set_cons_succ]); refine wp_box H _ (.tmp 0) rfl (v := .agg _) rfl ?_; clear H; intro u gh H; refine hK _ _ ?_; clear hK K; try simp only [Value.cells, List.cons_append, List.nil_append] at H) | ((refine wpList_on (o := ⟨_, .load 27 _, _, _, _, _⟩) rfl (fun K hK => ?_)); (try simp only [Act.put, List.setIfInBounds_toArray, List.set_cons_zero, List.set_cons_succ]); refine wp_load_all H 27 _ rfl rfl (by repeat (first | exact List.mem_cons_self | apply List.mem_cons_of_mem | apply List.mem_append_right)) (by kernel_rfl) ?_; refine hK _ _ ?_; clear hK K) | (go_at_call 73; (with_reducible refine (Past_any h L _ hL0 hL1).mono ?_); rintro e w1 ⟨gv, rfl, hb⟩; replace H := H.join hb; clear hb; (try simp only [List.cons_append, List.nil_append] at H)))
  clear d1 d2
  have H' : Has w w1 [(gv, 3, row 40 (pastF h L))] := H.sub (by repeat (first | exact List.Sublist.refl _ | exact List.nil_sublist _ | apply List.Sublist.cons_cons | apply List.Sublist.cons))
  clear H
  replace H := H'
  clear H'
  go_loopw [34] (fun c wr => ∃ k : Nat, k ≤ 40 ∧ c = .int .i64 k ∧ Has w wr [(gv, 3, row 40 fun i => if i < k then mixF h L g x i else pastF h L i)]) (fun c _ => 40 - (intOf c).toNat)
  case atStart => exact ⟨0, by omega, rfl, by simpa using H⟩
  clear H
  case round =>
    obtain ⟨k, hk, rfl, H⟩ := hrel
    by_cases hlt : k < 40
    · have R := Reads.has hR H
      have q1 : (k : Int) < 40 := by omega
      have HE : Hid (row 40 (fun i => if i < k + 1 then mixF h L g x i else pastF h L i) = row 40 (fun j => if j = k then mixF h L g x k else if j < k then mixF h L g x j else pastF h L j)) := row_congr fun i hi => by
        by_cases e : i = k
        · subst e; simp
        · have : i < k + 1 ↔ i < k := by omega
          simp [e, this]
      have e0 : (if k < k then mixF h L g x k else pastF h L k) = pastF h L k := by simp
      have HM : Hid (sat16 ((sat16 (pastF h L k) * g + 8192) / 16384 + sat16 (x k)) = mixF h L g x k) := rfl
      have c1 := fun w : World => concealSat_any (pastF h L k) w
      have c2 := fun w : World => concealSat_any (x k) w
      have b1 := sat16_bd (pastF h L k)
      have b2 := sat16_bd (x k)
      obtain ⟨b3, b4⟩ := b2
      obtain ⟨m1, m2⟩ := mul_bd (sat16 (pastF h L k)) g 32768 32767 (by omega) (by omega) (by omega) (by omega)
      generalize sat16 (pastF h L k) = X at *
      generalize sat16 (x k) = Y at *
      have s1 : IntKind.i64.wrap (X * g) = X * g := IntWalk.i64_in _ (by omega)
      have c3 := fun w : World => concealSat_any ((X * g + 8192) / 16384 + Y) w
      rw [HM.out] at c3
      have C1 := Lib.hid c1
      have C2 := Lib.hid c2
      have C3 := Lib.hid c3
      clear c1 c2 c3 b1
      go_wp2_with (first | ((refine wpList_on (o := ⟨_, .load 3 _, _, _, _, _⟩) rfl (fun K hK => ?_)); refine wp_load_num R 3 _ rfl rfl (by kernel_rfl) hlt ?_; refine hK _ _ ?_; clear hK K) | ((refine wpList_on (o := ⟨_, .load 3 _, _, _, _, _⟩) rfl (fun K hK => ?_)); (try simp only [Act.put, List.setIfInBounds_toArray, List.set_cons_zero, List.set_cons_succ]); refine wp_load_one H 3 _ rfl rfl (by repeat (first | exact List.mem_cons_self | apply List.mem_cons_of_mem | apply List.mem_append_right)) (by kernel_rfl) (row_get _ (by omega)) ?_; refine hK _ _ ?_; clear hK K) | (go_at_call 52; (with_reducible refine (C1.out _).mono ?_); rintro e w1 ⟨rfl, rfl⟩) | (go_at_call 52; (with_reducible refine (C2.out _).mono ?_); rintro e w1 ⟨rfl, rfl⟩) | (go_at_call 52; (with_reducible refine (C3.out _).mono ?_); rintro e w1 ⟨rfl, rfl⟩) | ((refine wpList_on (o := ⟨_, .store 3 _ _, _, _, _, _⟩) rfl (fun K hK => ?_)); (try simp only [Act.put, List.setIfInBounds_toArray, List.set_cons_zero, List.set_cons_succ]); refine wp_store_row_ (l1 := []) H 3 _ _ rfl rfl rfl (by kernel_rfl) (by omega) ?_; clear H; intro u H; refine hK _ _ ?_; clear hK K; try simp only [Value.cells, List.cons_append, List.nil_append] at H))
      go_roundw
      case rel => exact ⟨k + 1, by omega, by go_num, by rw [HE.out]; exact H⟩
      case measure => simp [intOf]; omega
    · obtain rfl : k = 40 := by omega
      have HE : Hid (row 40 (fun i => if i < 40 then mixF h L g x i else pastF h L i) = row 40 (mixF h L g x)) := row_congr fun i hi => if_pos hi
      rw [HE.out] at H
      go_wp2
      go_ret2
      exact ⟨gv, rfl, H⟩
/-- The last excitation with forty samples more behind it. -/
def keepF (h x : Nat → Int) (i : Nat) : Int := if i < 40 then h (40 + i) else sat16 (x (i - 40))
set_option maxHeartbeats 3200000 in
theorem Keep_any (h x : Nat → Int) {v : Value} {w : World} (LX : Lies w v 40 x) :
    Calls Tryd.prog 82 #[.agg (row 80 h), v] w fun e w' => e = .returned (.tuple #[.agg (row 80 (keepF h x)), .int .i64 0]) ∧ Below w.heap.size w w' := by
  obtain ⟨P, cap, gx, ox, rfl, hR⟩ := LX
  obtain rfl := hR.ptr (by omega)
  have H := Has.start w
  go_enter Tryd.func82, Tryd.ntmps82
  go_wp2_with (first | ((refine wpList_on (o := ⟨_, .box _ (.tmp 0), _, _, _, _⟩) rfl (fun K hK => ?_)); (try simp only [Act.put, List.setIfInBounds_toArray, List.set_cons_zero, List.set_cons_succ]); refine wp_box H _ (.tmp 0) rfl (v := .agg _) rfl ?_; clear H; intro u gh H; refine hK _ _ ?_; clear hK K; try simp only [Value.cells, List.cons_append, List.nil_append] at H) | (refine wpList_on (o := ⟨some 4, .alloc 27, _, _, _, _⟩) rfl (fun K hK => ?_); refine wp_alloc H 27 rfl (z := (.agg (row 80 fun _ => 0))) (by kernel_rfl) ?_; clear H; intro u gr H; refine hK _ _ ?_; clear hK K; try simp only [Value.cells, List.cons_append, List.nil_append] at H))
  refine wp_region_ordB [] [(0, 0), (1, 0), (2, 4)] (fun w' => Has w w' []) [] [[0, 1, 2]] (by kernel_rfl) (by kernel_rfl) (by kernel_rfl) ?_; replace H := H.drew; generalize World.drew _ = u at *; simp only [List.forall_mem_cons, List.not_mem_nil, false_imp_iff, implies_true, and_true]; (repeat' refine And.intro ?_ ?_)
  repeat (first | (refine sq_free (o := ⟨_, _, _, _, _, _⟩) (v := ?_) rfl rfl rfl ?_ ?_; rotate_left; (intro w'; go_simp; try with_reducible rfl); simp only [Act.put, List.setIfInBounds_toArray, List.set_cons_zero, List.set_cons_succ]) | (refine sq_eff (o := ⟨_, .call { callee := .builtin .copy, args := #[_, _], argTypes := #[35, 35] }, _, _, _, _⟩) rfl rfl rfl (fun K hK => ?_); refine wp_copy_has (l1 := [_]) H _ _ 35 35 3 rfl (m := 40) (nw := fun i => h (40 + i)) rfl rfl (by kernel_rfl) rfl (fun j hj => by rw [Addr.add_mid, (H.at_ (by repeat (first | exact List.mem_cons_self | apply List.mem_cons_of_mem | apply List.mem_append_right))).cell]; exact row_get h (by omega)) (by rw [row_size]; omega) (row_patchL h _ (by omega)) ?_; clear H; intro u H; refine hK _ _ ?_; clear hK K; simp only [Act.put, List.setIfInBounds_toArray, List.set_cons_zero, List.set_cons_succ]))
  refine sq_nil ?_
  have HE0 : Hid (row 80 (fun i => if 0 ≤ i ∧ i < 0 + 40 then (fun i => h (40 + i)) (i - 0) else h i) = row 80 (fun i => if i < 40 then h (40 + i) else if i < 40 + 0 then sat16 (x (i - 40)) else h i)) := row_congr fun i hi => by
    by_cases e : i < 40
    · rw [if_pos ⟨by omega, by omega⟩, if_pos e]; rfl
    · rw [if_neg (fun hh => e (by omega)), if_neg e, if_neg (by omega)]
  rw [HE0.out] at H
  clear HE0
  generalize goInt _ = zz
  go_wp2
  go_loopw [17] (fun c wr => ∃ k : Nat, k ≤ 40 ∧ c = .int .i64 k ∧ Has w wr [(gr, 27, row 80 fun _ => 0), (gh, 27, row 80 fun i => if i < 40 then h (40 + i) else if i < 40 + k then sat16 (x (i - 40)) else h i)]) (fun c _ => 40 - (intOf c).toNat)
  case atStart => exact ⟨0, by omega, rfl, H⟩
  clear H
  case round =>
    obtain ⟨k, hk, rfl, H⟩ := hrel
    by_cases hlt : k < 40
    · have R := Reads.has hR H
      have q1 : (k : Int) < 40 := by omega
      have HE : Hid (row 80 (fun i => if i < 40 then h (40 + i) else if i < 40 + (k + 1) then sat16 (x (i - 40)) else h i) = row 80 (fun j => if j = 40 + k then sat16 (x k) else if j < 40 then h (40 + j) else if j < 40 + k then sat16 (x (j - 40)) else h j)) := row_congr fun i hi => by
        by_cases e : i = 40 + k
        · rw [if_neg (by omega), if_pos (by omega), if_pos e, show i - 40 = k by omega]
        · rw [if_neg e]
          by_cases e2 : i < 40
          · rw [if_pos e2, if_pos e2]
          · rw [if_neg e2, if_neg e2]
            by_cases e3 : i < 40 + k
            · rw [if_pos e3, if_pos (by omega)]
            · rw [if_neg e3, if_neg (by omega)]
      go_wp2_with (first | ((refine wpList_on (o := ⟨_, .load 3 _, _, _, _, _⟩) rfl (fun K hK => ?_)); refine wp_load_num R 3 _ rfl rfl (by kernel_rfl) hlt ?_; refine hK _ _ ?_; clear hK K) | (go_at_call 52; (with_reducible refine (concealSat_any _ _).mono ?_); rintro e w1 ⟨rfl, rfl⟩) | ((refine wpList_on (o := ⟨_, .store 3 _ _, _, _, _, _⟩) rfl (fun K hK => ?_)); (try simp only [Act.put, List.setIfInBounds_toArray, List.set_cons_zero, List.set_cons_succ]); refine wp_store_row_ (l1 := [_]) H 3 _ _ rfl rfl rfl (by kernel_rfl) (by omega) ?_; clear H; intro u H; refine hK _ _ ?_; clear hK K; try simp only [Value.cells, List.cons_append, List.nil_append] at H))
      go_roundw
      case rel => exact ⟨k + 1, by omega, by go_num, by rw [HE.out]; exact H⟩
      case measure => simp [intOf]; omega
    · obtain rfl : k = 40 := by omega
      have HE : Hid (row 80 (fun i => if i < 40 then h (40 + i) else if i < 40 + 40 then sat16 (x (i - 40)) else h i) = row 80 (keepF h x)) := row_congr fun i hi => by
        unfold keepF
        by_cases e : i < 40
        · rw [if_pos e, if_pos e]
        · rw [if_neg e, if_neg e, if_pos (by omega)]
      rw [HE.out] at H
      go_wp2_with (first | ((refine wpList_on (o := ⟨_, .load 27 _, _, _, _, _⟩) rfl (fun K hK => ?_)); (try simp only [Act.put, List.setIfInBounds_toArray, List.set_cons_zero, List.set_cons_succ]); refine wp_load_all H 27 _ rfl rfl (by repeat (first | exact List.mem_cons_self | apply List.mem_cons_of_mem | apply List.mem_append_right)) (by kernel_rfl) ?_; refine hK _ _ ?_; clear hK K) | ((refine wpList_on (o := ⟨_, .store 27 _ _, _, _, _, _⟩) rfl (fun K hK => ?_)); (try simp only [Act.put, List.setIfInBounds_toArray, List.set_cons_zero, List.set_cons_succ]); refine wp_store_all (l1 := []) H 27 _ _ rfl rfl rfl (by kernel_rfl) (by simp [row_size]) (row_one _ _) ?_; clear H; intro u H; refine hK _ _ ?_; clear hK K; try simp only [Value.cells, List.cons_append, List.nil_append] at H))
      refine bodyPost_ret (results_has rfl _ H rfl (by repeat (first | exact List.mem_cons_self | apply List.mem_cons_of_mem | apply List.mem_append_right)) (by kernel_rfl)) rfl ⟨rfl, H.below⟩
end Go.Proofs.YtcoicmbjoaonoaaDoor
/-
  conceal: sat, Good, noise, Mix, Keep walked. No statement is proved here.
-/
namespace Go.Proofs.YtcoicmbjoaonoaaDoor
set_option linter.unusedVariables false
set_option linter.unusedSimpArgs false
open Go.RowKit
set_option maxRecDepth 100000
/-- A memory that is good. -/
structure GoodM (f : Nat → Int) : Prop where
  refl : ∀ i, i < 8 → -31000 ≤ f i ∧ f i ≤ 31000
  past : ∀ i, i < 8 → In16 (pstM f i)
  exc : ∀ i, i < 80 → In16 (excM f i)
  gain : 0 ≤ f 96 ∧ f 96 ≤ 32767
  pitch : 0 ≤ f 97 ∧ f 97 ≤ 18022
  lag : 20 ≤ f 98 ∧ f 98 ≤ 79
  erased : 0 ≤ f 99 ∧ f 99 ≤ 6
  seed : 0 ≤ f 100 ∧ f 100 < 65536
set_option maxHeartbeats 6400000 in
set_option maxRecDepth 100000 in
theorem Good_any (f : Nat → Int) (s : Bool) (w : World) (hG : GoodM f) :
    Calls Tryd.prog 21 #[.agg (memA f s)] w fun e w' => e = .returned (.bool true) ∧ Below w.heap.size w w' := by
  have H := Has.start w
  have H1 := Lib.hid hG.refl
  have H2 := Lib.hid hG.past
  have H3 := Lib.hid hG.exc
  have d1 := le_yes hG.gain.1
  have d2 := le_yes hG.gain.2
  have d3 := le_yes hG.pitch.1
  have d4 := le_yes hG.pitch.2
  have d5 := le_yes hG.lag.1
  have d6 := le_yes hG.lag.2
  have d7 := le_yes hG.erased.1
  have d8 := le_yes hG.erased.2
  have d9 := le_yes hG.seed.1
  have d10 := lt_yes hG.seed.2
  clear hG
  go_enter Tryd.func21, Tryd.ntmps21
  go_wp2_with (first | ((refine wpList_on (o := ⟨_, .box _ (.tmp 0), _, _, _, _⟩) rfl (fun K hK => ?_)); (try simp only [Act.put, List.setIfInBounds_toArray, List.set_cons_zero, List.set_cons_succ]); refine wp_box H _ (.tmp 0) rfl (v := .agg (memA _ _)) rfl ?_; clear H; intro u gm H; refine hK _ _ ?_; clear hK K; try simp only [Value.cells, List.cons_append, List.nil_append] at H) | ((refine wpList_on (o := ⟨_, .load 26 _, _, _, _, _⟩) rfl (fun K hK => ?_)); (try simp only [Act.put, List.setIfInBounds_toArray, List.set_cons_zero, List.set_cons_succ]); refine wp_load_part (n := 8) H 26 _ rfl rfl (by repeat (first | exact List.mem_cons_self | apply List.mem_cons_of_mem | apply List.mem_append_right)) (by kernel_rfl) (by rw [memA_size]; omega) (memA_refl _ _) ?_; refine hK _ _ ?_; clear hK K))
  go_loop [12] (fun c => ∃ j : Nat, j ≤ 8 ∧ c = .int .i64 j) (fun c => 8 - (intOf c).toNat)
  case atStart => exact ⟨0, by omega, rfl⟩
  case round =>
    obtain ⟨j, hj, rfl⟩ := hrel
    by_cases hlt : j < 8
    · have hix := fun w => run_index_row (P := Tryd.prog) (n := 8) (i := j) Tryd.underlying26 Tryd.underlying3 (by kernel_rfl) (by kernel_rfl) f hlt w
      have b1 := lt_no (H1.out j hlt).1
      have b2 := lt_no (H1.out j hlt).2
      clear d1 d2 d3 d4 d5 d6 d7 d8 d9 d10
      go_wp2
      go_round
      case rel => exact ⟨j + 1, by omega, by go_num⟩
      case measure => simp [intOf]; omega
    · obtain rfl : j = 8 := by omega
      go_wp2_with ((refine wpList_on (o := ⟨_, .load 26 _, _, _, _, _⟩) rfl (fun K hK => ?_)); (try simp only [Act.put, List.setIfInBounds_toArray, List.set_cons_zero, List.set_cons_succ]); refine wp_load_part (n := 8) H 26 _ rfl rfl (by repeat (first | exact List.mem_cons_self | apply List.mem_cons_of_mem | apply List.mem_append_right)) (by kernel_rfl) (by rw [memA_size]; omega) (memA_past _ _) ?_; refine hK _ _ ?_; clear hK K)
      go_loop [24] (fun c => ∃ j : Nat, j ≤ 8 ∧ c = .int .i64 j) (fun c => 8 - (intOf c).toNat)
      case atStart => exact ⟨0, by omega, rfl⟩
      case round =>
        obtain ⟨j, hj, rfl⟩ := hrel
        by_cases hlt : j < 8
        · have hix := fun w => run_index_row (P := Tryd.prog) (n := 8) (i := j) Tryd.underlying26 Tryd.underlying3 (by kernel_rfl) (by kernel_rfl) (pstM f) hlt w
          have c1 := fun w => concealSat_in (pstM f j) w (H2.out j hlt)
          have C1 := Lib.hid c1
          clear c1 d1 d2 d3 d4 d5 d6 d7 d8 d9 d10
          go_wp2_with (go_at_call 52; (with_reducible refine (C1.out _).mono ?_); rintro e w1 ⟨rfl, rfl⟩)
          go_round
          case rel => exact ⟨j + 1, by omega, by go_num⟩
          case measure => simp [intOf]; omega
        · obtain rfl : j = 8 := by omega
          go_wp2_with ((refine wpList_on (o := ⟨_, .load 27 _, _, _, _, _⟩) rfl (fun K hK => ?_)); (try simp only [Act.put, List.setIfInBounds_toArray, List.set_cons_zero, List.set_cons_succ]); refine wp_load_part (n := 80) H 27 _ rfl rfl (by repeat (first | exact List.mem_cons_self | apply List.mem_cons_of_mem | apply List.mem_append_right)) (by kernel_rfl) (by rw [memA_size]; omega) (memA_exc _ _) ?_; refine hK _ _ ?_; clear hK K)
          go_loop [34] (fun c => ∃ j : Nat, j ≤ 80 ∧ c = .int .i64 j) (fun c => 80 - (intOf c).toNat)
          case atStart => exact ⟨0, by omega, rfl⟩
          case round =>
            obtain ⟨j, hj, rfl⟩ := hrel
            by_cases hlt : j < 80
            · have hix := fun w => run_index_row (P := Tryd.prog) (n := 80) (i := j) Tryd.underlying27 Tryd.underlying3 (by kernel_rfl) (by kernel_rfl) (excM f) hlt w
              have c1 := fun w => concealSat_in (excM f j) w (H3.out j hlt)
              have C1 := Lib.hid c1
              clear c1 d1 d2 d3 d4 d5 d6 d7 d8 d9 d10
              go_wp2_with (go_at_call 52; (with_reducible refine (C1.out _).mono ?_); rintro e w1 ⟨rfl, rfl⟩)
              go_round
              case rel => exact ⟨j + 1, by omega, by go_num⟩
              case measure => simp [intOf]; omega
            · obtain rfl : j = 80 := by omega
              go_wp2_with ((refine wpList_on (o := ⟨_, .load 3 _, _, _, _, _⟩) rfl (fun K hK => ?_)); (try simp only [Act.put, List.setIfInBounds_toArray, List.set_cons_zero, List.set_cons_succ]); refine wp_load_one H 3 _ rfl rfl (by repeat (first | exact List.mem_cons_self | apply List.mem_cons_of_mem | apply List.mem_append_right)) (by kernel_rfl) (memA_get _ _ (by omega)) ?_; refine hK _ _ ?_; clear hK K)
              go_ret
              exact ⟨rfl, H.below⟩
/-- Seeds and noise one behind the other. -/
def sdN (s : Int) : Nat → Int
  | 0 => s
  | k + 1 => seedN (sdN s k)
def noiseF (s size : Int) (i : Nat) : Int := noiseN (sdN s i) size
def NoisePost (s size : Int) (w : World) (e : Ending) (w' : World) : Prop := ∃ g, e = .returned (.tuple #[.int .i64 (sdN s 40), .slice (some ⟨g, 0, none⟩) 40 40]) ∧ Has w w' [(g, 3, row 40 (noiseF s size))]
set_option maxHeartbeats 1600000 in
theorem noise_any (s size : Int) (w : World) :
    Calls Tryd.prog 85 #[.int .i64 s, .int .i64 size, .int .i64 40] w (NoisePost s size w) := by
  have H := Has.start w
  go_enter Tryd.func85, Tryd.ntmps85
  go_wp2_with ((refine wpList_on (o := ⟨some 11, .makeSlice _ _ _, _, _, _, _⟩) rfl (fun K hK => ?_)); refine wp_make_has (t_ := 35) (e := 3) H _ _ rfl 40 .i64 .i64 rfl rfl ?_ ?_ ?_ ?_ ?_; (kernel_rfl); (kernel_rfl); (omega); (omega); (clear H; intro u g H; refine hK _ _ ?_; clear hK K; try simp only [Value.cells, List.cons_append, List.nil_append] at H))
  simp only [show (40 : Int).toNat = 40 from rfl] at *
  go_loopw [0, 14] (fun x c wr => ∃ k : Nat, k ≤ 40 ∧ c = .int .i64 k ∧ x = .int .i64 (sdN s k) ∧ Has w wr [(g, 3, row 40 fun i => if i < k then noiseF s size i else 0)]) (fun _ c _ => 40 - (intOf c).toNat)
  case atStart => exact ⟨0, by omega, rfl, rfl, by simpa using H⟩
  clear H
  case round =>
    obtain ⟨k, hk, rfl, rfl, H⟩ := hrel
    by_cases hlt : k < 40
    · have HE : Hid (row 40 (fun i => if i < k + 1 then noiseF s size i else 0) = row 40 (fun j => if j = k then noiseN (sdN s k) size else if j < k then noiseF s size j else 0)) := row_congr fun i hi => by
        by_cases e : i = k
        · subst e; simp [noiseF]
        · have : i < k + 1 ↔ i < k := by omega
          simp [e, this]
      go_wp2_with (first | (go_at_call 102; (with_reducible refine (Noise_any _ _ _).mono ?_); rintro e w1 ⟨rfl, rfl⟩) | ((refine wpList_on (o := ⟨_, .store 3 _ _, _, _, _, _⟩) rfl (fun K hK => ?_)); (try simp only [Act.put, List.setIfInBounds_toArray, List.set_cons_zero, List.set_cons_succ]); refine wp_store_row_ (l1 := []) H 3 _ _ rfl rfl rfl (by kernel_rfl) (by omega) ?_; clear H; intro u H; refine hK _ _ ?_; clear hK K; try simp only [Value.cells, List.cons_append, List.nil_append] at H))
      go_roundw
      case rel => exact ⟨k + 1, by omega, by go_num, rfl, by rw [HE.out]; exact H⟩
      case measure => simp [intOf]; omega
    · obtain rfl : k = 40 := by omega
      have HE : Hid (row 40 (fun i => if i < 40 then noiseF s size i else 0) = row 40 (noiseF s size)) := row_congr fun i hi => if_pos hi
      rw [HE.out] at H
      go_wp2
      go_ret2
      exact ⟨g, rfl, H⟩
end Go.Proofs.YtcoicmbjoaonoaaDoor
/-
  An encoder's cells: high pass, input, memory. No statement is proved here.
-/
namespace Go.Proofs.YtcoicmbjoaonoaaDoor
set_option linter.unusedVariables false
set_option linter.unusedSimpArgs false
open Go.RowKit
set_option maxRecDepth 100000
def encC (q n f : Nat → Int) (s : Bool) (i : Nat) : Value := if i < 4 then .int .i64 (q i) else if i < 124 then .int .i64 (n (i - 4)) else memC f s (i - 124)
def encA (q n f : Nat → Int) (s : Bool) : Array Value := rowV 226 (encC q n f s)
theorem encA_size (q n f : Nat → Int) (s : Bool) : (encA q n f s).size = 226 := rowV_size _ _
theorem encA_congr {q q' n n' f : Nat → Int} {s : Bool} (h : ∀ i, i < 4 → q i = q' i) (h' : ∀ i, i < 120 → n i = n' i) : encA q n f s = encA q' n' f s := rowV_congr fun i hi => by
  unfold encC
  by_cases a : i < 4
  · rw [if_pos a, if_pos a, h i a]
  · rw [if_neg a, if_neg a]
    by_cases b : i < 124
    · rw [if_pos b, if_pos b, h' _ (by omega)]
    · rw [if_neg b, if_neg b]
theorem encA_high (q n f : Nat → Int) (s : Bool) : (encA q n f s).extract 0 (0 + 4) = row 4 q := by
  unfold encA
  rw [rowV_extract _ (by omega), row_rowV]
  refine rowV_congr fun i hi => ?_
  unfold encC
  rw [if_pos (by omega), Nat.zero_add]
theorem encA_mem (q n f : Nat → Int) (s : Bool) : (encA q n f s).extract 124 (124 + 102) = memA f s := by
  unfold encA
  rw [rowV_extract _ (by omega)]
  refine rowV_congr fun i hi => ?_
  unfold encC
  rw [if_neg (by omega), if_neg (by omega), show 124 + i - 124 = i by omega]
theorem encA_get (q n f : Nat → Int) (s : Bool) {i : Nat} (h : i < 120) : (encA q n f s)[4 + i]? = some (.int .i64 (n i)) := by
  unfold encA
  rw [rowV_get _ (by omega)]
  unfold encC
  rw [if_neg (by omega), if_pos (by omega), show 4 + i - 4 = i by omega]
theorem encA_putH (q n f g : Nat → Int) (s : Bool) : patch (encA q n f s) 0 (row 4 g).toList = encA g n f s := by
  unfold encA
  rw [row_rowV, rowV_patch _ _ (by omega)]
  refine rowV_congr fun i hi => ?_
  unfold encC
  by_cases a : i < 4
  · rw [if_pos (by omega), if_pos a]; rfl
  · rw [if_neg (by omega), if_neg a, if_neg a]
theorem encA_putM (q n f g : Nat → Int) (s t : Bool) : patch (encA q n f s) 124 (memA g t).toList = encA q n g t := by
  unfold encA memA
  rw [rowV_patch _ _ (by omega)]
  refine rowV_congr fun i hi => ?_
  unfold encC
  by_cases a : i < 124
  · rw [if_neg (by omega)]
    by_cases b : i < 4
    · rw [if_pos b, if_pos b]
    · rw [if_neg b, if_neg b, if_pos a, if_pos a]
  · rw [if_pos (by omega), if_neg (by omega), if_neg a]
theorem encA_copy (q n f g : Nat → Int) (s : Bool) {k m : Nat} (h : k + m ≤ 120) : patch (encA q n f s) (4 + k) (cellsL m fun i => .int .i64 (g i)) = encA q (fun i => if k ≤ i ∧ i < k + m then g (i - k) else n i) f s := by
  unfold encA
  rw [← row_cellsL, row_rowV, rowV_patch _ _ (by omega)]
  refine rowV_congr fun i hi => ?_
  unfold encC
  by_cases b : i < 4
  · rw [if_neg (by omega), if_pos b, if_pos b]
  · rw [if_neg b, if_neg b]
    by_cases a : i < 124
    · rw [if_pos a, if_pos a]
      by_cases c : k ≤ i - 4 ∧ i - 4 < k + m
      · rw [if_pos (by omega)]
        dsimp only
        rw [if_pos c, show i - (4 + k) = i - 4 - k by omega]
      · rw [if_neg (by omega)]
        dsimp only
        rw [if_neg c]
    · rw [if_neg (by omega), if_neg a, if_neg a]
theorem encA_one (q n f : Nat → Int) (s : Bool) : (encA q n f s).all (·.oneCell') = true := by
  unfold encA rowV
  simp only [List.all_toArray, List.all_eq_true, List.mem_map, List.mem_range]
  rintro v ⟨i, _, rfl⟩
  unfold encC memC
  split
  · rfl
  · split
    · rfl
    · split <;> rfl
theorem memA_oneV (f : Nat → Int) (s : Bool) : ∀ v ∈ (memA f s).toList, v.oneCell' = true := by
  intro v hv
  exact List.all_eq_true.1 (by simpa using memA_one f s) v hv
/-- The input with a frame more. -/
def inpF (n c : Nat → Int) (i : Nat) : Int := if i < 40 then n (80 + i) else c (i - 40)
def inp1 (n : Nat → Int) (i : Nat) : Int := if i < 40 then n (80 + i) else n i
theorem encA_copy1 (q n f : Nat → Int) (s : Bool) : patch (encA q n f s) 4 (cellsL 40 fun i => .int .i64 (n (80 + i))) = encA q (inp1 n) f s :=
  (encA_copy q n f (fun i => n (80 + i)) s (k := 0) (m := 40) (by omega)).trans (encA_congr (fun _ _ => rfl) fun i hi => by
    unfold inp1
    by_cases a : i < 40
    · rw [if_pos (by omega), if_pos a]; rfl
    · rw [if_neg (by omega), if_neg a])
theorem encA_copy2 (q n f c : Nat → Int) (s : Bool) : patch (encA q (inp1 n) f s) 44 (cellsL 80 fun i => .int .i64 (c i)) = encA q (inpF n c) f s :=
  (encA_copy q (inp1 n) f c s (k := 40) (m := 80) (by omega)).trans (encA_congr (fun _ _ => rfl) fun i hi => by
    unfold inpF inp1
    by_cases a : i < 40
    · rw [if_neg (by omega), if_pos a, if_pos a]
    · rw [if_pos (by omega), if_neg a])
theorem encA_at {q n f : Nat → Int} {s : Bool} {k i : Nat} (h : k = 4 + i) (hi : i < 120) : (encA q n f s)[k]? = some (.int .i64 (n i)) := by
  subst h
  exact encA_get q n f s hi
theorem encA_bool (q n f : Nat → Int) (s : Bool) : (encA q n f s)[225]? = some (.bool s) := by
  unfold encA
  rw [rowV_get _ (by omega)]
  unfold encC
  rw [if_neg (by omega), if_neg (by omega)]; rfl
theorem Has.liesE {w u : World} {g cap : Nat} {t : TypeId} {q n f : Nat → Int} {s : Bool} {bs : List (Nat × TypeId × Array Value)} (H : Has w u bs) (hm : (g, t, encA q n f s) ∈ bs) : Lies u (.slice (some ⟨g, 4, none⟩) 120 cap) 120 n :=
  ⟨_, cap, g, 4, rfl, ⟨fun _ => rfl, fun i hi => by rw [(H.at_ hm).cell]; exact encA_get q n f s hi⟩⟩
theorem results_has4 {P : Program} {w0 u : World} {bs : List (Nat × TypeId × Array Value)} {g : Nat} {t : TypeId} {cs : Array Value} {fn : Func} {p v v' v'' : Tmp} {ty : TypeId} (h : fn.results = #[.cell p ty, .tmp v, .tmp v', .tmp v'']) (tmps : Array Value) (H : Has w0 u bs) (hp : tmps.getD p undef = .pointer (some ⟨g, 0, none⟩)) (hm : (g, t, cs) ∈ bs) (ha : aggOf P ty cs.size = true) :
    (results fn tmps).run P u = .ok (.tuple #[.agg cs, tmps.getD v undef, tmps.getD v' undef, tmps.getD v'' undef]) u := by
  obtain ⟨d, h1, h2, h3⟩ := aggOf_parts ha
  simp only [results, h]
  simp [Sem.run_bind, Result.andThen, asAddr]
  have hp' : tmps[p]?.getD undef = .pointer (some ⟨g, 0, none⟩) := by simpa using hp
  rw [hp']
  simp [run_loadVar_row u g t ty cs (0, 0) d (H.at_ hm) h1 (by cases d <;> simp_all) h3]
structure EncOk (q n f : Nat → Int) : Prop where
  high : ∀ i, i < 4 → In16 (q i)
  inp : ∀ i, i < 120 → In16 (n i)
  mem : GoodM f
end Go.Proofs.YtcoicmbjoaonoaaDoor
namespace Go.Proofs.YtcoicmbjoaonoaaDoor
set_option linter.unusedVariables false
set_option linter.unusedSimpArgs false
open Go.RowKit
set_option maxRecDepth 100000

def mixOne (a b n : Int) : Int := (a * (4 - n) + b * n).tdiv 4
def mixTo (a b : Nat → Int) (n : Int) (k : Nat) : Nat → Int := fun i => if i < k then mixOne (a i) (b i) n else 0

theorem mix_any (a b : Nat → Int) (n : Int) (w : World) (h0 : 0 ≤ n) (h4 : n ≤ 4) (ha : ∀ i, i < 8 → -32768 < a i ∧ a i < 32768) (hb : ∀ i, i < 8 → -32768 < b i ∧ b i < 32768) :
    Calls Tryd.prog 64 #[.agg (row 8 a), .agg (row 8 b), .int .i64 n] w fun e w' =>
      e = .returned (.tuple #[.agg (row 8 fun i => mixOne (a i) (b i) n), .int .i64 0]) ∧ Below w.heap.size w w' := by
  have HA := Lib.hid ha
  have HB := Lib.hid hb
  clear ha hb
  go_enter Tryd.func64, Tryd.ntmps64
  go_wp2
  go_loopw [17] (fun i wr => ∃ k : Nat, k ≤ 8 ∧ i = .int .i64 k ∧ At wr w.heap.size 26 (row 8 a) ∧ At wr (w.heap.size + 1) 26 (row 8 b) ∧ At wr (w.heap.size + 1 + 1) 26 (row 8 fun _ => 0)
      ∧ At wr (w.heap.size + 1 + 1 + 1) 26 (row 8 (mixTo a b n k)) ∧ Below w.heap.size w wr) (fun i _ => 8 - (intOf i).toNat)
  case atStart =>
    refine ⟨0, by omega, rfl, ?_, ?_, ?_, ?_, ?_⟩
    · exact (((At.new _ _ _).alloc _).alloc _).alloc _
    · exact ((At.new_ (by simp)).alloc _).alloc _
    · exact (At.new_ (by simp)).alloc _
    · exact At.new_ (by simp)
    · exact ((((Below.refl _ _).alloc (by simp) _).alloc (by simp) _).alloc (by simp <;> omega) _).alloc (by simp <;> omega) _
  case round =>
    obtain ⟨k, hk, rfl, hA, hB, hR, hO, hW⟩ := hrel
    by_cases hlt : k < 8
    · have ca := hA.cellRow hlt
      have cb := hB.cellRow hlt
      have co := hO.cellRow hlt
      have fo := hO.frozen k
      obtain ⟨ba1, ba2⟩ := HA.out k hlt
      obtain ⟨bb1, bb2⟩ := HB.out k hlt
      obtain ⟨m1, m2⟩ := mul_bd (a k) (4 - n) 32768 4 (by omega) (by omega) (by omega) (by omega)
      obtain ⟨m3, m4⟩ := mul_bd (b k) n 32768 4 (by omega) (by omega) (by omega) (by omega)
      go_wp2
      go_region
      all_goals go_wp2
      all_goals go_roundw
      case rel =>
        refine ⟨k + 1, by omega, by go_num, (hA.far (by simp <;> omega) _).drew, (hB.far (by simp <;> omega) _).drew, (hR.far (by simp <;> omega) _).drew, ?_, (hW.setCell (by simp <;> omega) _).drew⟩
        have := hO.set_ k (.int .i64 (mixOne (a k) (b k) n))
        rw [row_set_to (g := mixTo a b n (k + 1))] at this
        · exact this.drew
        · intro i hi
          unfold mixTo
          by_cases e : i = k
          · subst e; simp
          · have : i < k + 1 ↔ i < k := by omega
            simp [e, this]
      case measure => simp [intOf]; omega
    · obtain rfl : k = 8 := by omega
      go_wp2_with (first | (refine wpList_load_row rfl 26 (.tmp 8) rfl _ rfl _ _ _ _ hO Tryd.underlying26 rfl (by kernel_rfl) ?_) | (refine wpList_store_row rfl 26 (.tmp 6) (.tmp 59) rfl _ _ rfl rfl _ _ hR (by kernel_rfl) (by simp [row_size]) (row_one _ _) ?_))
      have hR' := At.setRow hR (row 8 (mixTo a b n 8))
      refine bodyPost_ret (results_at rfl _ rfl hR' Tryd.underlying26 rfl (by kernel_rfl)) rfl ⟨?_, ?_⟩
      · rw [row_congr (g := fun i => mixOne (a i) (b i) n) (fun i hi => by simp [mixTo, hi])]; rfl
      · exact below_setRow hW (by omega) _
end Go.Proofs.YtcoicmbjoaonoaaDoor
