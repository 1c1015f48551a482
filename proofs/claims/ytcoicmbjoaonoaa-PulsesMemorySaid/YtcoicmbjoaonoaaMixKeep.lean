/-
  conceal: sat, Mix, Keep walked. No statement is proved here.
-/
import Derived.Test.YtcoicmbjoaonoaaParts
import Derived.Test.YtcoicmbjoaonoaaLists
import Derived.Test.YtcoicmbjoaonoaaRegTwo
import Derived.Test.YtcoicmbjoaonoaaSynthLaw
import Derived.Test.YtcoicmbjoaonoaaLies
import Derived.Test.YtcoicmbjoaonoaaPast
namespace Go.Proofs.Ytcoicmbjoaonoaa
open Go.RowKit
theorem concealSat_any (x : Int) (w : World) : Calls Try.prog 45 #[.int .i64 x] w fun e w' => e = .returned (.int .i64 (sat16 x)) ∧ w = w' := by
  go_enter Try.func45, Try.ntmps45
  go_wp2_with (go_at_call 47; (with_reducible refine (Sat16_any _ _).mono ?_); rintro e w1 ⟨rfl, rfl⟩)
  go_ret
  exact ⟨rfl, rfl⟩
theorem concealSat_in (x : Int) (w : World) (h : In16 x) : Calls Try.prog 45 #[.int .i64 x] w fun e w' => e = .returned (.int .i64 x) ∧ w = w' := by
  have := concealSat_any x w
  rw [sat16_in h] at this; exact this
def mixF (h : Nat → Int) (L : Nat) (g : Int) (x : Nat → Int) (i : Nat) : Int := sat16 ((sat16 (pastF h L i) * g + 8192) / 16384 + sat16 (x i))
theorem mixF_bd (h : Nat → Int) (L : Nat) (g : Int) (x : Nat → Int) (i : Nat) : In16 (mixF h L g x i) := sat16_bd _
def MixPost (h : Nat → Int) (L : Nat) (g : Int) (x : Nat → Int) (w : World) (e : Ending) (w' : World) : Prop := ∃ gv, e = .returned (.tuple #[.slice (some ⟨gv, 0, none⟩) 40 40, .int .i64 0]) ∧ Has w w' [(gv, 3, row 40 (mixF h L g x))]
set_option maxHeartbeats 3200000 in
theorem Mix_any (h x : Nat → Int) (L : Nat) (g : Int) {v : Value} {w : World} (hL0 : 20 ≤ L) (hL1 : L ≤ 79) (hg0 : 0 ≤ g) (hg1 : g ≤ 32767) (LX : Lies w v 40 x) :
    Calls Try.prog 22 #[.agg (row 80 h), .int .i64 L, .int .i64 g, v] w (MixPost h L g x w) := by
  obtain ⟨P, cap, gx, ox, rfl, hR⟩ := LX
  obtain rfl := hR.ptr (by omega)
  have H := Has.start w
  have d1 := lt_no hg0
  have d2 := lt_no hg1
  go_enter Try.func22, Try.ntmps22
  go_wp2_with (first | ((refine wpList_on (o := ⟨_, .box _ (.tmp 0), _, _, _, _⟩) rfl (fun K hK => ?_)); refine wp_box H _ (.tmp 0) rfl (v := .agg _) rfl ?_; clear H; intro u gh H; refine hK _ _ ?_; clear hK K; try simp only [Value.cells, List.cons_append, List.nil_append] at H) | ((refine wpList_on (o := ⟨_, .load 54 _, _, _, _, _⟩) rfl (fun K hK => ?_)); refine wp_load_all H 54 _ rfl rfl (by repeat (first | exact List.mem_cons_self | apply List.mem_cons_of_mem | apply List.mem_append_right)) (by kernel_rfl) ?_; refine hK _ _ ?_; clear hK K) | (go_at_call 24; (with_reducible refine (Past_any h L _ hL0 hL1).mono ?_); rintro e w1 ⟨gv, rfl, hb⟩; replace H := H.join hb; clear hb; (try simp only [List.cons_append, List.nil_append] at H)))
  clear d1 d2
  have H' : Has w w1 [(gv, 3, row 40 (pastF h L))] := H.sub (by repeat (first | exact List.Sublist.refl _ | exact List.nil_sublist _ | apply List.Sublist.cons_cons | apply List.Sublist.cons))
  clear H
  replace H := H'
  clear H'
  go_loopw [34] (fun c wr => ∃ k : Nat, k ≤ 40 ∧ c = .int .i64 k ∧ Has w wr [(gv, 3, row 40 fun i => if i < k then mixF h L g x i else pastF h L i)]) (fun c _ => 40 - (intOf c).toNat)
  case atStart => exact ⟨0, by omega, rfl, by simpa using H⟩
  clear H
  case round =>
    obtain ⟨k, hk, rfl, H⟩ := hrel
    by_cases hlt : k < 40
    · have R := Reads.has hR H
      have q1 : (k : Int) < 40 := by omega
      have HE : Hid (row 40 (fun i => if i < k + 1 then mixF h L g x i else pastF h L i) = row 40 (fun j => if j = k then mixF h L g x k else if j < k then mixF h L g x j else pastF h L j)) := row_congr fun i hi => by
        by_cases e : i = k
        · subst e; simp
        · have : i < k + 1 ↔ i < k := by omega
          simp [e, this]
      have e0 : (if k < k then mixF h L g x k else pastF h L k) = pastF h L k := by simp
      have HM : Hid (sat16 ((sat16 (pastF h L k) * g + 8192) / 16384 + sat16 (x k)) = mixF h L g x k) := rfl
      have c1 := fun w : World => concealSat_any (pastF h L k) w
      have c2 := fun w : World => concealSat_any (x k) w
      have b1 := sat16_bd (pastF h L k)
      have b2 := sat16_bd (x k)
      obtain ⟨b3, b4⟩ := b2
      obtain ⟨m1, m2⟩ := mul_bd (sat16 (pastF h L k)) g 32768 32767 (by omega) (by omega) (by omega) (by omega)
      generalize sat16 (pastF h L k) = X at *
      generalize sat16 (x k) = Y at *
      have s1 : IntKind.i64.wrap (X * g) = X * g := IntWalk.i64_in _ (by omega)
      have c3 := fun w : World => concealSat_any ((X * g + 8192) / 16384 + Y) w
      rw [HM.out] at c3
      have C1 := Lib.hid c1
      have C2 := Lib.hid c2
      have C3 := Lib.hid c3
      clear c1 c2 c3 b1
      go_wp2_with (first | ((refine wpList_on (o := ⟨_, .load 3 _, _, _, _, _⟩) rfl (fun K hK => ?_)); refine wp_load_num R 3 _ rfl rfl (by kernel_rfl) hlt ?_; refine hK _ _ ?_; clear hK K) | ((refine wpList_on (o := ⟨_, .load 3 _, _, _, _, _⟩) rfl (fun K hK => ?_)); refine wp_load_one H 3 _ rfl rfl (by repeat (first | exact List.mem_cons_self | apply List.mem_cons_of_mem | apply List.mem_append_right)) (by kernel_rfl) (row_get _ (by omega)) ?_; refine hK _ _ ?_; clear hK K) | (go_at_call 45; (with_reducible refine (C1.out _).mono ?_); rintro e w1 ⟨rfl, rfl⟩) | (go_at_call 45; (with_reducible refine (C2.out _).mono ?_); rintro e w1 ⟨rfl, rfl⟩) | (go_at_call 45; (with_reducible refine (C3.out _).mono ?_); rintro e w1 ⟨rfl, rfl⟩) | ((refine wpList_on (o := ⟨_, .store 3 _ _, _, _, _, _⟩) rfl (fun K hK => ?_)); refine wp_store_row_ (l1 := []) H 3 _ _ rfl rfl rfl (by kernel_rfl) (by omega) ?_; clear H; intro u H; refine hK _ _ ?_; clear hK K; try simp only [Value.cells, List.cons_append, List.nil_append] at H))
      go_roundw
      case rel => exact ⟨k + 1, by omega, by go_num, by rw [HE.out]; exact H⟩
      case measure => simp [intOf]; omega
    · obtain rfl : k = 40 := by omega
      have HE : Hid (row 40 (fun i => if i < 40 then mixF h L g x i else pastF h L i) = row 40 (mixF h L g x)) := row_congr fun i hi => if_pos hi
      rw [HE.out] at H
      go_wp2
      go_ret2
      exact ⟨gv, rfl, H⟩
/-- The last excitation with forty samples more behind it. -/
def keepF (h x : Nat → Int) (i : Nat) : Int := if i < 40 then h (40 + i) else sat16 (x (i - 40))
set_option maxHeartbeats 3200000 in
theorem Keep_any (h x : Nat → Int) {v : Value} {w : World} (LX : Lies w v 40 x) :
    Calls Try.prog 23 #[.agg (row 80 h), v] w fun e w' => e = .returned (.tuple #[.agg (row 80 (keepF h x)), .int .i64 0]) ∧ Below w.heap.size w w' := by
  obtain ⟨P, cap, gx, ox, rfl, hR⟩ := LX
  obtain rfl := hR.ptr (by omega)
  have H := Has.start w
  go_enter Try.func23, Try.ntmps23
  go_wp2_with (first | ((refine wpList_on (o := ⟨_, .box _ (.tmp 0), _, _, _, _⟩) rfl (fun K hK => ?_)); refine wp_box H _ (.tmp 0) rfl (v := .agg _) rfl ?_; clear H; intro u gh H; refine hK _ _ ?_; clear hK K; try simp only [Value.cells, List.cons_append, List.nil_append] at H) | (refine wpList_on (o := ⟨some 4, .alloc 54, _, _, _, _⟩) rfl (fun K hK => ?_); refine wp_alloc H 54 rfl (z := (.agg (row 80 fun _ => 0))) (by kernel_rfl) ?_; clear H; intro u gr H; refine hK _ _ ?_; clear hK K; try simp only [Value.cells, List.cons_append, List.nil_append] at H))
  refine wp_region_ordB [] [(0, 0), (1, 0), (2, 4)] (fun w' => Has w w' []) [] [[0, 1, 2]] (by kernel_rfl) (by kernel_rfl) (by kernel_rfl) ?_; replace H := H.drew; generalize World.drew _ = u at *; simp only [List.forall_mem_cons, List.not_mem_nil, false_imp_iff, implies_true, and_true]; (repeat' refine And.intro ?_ ?_)
  repeat (first | (refine sq_free (o := ⟨_, _, _, _, _, _⟩) (v := ?_) rfl rfl rfl ?_ ?_; rotate_left; (intro w'; go_simp; try with_reducible rfl); simp only [Act.put, List.setIfInBounds_toArray, List.set_cons_zero, List.set_cons_succ]) | (refine sq_eff (o := ⟨_, .call { callee := .builtin .copy, args := #[_, _], argTypes := #[24, 24] }, _, _, _, _⟩) rfl rfl rfl (fun K hK => ?_); refine wp_copy_has (l1 := [_]) H _ _ 24 24 3 rfl (m := 40) (nw := fun i => h (40 + i)) rfl rfl (by kernel_rfl) rfl (fun j hj => by rw [Addr.add_mid, (H.at_ (by repeat (first | exact List.mem_cons_self | apply List.mem_cons_of_mem | apply List.mem_append_right))).cell]; exact row_get h (by omega)) (by rw [row_size]; omega) (row_patchL h _ (by omega)) ?_; clear H; intro u H; refine hK _ _ ?_; clear hK K; simp only [Act.put, List.setIfInBounds_toArray, List.set_cons_zero, List.set_cons_succ]))
  refine sq_nil ?_
  have HE0 : Hid (row 80 (fun i => if 0 ≤ i ∧ i < 0 + 40 then (fun i => h (40 + i)) (i - 0) else h i) = row 80 (fun i => if i < 40 then h (40 + i) else if i < 40 + 0 then sat16 (x (i - 40)) else h i)) := row_congr fun i hi => by
    by_cases e : i < 40
    · rw [if_pos ⟨by omega, by omega⟩, if_pos e]; rfl
    · rw [if_neg (fun hh => e (by omega)), if_neg e, if_neg (by omega)]
  rw [HE0.out] at H
  clear HE0
  generalize goInt _ = zz
  go_wp2
  go_loopw [17] (fun c wr => ∃ k : Nat, k ≤ 40 ∧ c = .int .i64 k ∧ Has w wr [(gr, 54, row 80 fun _ => 0), (gh, 54, row 80 fun i => if i < 40 then h (40 + i) else if i < 40 + k then sat16 (x (i - 40)) else h i)]) (fun c _ => 40 - (intOf c).toNat)
  case atStart => exact ⟨0, by omega, rfl, H⟩
  clear H
  case round =>
    obtain ⟨k, hk, rfl, H⟩ := hrel
    by_cases hlt : k < 40
    · have R := Reads.has hR H
      have q1 : (k : Int) < 40 := by omega
      have HE : Hid (row 80 (fun i => if i < 40 then h (40 + i) else if i < 40 + (k + 1) then sat16 (x (i - 40)) else h i) = row 80 (fun j => if j = 40 + k then sat16 (x k) else if j < 40 then h (40 + j) else if j < 40 + k then sat16 (x (j - 40)) else h j)) := row_congr fun i hi => by
        by_cases e : i = 40 + k
        · rw [if_neg (by omega), if_pos (by omega), if_pos e, show i - 40 = k by omega]
        · rw [if_neg e]
          by_cases e2 : i < 40
          · rw [if_pos e2, if_pos e2]
          · rw [if_neg e2, if_neg e2]
            by_cases e3 : i < 40 + k
            · rw [if_pos e3, if_pos (by omega)]
            · rw [if_neg e3, if_neg (by omega)]
      go_wp2_with (first | ((refine wpList_on (o := ⟨_, .load 3 _, _, _, _, _⟩) rfl (fun K hK => ?_)); refine wp_load_num R 3 _ rfl rfl (by kernel_rfl) hlt ?_; refine hK _ _ ?_; clear hK K) | (go_at_call 45; (with_reducible refine (concealSat_any _ _).mono ?_); rintro e w1 ⟨rfl, rfl⟩) | ((refine wpList_on (o := ⟨_, .store 3 _ _, _, _, _, _⟩) rfl (fun K hK => ?_)); refine wp_store_row_ (l1 := [_]) H 3 _ _ rfl rfl rfl (by kernel_rfl) (by omega) ?_; clear H; intro u H; refine hK _ _ ?_; clear hK K; try simp only [Value.cells, List.cons_append, List.nil_append] at H))
      go_roundw
      case rel => exact ⟨k + 1, by omega, by go_num, by rw [HE.out]; exact H⟩
      case measure => simp [intOf]; omega
    · obtain rfl : k = 40 := by omega
      have HE : Hid (row 80 (fun i => if i < 40 then h (40 + i) else if i < 40 + 40 then sat16 (x (i - 40)) else h i) = row 80 (keepF h x)) := row_congr fun i hi => by
        unfold keepF
        by_cases e : i < 40
        · rw [if_pos e, if_pos e]
        · rw [if_neg e, if_neg e, if_pos (by omega)]
      rw [HE.out] at H
      go_wp2_with (first | ((refine wpList_on (o := ⟨_, .load 54 _, _, _, _, _⟩) rfl (fun K hK => ?_)); refine wp_load_all H 54 _ rfl rfl (by repeat (first | exact List.mem_cons_self | apply List.mem_cons_of_mem | apply List.mem_append_right)) (by kernel_rfl) ?_; refine hK _ _ ?_; clear hK K) | ((refine wpList_on (o := ⟨_, .store 54 _ _, _, _, _, _⟩) rfl (fun K hK => ?_)); refine wp_store_all (l1 := []) H 54 _ _ rfl rfl rfl (by kernel_rfl) (by simp [row_size]) (row_one _ _) ?_; clear H; intro u H; refine hK _ _ ?_; clear hK K; try simp only [Value.cells, List.cons_append, List.nil_append] at H))
      refine bodyPost_ret (results_has rfl _ H rfl (by repeat (first | exact List.mem_cons_self | apply List.mem_cons_of_mem | apply List.mem_append_right)) (by kernel_rfl)) rfl ⟨rfl, H.below⟩
end Go.Proofs.Ytcoicmbjoaonoaa
