/-
  Several texts of this claim, one behind the other: AllFew, Target. No statement is proved here.
-/
import Derived.Test.YtcoicmbjoaonoaaDoorZax
import Derived.Test.YtcoicmbjoaonoaaDoorZai
import Derived.Test.YtcoicmbjoaonoaaDoorZad
/-
  pulses: All and Few walked. No statement is proved here.
-/
namespace Go.Proofs.YtcoicmbjoaonoaaDoor
set_option linter.unusedVariables false
set_option linter.unusedSimpArgs false
open Go.RowKit
set_option maxRecDepth 100000
def Valid4 (x : Nat → Int) : Prop := ∀ i, i < 4 → 0 ≤ x i ∧ x i ≤ 9
theorem sC_congr {d x y : Nat → Int} (h : ∀ i, i < 4 → x i = y i) : sC d x = sC d y := scC_congr h
theorem sE_congr {d r x y : Nat → Int} (h : ∀ i, i < 4 → x i = y i) : sE d r x = sE d r y := scE_congr h
theorem all_best (d r : Nat → Int) : Valid4 (runS (sC d) (sE d r) digX 10000).at_ ∧ ∀ x, Valid4 x → betterB (sC d x) (sE d r x) (sC d (runS (sC d) (sE d r) digX 10000).at_) (sE d r (runS (sC d) (sE d r) digX 10000).at_) = false := by
  obtain ⟨⟨k, hk, e⟩, hb⟩ := runS_best (sC d) (sE d r) digX (n := 10000) (by omega)
  refine ⟨by rw [e]; exact digX_in k, fun x hx => ?_⟩
  obtain ⟨n, hn, hs⟩ := digX_of hx
  rw [sC_congr hs, sE_congr hs]
  exact hb n hn
theorem few_best (d r : Nat → Int) {now : Nat → Int} {t : Nat} (hnow : Valid4 now) (ht : t < 4) : Valid4 (runS (sC d) (sE d r) (onT now t) 10).at_ ∧ betterB (sC d now) (sE d r now) (sC d (runS (sC d) (sE d r) (onT now t) 10).at_) (sE d r (runS (sC d) (sE d r) (onT now t) 10).at_) = false := by
  obtain ⟨⟨k, hk, e⟩, hb⟩ := runS_best (sC d) (sE d r) (onT now t) (n := 10) (by omega)
  refine ⟨by rw [e]; exact onT_in hnow t k hk, ?_⟩
  obtain ⟨n, hn, hs⟩ := onT_self hnow ht
  rw [sC_congr hs, sE_congr hs]
  exact hb n hn
def FewPost (d r : Nat → Int) (w : World) (e : Ending) (w' : World) : Prop := ∃ (at_ : Nat → Int) (s : Int), Valid4 at_ ∧ 0 ≤ s ∧ s ≤ 15 ∧ betterB (sC d fun _ => 0) (sE d r fun _ => 0) (sC d at_) (sE d r at_) = false ∧ e = .returned (.tuple #[.agg (row 4 at_), .int .i64 s, .int .i64 0]) ∧ Below w.heap.size w w'
set_option maxHeartbeats 3200000 in
set_option maxRecDepth 100000 in
theorem Few_any (d r : Nat → Int) {v v' : Value} {w : World} (hd : ∀ i, i < 40 → -1099511627776 ≤ d i ∧ d i ≤ 1099511627776) (hr : ∀ i, i < 40 → In16 (r i)) (L : Lies w v 40 d) (L' : Lies w v' 40 r) :
    Calls Tryd.prog 76 #[v, v'] w (FewPost d r w) := by
  have H := Has.start w
  have hmf : ∀ (fn : Fn) (first cap : Array Value) (w : World), (Instr.makeFunc fn first cap).run Tryd.prog w = .ok (.func fn first cap) w := fun _ _ _ _ => rfl
  have CS := Lib.hid (fun (u : World) (h : Below w.heap.size w u) (now : Nat → Int) (t g7 g8 : Nat) (hnow : Valid4 now) (ht : t < 4) (hA : At u g7 39 (row 4 now)) (hB : At u g8 3 #[.int .i64 (t : Nat)]) => search_few d r hd hr (L.below h) (L'.below h) now t g7 g8 hnow ht hA hB)
  have CG := Lib.hid (fun (u : World) (h : Below w.heap.size w u) (x : Nat → Int) (hx : Valid4 x) => show Calls Tryd.prog 99 #[v, .agg (row 4 x)] u fun e w' => ∃ s : Int, 0 ≤ s ∧ s ≤ 15 ∧ e = .returned (.int .i64 s) ∧ Below u.heap.size u w' from by
    obtain ⟨P, cap, g, o, rfl, R⟩ := L.below h
    exact signs_any d x P cap g o u hx R)
  have HB := Lib.hid (fun (now : Nat → Int) (t : Nat) (hnow : Valid4 now) (ht : t < 4) => few_best d r hnow ht)
  have hz0 : Hid (Valid4 (fun _ => 0) ∧ betterB (sC d fun _ => 0) (sE d r fun _ => 0) (sC d fun _ => 0) (sE d r fun _ => 0) = false) := ⟨fun i _ => show (0 : Int) ≤ 0 ∧ (0 : Int) ≤ 9 by omega, nb_self _ _⟩
  clear hd hr L L'
  go_enter Tryd.func76, Tryd.ntmps76
  go_wp2_with (first | (refine wpList_on (o := ⟨some 4, .alloc 39, _, _, _, _⟩) rfl (fun K hK => ?_); refine wp_alloc H 39 rfl (z := (.agg (row 4 fun _ => 0))) (by kernel_rfl) ?_; clear H; intro u g4 H; refine hK _ _ ?_; clear hK K; try simp only [Value.cells, List.cons_append, List.nil_append] at H) | (refine wpList_on (o := ⟨some 7, .alloc 39, _, _, _, _⟩) rfl (fun K hK => ?_); refine wp_alloc H 39 rfl (z := (.agg (row 4 fun _ => 0))) (by kernel_rfl) ?_; clear H; intro u g7 H; refine hK _ _ ?_; clear hK K; try simp only [Value.cells, List.cons_append, List.nil_append] at H))
  go_loopw [12] (fun c wr => ∃ (k : Nat) (now : Nat → Int), k ≤ 2 ∧ c = .int .i64 k ∧ Hid (Valid4 now ∧ betterB (sC d fun _ => 0) (sE d r fun _ => 0) (sC d now) (sE d r now) = false) ∧ Has w wr [(g7, 39, row 4 now), (g4, 39, row 4 fun _ => 0)]) (fun c _ => 2 - (intOf c).toNat)
  case atStart => exact ⟨0, fun _ => 0, by omega, rfl, hz0, H⟩
  clear H hz0
  case round =>
    obtain ⟨k, now, hk, rfl, HV, H⟩ := hrel
    by_cases hlt : k < 2
    · have q0 : (k : Int) < 2 := by omega
      go_wp2
      go_loopw [14] (fun c wr => ∃ (t : Nat) (now : Nat → Int), t ≤ 4 ∧ c = .int .i64 t ∧ Hid (Valid4 now ∧ betterB (sC d fun _ => 0) (sE d r fun _ => 0) (sC d now) (sE d r now) = false) ∧ Has w wr [(g7, 39, row 4 now), (g4, 39, row 4 fun _ => 0)]) (fun c _ => 4 - (intOf c).toNat)
      case atStart => exact ⟨0, now, by omega, rfl, HV, H⟩
      clear H HV
      case round =>
        obtain ⟨t, now, ht, rfl, HV, H⟩ := hrel
        by_cases hlt2 : t < 4
        · have q1 : (t : Int) < 4 := by omega
          obtain ⟨b1, b2⟩ := HB.out now t HV.out.1 hlt2
          have HV2 : Hid (Valid4 (runS (sC d) (sE d r) (onT now t) 10).at_ ∧ betterB (sC d fun _ => 0) (sE d r fun _ => 0) (sC d (runS (sC d) (sE d r) (onT now t) 10).at_) (sE d r (runS (sC d) (sE d r) (onT now t) 10).at_) = false) := ⟨b1, nb_trans HV.out.2 b2⟩
          have cs := Lib.hid (fun (u : World) (h : Below w.heap.size w u) (g8 : Nat) (hA : At u g7 39 (row 4 now)) (hB : At u g8 3 #[.int .i64 (t : Nat)]) => CS.out u h now t g7 g8 HV.out.1 hlt2 hA hB)
          clear b1 b2
          generalize runS (sC d) (sE d r) (onT now t) 10 = SN at *
          go_wp2_with (first | (refine wpList_on (o := ⟨some 8, .alloc 3, _, _, _, _⟩) rfl (fun K hK => ?_); refine wp_alloc H 3 rfl (z := (.int .i64 0)) (by kernel_rfl) ?_; clear H; intro u g8 H; refine hK _ _ ?_; clear hK K; try simp only [Value.cells, List.cons_append, List.nil_append] at H) | ((refine wpList_on (o := ⟨_, .store 3 _ _, _, _, _, _⟩) rfl (fun K hK => ?_)); (try simp only [Act.put, List.setIfInBounds_toArray, List.set_cons_zero, List.set_cons_succ]); refine wp_store_one (l1 := []) (cs := #[.int .i64 0]) (v := .int .i64 (t : Nat)) (i := 0) H 3 _ _ rfl rfl rfl (by kernel_rfl) (by decide) rfl ?_; clear H; intro u H; refine hK _ _ ?_; clear hK K; replace H : Has w _ [(g8, 3, #[.int .i64 (t : Nat)]), (g7, 39, row 4 now), (g4, 39, row 4 fun _ => 0)] := H) | (go_at_call 97; (with_reducible refine (cs.out _ H.below g8 (H.at_ (by repeat (first | exact List.mem_cons_self | apply List.mem_cons_of_mem | apply List.mem_append_right))) (H.at_ (by repeat (first | exact List.mem_cons_self | apply List.mem_cons_of_mem | apply List.mem_append_right)))).mono ?_); rintro e w1 ⟨s, s0, s1, rfl, hb⟩; replace H := H.callee hb; clear hb) | (refine wpList_on (o := ⟨some 9, .alloc 39, _, _, _, _⟩) rfl (fun K hK => ?_); refine wp_alloc H 39 rfl (z := (.agg (row 4 fun _ => 0))) (by kernel_rfl) ?_; clear H; intro u g9 H; refine hK _ _ ?_; clear hK K; try simp only [Value.cells, List.cons_append, List.nil_append] at H) | ((refine wpList_on (o := ⟨_, .store 39 _ _, _, _, _, _⟩) rfl (fun K hK => ?_)); (try simp only [Act.put, List.setIfInBounds_toArray, List.set_cons_zero, List.set_cons_succ]); refine wp_store_all (l1 := [_, _]) H 39 _ _ rfl rfl rfl (by kernel_rfl) (by simp [row_size]) (row_one _ _) ?_; clear H; intro u H; refine hK _ _ ?_; clear hK K; try simp only [Value.cells, List.cons_append, List.nil_append] at H) | ((refine wpList_on (o := ⟨_, .store 39 _ _, _, _, _, _⟩) rfl (fun K hK => ?_)); (try simp only [Act.put, List.setIfInBounds_toArray, List.set_cons_zero, List.set_cons_succ]); refine wp_store_all (l1 := []) H 39 _ _ rfl rfl rfl (by kernel_rfl) (by simp [row_size]) (row_one _ _) ?_; clear H; intro u H; refine hK _ _ ?_; clear hK K; try simp only [Value.cells, List.cons_append, List.nil_append] at H) | ((refine wpList_on (o := ⟨_, .load 39 _, _, _, _, _⟩) rfl (fun K hK => ?_)); (try simp only [Act.put, List.setIfInBounds_toArray, List.set_cons_zero, List.set_cons_succ]); refine wp_load_all H 39 _ rfl rfl (by repeat (first | exact List.mem_cons_self | apply List.mem_cons_of_mem | apply List.mem_append_right)) (by kernel_rfl) ?_; refine hK _ _ ?_; clear hK K))
          exact ⟨⟨t + 1, _, by omega, by go_num, HV2, H.tail.tail⟩, by simp [intOf]; omega⟩
        · obtain rfl : t = 4 := by omega
          go_wp2
          go_roundw
          case rel => exact ⟨k + 1, now, by omega, by go_num, HV, H⟩
          case measure => simp [intOf]; omega
    · obtain rfl : k = 2 := by omega
      have cg := Lib.hid (fun (u : World) (h : Below w.heap.size w u) => CG.out u h now HV.out.1)
      go_wp2
      refine wp_region_ordB [] [] (fun w' => Has w w' [(g7, 39, row 4 now), (g4, 39, row 4 fun _ => 0)]) [] [[0, 1, 2, 3, 4, 5, 6]] (by kernel_rfl) (by kernel_rfl) (by kernel_rfl) ?_; replace H := H.drew; generalize World.drew _ = u at *; simp only [List.forall_mem_cons, List.not_mem_nil, false_imp_iff, implies_true, and_true]; (repeat' refine And.intro ?_ ?_)
      repeat (first | (refine sq_load_all (o := ⟨_, .load 39 _, _, _, _, _⟩) 39 _ rfl rfl rfl rfl rfl (H.sub (by repeat (first | exact List.Sublist.refl _ | exact List.nil_sublist _ | apply List.Sublist.cons_cons | apply List.Sublist.cons | refine List.Sublist.trans ?_ (List.sublist_append_right _ _)))) (by repeat (first | exact List.mem_cons_self | apply List.mem_cons_of_mem | apply List.mem_append_right)) (by kernel_rfl) ?_; simp only [Act.put, List.setIfInBounds_toArray, List.set_cons_zero, List.set_cons_succ]) | (refine sq_keep (o := ⟨_, .call _, _, _, _, _⟩) rfl rfl rfl (fun K hK => ?_); go_simp; (go_at_call 99; (with_reducible refine (cg.out _ H.below).mono ?_); rintro e w1 ⟨sg, s0, s1, rfl, hb⟩; replace H := H.callee hb; clear hb); refine hK _ _ (H.sub (by repeat (first | exact List.Sublist.refl _ | exact List.nil_sublist _ | apply List.Sublist.cons_cons | apply List.Sublist.cons | refine List.Sublist.trans ?_ (List.sublist_append_right _ _)))) ?_; clear hK K; try simp only [Act.put, List.setIfInBounds_toArray, List.set_cons_zero, List.set_cons_succ]) | (refine sq_eff (o := ⟨_, .store 39 _ _, _, _, _, _⟩) rfl rfl rfl (fun K hK => ?_); refine wp_store_all (l1 := [_]) H 39 _ _ rfl rfl rfl (by kernel_rfl) (by simp [row_size]) (row_one _ _) ?_; clear H; intro u H; (try simp only [Value.cells, List.cons_append, List.nil_append] at H); refine hK _ _ ?_; clear hK K; simp only [Act.put, List.setIfInBounds_toArray, List.set_cons_zero, List.set_cons_succ]) | (refine sq_free (o := ⟨_, _, _, _, _, _⟩) (v := ?_) rfl rfl rfl ?_ ?_; rotate_left; (intro w'; go_simp; try with_reducible rfl); simp only [Act.put, List.setIfInBounds_toArray, List.set_cons_zero, List.set_cons_succ]))
      refine sq_nil ?_
      go_wp2
      refine bodyPost_ret (results_has3 rfl _ H rfl (by repeat (first | exact List.mem_cons_self | apply List.mem_cons_of_mem | apply List.mem_append_right)) (by kernel_rfl)) rfl ⟨now, sg, HV.out.1, s0, s1, HV.out.2, rfl, H.below⟩
end Go.Proofs.YtcoicmbjoaonoaaDoor
/-
  pulses.Target walked. No statement is proved here.
-/
namespace Go.Proofs.YtcoicmbjoaonoaaDoor
set_option linter.unusedVariables false
set_option linter.unusedSimpArgs false
open Go.RowKit
set_option maxRecDepth 100000
def tgM (d r : Nat → Int) (n m : Nat) : Int := sumTo m (fun k => d (n + k) * r k)
def tgS (d r : Nat → Int) (n : Nat) : Int := tgM d r n (40 - n)
def tgP (d r : Nat → Int) (n m j : Nat) : Int := if j < n then tgS d r j else if j = n then tgM d r n m else 0
theorem tgM_bd {d r : Nat → Int} (hd : ∀ i, i < 40 → In16 (d i)) (hr : ∀ i, i < 40 → In16 (r i)) {n m : Nat} (h : n + m ≤ 40) : -(m * 1073741824) ≤ tgM d r n m ∧ tgM d r n m ≤ m * 1073741824 :=
  sumTo_bd m fun k hk => by
    have h1 := hd (n + k) (by omega)
    have h2 := hr k (by omega)
    unfold In16 at h1 h2
    exact mul_bd _ _ 32768 32768 (by omega) (by omega) (by omega) (by omega)
theorem tgS_bd {d r : Nat → Int} (hd : ∀ i, i < 40 → In16 (d i)) (hr : ∀ i, i < 40 → In16 (r i)) (n : Nat) (hn : n < 40) : -1099511627776 ≤ tgS d r n ∧ tgS d r n ≤ 1099511627776 := by
  have := tgM_bd hd hr (n := n) (m := 40 - n) (by omega)
  unfold tgS
  omega
theorem tgP_0 (d r : Nat → Int) : row 40 (fun _ => (0 : Int)) = row 40 (tgP d r 0 0) := row_congr fun j _ => by
  unfold tgP
  rw [if_neg (by omega)]
  split <;> rfl
theorem tgP_at (d r : Nat → Int) (n m : Nat) : tgP d r n m n = tgM d r n m := by unfold tgP; rw [if_neg (by omega), if_pos rfl]
theorem tgP_step (d r : Nat → Int) (n m : Nat) : (row 40 fun j => if j = n then tgM d r n m + d (n + m) * r m else tgP d r n m j) = row 40 (tgP d r n (m + 1)) := row_congr fun j _ => by
  unfold tgP
  by_cases e : j = n
  · rw [if_pos e, if_neg (by omega), if_pos e]; rfl
  · rw [if_neg e]
    by_cases h : j < n
    · rw [if_pos h, if_pos h]
    · rw [if_neg h, if_neg e, if_neg h, if_neg e]
theorem tgP_next (d r : Nat → Int) (n : Nat) : row 40 (tgP d r n (40 - n)) = row 40 (tgP d r (n + 1) 0) := row_congr fun j _ => by
  unfold tgP
  by_cases h : j < n
  · rw [if_pos h, if_pos (by omega)]
  · rw [if_neg h]
    by_cases e : j = n
    · rw [if_pos e, if_pos (by omega), e]; rfl
    · rw [if_neg e, if_neg (by omega)]
      split <;> rfl
theorem tgP_all (d r : Nat → Int) : row 40 (tgP d r 40 0) = row 40 (tgS d r) := row_congr fun j hj => by unfold tgP; rw [if_pos hj]
def TargetPost (d r : Nat → Int) (w : World) (e : Ending) (w' : World) : Prop := ∃ g, e = .returned (.tuple #[.slice (some ⟨g, 0, none⟩) 40 40, .int .i64 0]) ∧ Has w w' [(g, 3, row 40 (tgS d r))]
set_option maxHeartbeats 6400000 in
set_option maxRecDepth 400000 in
theorem Target_any (d r : Nat → Int) {v v' : Value} {w : World} (hd : ∀ i, i < 40 → In16 (d i)) (hr : ∀ i, i < 40 → In16 (r i)) (L : Lies w v 40 d) (L' : Lies w v' 40 r) :
    Calls Tryd.prog 75 #[v, v'] w (TargetPost d r w) := by
  obtain ⟨P, cap, b1, o1, rfl, R1⟩ := L
  obtain ⟨P', cap', b2, o2, rfl, R2⟩ := L'
  obtain rfl := R1.ptr (by omega)
  obtain rfl := R2.ptr (by omega)
  have H := Has.start w
  have HD := Lib.hid hd
  have HR := Lib.hid hr
  clear hd hr
  go_enter Tryd.func75, Tryd.ntmps75
  go_wp2_with ((refine wpList_on (o := ⟨some 17, .makeSlice _ _ _, _, _, _, _⟩) rfl (fun K hK => ?_)); refine wp_make_has (t_ := 35) (e := 3) H _ _ rfl 40 .i64 .i64 rfl rfl ?_ ?_ ?_ ?_ ?_; (kernel_rfl); (kernel_rfl); (omega); (omega); (clear H; intro u g H; refine hK _ _ ?_; clear hK K; try simp only [Value.cells, List.cons_append, List.nil_append] at H))
  simp only [show (40 : Int).toNat = 40 from rfl] at *
  rw [tgP_0 d r] at H
  go_loopw [20] (fun c wr => ∃ n : Nat, n ≤ 40 ∧ c = .int .i64 n ∧ Has w wr [(g, 3, row 40 (tgP d r n 0))]) (fun c _ => 40 - (intOf c).toNat)
  case atStart => exact ⟨0, by omega, rfl, H⟩
  clear H
  case round =>
    obtain ⟨n, hn, rfl, H⟩ := hrel
    by_cases hlt : n < 40
    · have q0 : (n : Int) < 40 := by omega
      go_wp2
      go_loopw [8] (fun c wr => ∃ i m : Nat, i = n + m ∧ i ≤ 40 ∧ c = .int .i64 i ∧ Has w wr [(g, 3, row 40 (tgP d r n m))]) (fun c _ => 40 - (intOf c).toNat)
      case atStart => exact ⟨n, 0, rfl, hn, rfl, H⟩
      clear H
      case round =>
        obtain ⟨i, m, him, hi, rfl, H⟩ := hrel
        by_cases hlt2 : i < 40
        · have q1 : (i : Int) < 40 := by omega
          have hm : m < 40 := by omega
          have q2 : (m : Int) < 40 := by omega
          have q3 : (0 : Int) ≤ (m : Int) := by omega
          have ei : IntKind.i64.wrap ((i : Int) - (n : Int)) = (m : Int) := by rw [IntKind.wrap_i64]; omega
          have em : IntKind.i64.wrap (m : Int) = (m : Int) := by rw [IntKind.wrap_i64]; omega
          have ei2 : (i : Int) - (n : Int) = (m : Int) := by omega
          obtain ⟨b1', b2'⟩ := tgM_bd HD.out HR.out (n := n) (m := m) (by omega)
          have hst := Lib.hid (tgP_step d r n m)
          have hat := Lib.hid (tgP_at d r n m)
          have ht := mul_bd (d i) (r m) 32768 32768 (by have := HD.out i hlt2; unfold In16 at this; omega) (by have := HD.out i hlt2; unfold In16 at this; omega) (by have := HR.out m hm; unfold In16 at this; omega) (by have := HR.out m hm; unfold In16 at this; omega)
          rw [← him] at hst
          obtain ⟨t1, t2⟩ := ht
          generalize tgM d r n m = S at *
          have s1 : IntKind.i64.wrap (d i * r m) = d i * r m := IntWalk.i64_in _ (by omega)
          have s2 : IntKind.i64.wrap (S + d i * r m) = S + d i * r m := IntWalk.i64_in _ (by generalize d i * r m = q at *; omega)
          clear t1 t2 b1' b2'
          replace him := Lib.hid him
          go_wp2_with fail
          refine wp_region_text [96] (by kernel_rfl) (by kernel_rfl) (by kernel_rfl) ?_; replace H := H.drew; generalize World.drew _ = u at *
          have K1 := Reads.has R1 H
          have K2 := Reads.has R2 H
          repeat (first | (refine ones_load_num K1 (o := ⟨_, .load 3 _, _, _, _, _⟩) 3 _ rfl rfl rfl rfl (by kernel_rfl) hlt2 ?_; simp only [Act.put, List.setIfInBounds_toArray, List.set_cons_zero, List.set_cons_succ]) | (refine ones_load_num K2 (o := ⟨_, .load 3 _, _, _, _, _⟩) 3 _ rfl rfl rfl rfl (by kernel_rfl) hm ?_; simp only [Act.put, List.setIfInBounds_toArray, List.set_cons_zero, List.set_cons_succ]) | (refine' ones_call (o := ⟨_, .call _, _, _, _, _⟩) rfl rfl _ _; rotate_left; (unfold CallOf; go_simp; exact pulsesSat_in _ _ (HD.out _ hlt2)); simp only [Act.put, List.setIfInBounds_toArray, List.set_cons_zero, List.set_cons_succ]) | (refine' ones_call (o := ⟨_, .call _, _, _, _, _⟩) rfl rfl _ _; rotate_left; (unfold CallOf; go_simp; exact pulsesSat_in _ _ (HR.out _ hm)); simp only [Act.put, List.setIfInBounds_toArray, List.set_cons_zero, List.set_cons_succ]) | (refine ones_free (v := ?_) rfl rfl ?_ ?_; rotate_left; (intro w'; go_simp; try with_reducible rfl); simp only [Act.put, List.setIfInBounds_toArray, List.set_cons_zero, List.set_cons_succ]))
          refine ones_nil ?_
          clear K1 K2
          go_wp2_with fail
          refine wp_region_text [] (by kernel_rfl) (by kernel_rfl) (by kernel_rfl) ?_; replace H := H.drew; generalize World.drew _ = u at *
          have K1 := Reads.has R1 H
          have K2 := Reads.has R2 H
          repeat (first | (refine ones_load_one (v := .int .i64 S) (o := ⟨_, .load 3 _, _, _, _, _⟩) H 3 _ rfl rfl rfl rfl (by repeat (first | exact List.mem_cons_self | apply List.mem_cons_of_mem | apply List.mem_append_right)) (by kernel_rfl) (by rw [row_get _ hlt, hat.out]) ?_; simp only [Act.put, List.setIfInBounds_toArray, List.set_cons_zero, List.set_cons_succ]) | (refine ones_load_num K1 (o := ⟨_, .load 3 _, _, _, _, _⟩) 3 _ rfl rfl rfl rfl (by kernel_rfl) hlt2 ?_; simp only [Act.put, List.setIfInBounds_toArray, List.set_cons_zero, List.set_cons_succ]) | (refine ones_load_num K2 (o := ⟨_, .load 3 _, _, _, _, _⟩) 3 _ rfl rfl rfl rfl (by kernel_rfl) hm ?_; simp only [Act.put, List.setIfInBounds_toArray, List.set_cons_zero, List.set_cons_succ]) | (refine ones_eff (o := ⟨_, .store 3 _ _, _, _, _, _⟩) rfl rfl (fun K hK => ?_); refine wp_store_row_ (l1 := []) H 3 _ _ rfl rfl rfl (by kernel_rfl) hlt ?_; clear H; intro u H; refine hK _ _ ?_; clear hK K; simp only [Act.put, List.setIfInBounds_toArray, List.set_cons_zero, List.set_cons_succ]; try simp only [Value.cells, List.cons_append, List.nil_append] at H) | (refine ones_free (v := ?_) rfl rfl ?_ ?_; rotate_left; (intro w'; go_simp; try with_reducible rfl); simp only [Act.put, List.setIfInBounds_toArray, List.set_cons_zero, List.set_cons_succ]))
          refine ones_nil ?_
          clear K1 K2
          go_wp2
          go_roundw
          case rel => exact ⟨i + 1, m + 1, by have := him.out; omega, by omega, by go_num, by rw [← hst.out]; exact H⟩
          case measure => simp [intOf]; omega
        · have dn : decide ((i : Int) < 40) = false := lt_no (by omega)
          have q1 : (40 : Int) ≤ (i : Int) := by omega
          obtain rfl : m = 40 - n := by omega
          replace him := Lib.hid him
          rw [tgP_next] at H
          go_wp2
          go_roundw
          case rel => exact ⟨n + 1, by omega, by go_num, H⟩
          case measure => simp [intOf]; omega
    · obtain rfl : n = 40 := by omega
      rw [tgP_all] at H
      go_wp2
      go_ret2
      exact ⟨g, rfl, H⟩
end Go.Proofs.YtcoicmbjoaonoaaDoor
