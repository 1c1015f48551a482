/-
  pulses: All and Few walked. No statement is proved here.
-/
import Derived.Test.YtcoicmbjoaonoaaSearchAll
namespace Go.Proofs.Ytcoicmbjoaonoaa
open Go.RowKit
def Valid4 (x : Nat → Int) : Prop := ∀ i, i < 4 → 0 ≤ x i ∧ x i ≤ 9
theorem sC_congr {d x y : Nat → Int} (h : ∀ i, i < 4 → x i = y i) : sC d x = sC d y := scC_congr h
theorem sE_congr {d r x y : Nat → Int} (h : ∀ i, i < 4 → x i = y i) : sE d r x = sE d r y := scE_congr h
theorem all_best (d r : Nat → Int) : Valid4 (runS (sC d) (sE d r) digX 10000).at_ ∧ ∀ x, Valid4 x → betterB (sC d x) (sE d r x) (sC d (runS (sC d) (sE d r) digX 10000).at_) (sE d r (runS (sC d) (sE d r) digX 10000).at_) = false := by
  obtain ⟨⟨k, hk, e⟩, hb⟩ := runS_best (sC d) (sE d r) digX (n := 10000) (by omega)
  refine ⟨by rw [e]; exact digX_in k, fun x hx => ?_⟩
  obtain ⟨n, hn, hs⟩ := digX_of hx
  rw [sC_congr hs, sE_congr hs]
  exact hb n hn
theorem few_best (d r : Nat → Int) {now : Nat → Int} {t : Nat} (hnow : Valid4 now) (ht : t < 4) : Valid4 (runS (sC d) (sE d r) (onT now t) 10).at_ ∧ betterB (sC d now) (sE d r now) (sC d (runS (sC d) (sE d r) (onT now t) 10).at_) (sE d r (runS (sC d) (sE d r) (onT now t) 10).at_) = false := by
  obtain ⟨⟨k, hk, e⟩, hb⟩ := runS_best (sC d) (sE d r) (onT now t) (n := 10) (by omega)
  refine ⟨by rw [e]; exact onT_in hnow t k hk, ?_⟩
  obtain ⟨n, hn, hs⟩ := onT_self hnow ht
  rw [sC_congr hs, sE_congr hs]
  exact hb n hn
def FewPost (d r : Nat → Int) (w : World) (e : Ending) (w' : World) : Prop := ∃ (at_ : Nat → Int) (s : Int), Valid4 at_ ∧ 0 ≤ s ∧ s ≤ 15 ∧ betterB (sC d fun _ => 0) (sE d r fun _ => 0) (sC d at_) (sE d r at_) = false ∧ e = .returned (.tuple #[.agg (row 4 at_), .int .i64 s, .int .i64 0]) ∧ Below w.heap.size w w'
set_option maxHeartbeats 3200000 in
set_option maxRecDepth 100000 in
theorem Few_any (d r : Nat → Int) {v v' : Value} {w : World} (hd : ∀ i, i < 40 → -1099511627776 ≤ d i ∧ d i ≤ 1099511627776) (hr : ∀ i, i < 40 → In16 (r i)) (L : Lies w v 40 d) (L' : Lies w v' 40 r) :
    Calls Try.prog 19 #[v, v'] w (FewPost d r w) := by
  have H := Has.start w
  have hmf : ∀ (fn : Fn) (first cap : Array Value) (w : World), (Instr.makeFunc fn first cap).run Try.prog w = .ok (.func fn first cap) w := fun _ _ _ _ => rfl
  have CS := Lib.hid (fun (u : World) (h : Below w.heap.size w u) (now : Nat → Int) (t g7 g8 : Nat) (hnow : Valid4 now) (ht : t < 4) (hA : At u g7 47 (row 4 now)) (hB : At u g8 3 #[.int .i64 (t : Nat)]) => search_few d r hd hr (L.below h) (L'.below h) now t g7 g8 hnow ht hA hB)
  have CG := Lib.hid (fun (u : World) (h : Below w.heap.size w u) (x : Nat → Int) (hx : Valid4 x) => show Calls Try.prog 42 #[v, .agg (row 4 x)] u fun e w' => ∃ s : Int, 0 ≤ s ∧ s ≤ 15 ∧ e = .returned (.int .i64 s) ∧ Below u.heap.size u w' from by
    obtain ⟨P, cap, g, o, rfl, R⟩ := L.below h
    exact signs_any d x P cap g o u hx R)
  have HB := Lib.hid (fun (now : Nat → Int) (t : Nat) (hnow : Valid4 now) (ht : t < 4) => few_best d r hnow ht)
  have hz0 : Hid (Valid4 (fun _ => 0) ∧ betterB (sC d fun _ => 0) (sE d r fun _ => 0) (sC d fun _ => 0) (sE d r fun _ => 0) = false) := ⟨fun i _ => show (0 : Int) ≤ 0 ∧ (0 : Int) ≤ 9 by omega, nb_self _ _⟩
  clear hd hr L L'
  go_enter Try.func19, Try.ntmps19
  go_wp2_with (first | (refine wpList_on (o := ⟨some 4, .alloc 47, _, _, _, _⟩) rfl (fun K hK => ?_); refine wp_alloc H 47 rfl (z := (.agg (row 4 fun _ => 0))) (by kernel_rfl) ?_; clear H; intro u g4 H; refine hK _ _ ?_; clear hK K; try simp only [Value.cells, List.cons_append, List.nil_append] at H) | (refine wpList_on (o := ⟨some 7, .alloc 47, _, _, _, _⟩) rfl (fun K hK => ?_); refine wp_alloc H 47 rfl (z := (.agg (row 4 fun _ => 0))) (by kernel_rfl) ?_; clear H; intro u g7 H; refine hK _ _ ?_; clear hK K; try simp only [Value.cells, List.cons_append, List.nil_append] at H))
  go_loopw [12] (fun c wr => ∃ (k : Nat) (now : Nat → Int), k ≤ 2 ∧ c = .int .i64 k ∧ Hid (Valid4 now ∧ betterB (sC d fun _ => 0) (sE d r fun _ => 0) (sC d now) (sE d r now) = false) ∧ Has w wr [(g7, 47, row 4 now), (g4, 47, row 4 fun _ => 0)]) (fun c _ => 2 - (intOf c).toNat)
  case atStart => exact ⟨0, fun _ => 0, by omega, rfl, hz0, H⟩
  clear H hz0
  case round =>
    obtain ⟨k, now, hk, rfl, HV, H⟩ := hrel
    by_cases hlt : k < 2
    · have q0 : (k : Int) < 2 := by omega
      go_wp2
      go_loopw [14] (fun c wr => ∃ (t : Nat) (now : Nat → Int), t ≤ 4 ∧ c = .int .i64 t ∧ Hid (Valid4 now ∧ betterB (sC d fun _ => 0) (sE d r fun _ => 0) (sC d now) (sE d r now) = false) ∧ Has w wr [(g7, 47, row 4 now), (g4, 47, row 4 fun _ => 0)]) (fun c _ => 4 - (intOf c).toNat)
      case atStart => exact ⟨0, now, by omega, rfl, HV, H⟩
      clear H HV
      case round =>
        obtain ⟨t, now, ht, rfl, HV, H⟩ := hrel
        by_cases hlt2 : t < 4
        · have q1 : (t : Int) < 4 := by omega
          obtain ⟨b1, b2⟩ := HB.out now t HV.out.1 hlt2
          have HV2 : Hid (Valid4 (runS (sC d) (sE d r) (onT now t) 10).at_ ∧ betterB (sC d fun _ => 0) (sE d r fun _ => 0) (sC d (runS (sC d) (sE d r) (onT now t) 10).at_) (sE d r (runS (sC d) (sE d r) (onT now t) 10).at_) = false) := ⟨b1, nb_trans HV.out.2 b2⟩
          have cs := Lib.hid (fun (u : World) (h : Below w.heap.size w u) (g8 : Nat) (hA : At u g7 47 (row 4 now)) (hB : At u g8 3 #[.int .i64 (t : Nat)]) => CS.out u h now t g7 g8 HV.out.1 hlt2 hA hB)
          clear b1 b2
          generalize runS (sC d) (sE d r) (onT now t) 10 = SN at *
          go_wp2_with (first | (refine wpList_on (o := ⟨some 8, .alloc 3, _, _, _, _⟩) rfl (fun K hK => ?_); refine wp_alloc H 3 rfl (z := (.int .i64 0)) (by kernel_rfl) ?_; clear H; intro u g8 H; refine hK _ _ ?_; clear hK K; try simp only [Value.cells, List.cons_append, List.nil_append] at H) | ((refine wpList_on (o := ⟨_, .store 3 _ _, _, _, _, _⟩) rfl (fun K hK => ?_)); (try simp only [Act.put, List.setIfInBounds_toArray, List.set_cons_zero, List.set_cons_succ]); refine wp_store_one (l1 := []) (cs := #[.int .i64 0]) (v := .int .i64 (t : Nat)) (i := 0) H 3 _ _ rfl rfl rfl (by kernel_rfl) (by decide) rfl ?_; clear H; intro u H; refine hK _ _ ?_; clear hK K; replace H : Has w _ [(g8, 3, #[.int .i64 (t : Nat)]), (g7, 47, row 4 now), (g4, 47, row 4 fun _ => 0)] := H) | (go_at_call 40; (with_reducible refine (cs.out _ H.below g8 (H.at_ (by repeat (first | exact List.mem_cons_self | apply List.mem_cons_of_mem | apply List.mem_append_right))) (H.at_ (by repeat (first | exact List.mem_cons_self | apply List.mem_cons_of_mem | apply List.mem_append_right)))).mono ?_); rintro e w1 ⟨s, s0, s1, rfl, hb⟩; replace H := H.callee hb; clear hb) | (refine wpList_on (o := ⟨some 9, .alloc 47, _, _, _, _⟩) rfl (fun K hK => ?_); refine wp_alloc H 47 rfl (z := (.agg (row 4 fun _ => 0))) (by kernel_rfl) ?_; clear H; intro u g9 H; refine hK _ _ ?_; clear hK K; try simp only [Value.cells, List.cons_append, List.nil_append] at H) | ((refine wpList_on (o := ⟨_, .store 47 _ _, _, _, _, _⟩) rfl (fun K hK => ?_)); refine wp_store_all (l1 := [_, _]) H 47 _ _ rfl rfl rfl (by kernel_rfl) (by simp [row_size]) (row_one _ _) ?_; clear H; intro u H; refine hK _ _ ?_; clear hK K; try simp only [Value.cells, List.cons_append, List.nil_append] at H) | ((refine wpList_on (o := ⟨_, .store 47 _ _, _, _, _, _⟩) rfl (fun K hK => ?_)); refine wp_store_all (l1 := []) H 47 _ _ rfl rfl rfl (by kernel_rfl) (by simp [row_size]) (row_one _ _) ?_; clear H; intro u H; refine hK _ _ ?_; clear hK K; try simp only [Value.cells, List.cons_append, List.nil_append] at H) | ((refine wpList_on (o := ⟨_, .load 47 _, _, _, _, _⟩) rfl (fun K hK => ?_)); refine wp_load_all H 47 _ rfl rfl (by repeat (first | exact List.mem_cons_self | apply List.mem_cons_of_mem | apply List.mem_append_right)) (by kernel_rfl) ?_; refine hK _ _ ?_; clear hK K))
          exact ⟨⟨t + 1, _, by omega, by go_num, HV2, H.tail.tail⟩, by simp [intOf]; omega⟩
        · obtain rfl : t = 4 := by omega
          go_wp2
          go_roundw
          case rel => exact ⟨k + 1, now, by omega, by go_num, HV, H⟩
          case measure => simp [intOf]; omega
    · obtain rfl : k = 2 := by omega
      have cg := Lib.hid (fun (u : World) (h : Below w.heap.size w u) => CG.out u h now HV.out.1)
      go_wp2
      refine wp_region_ordB [] [] (fun w' => Has w w' [(g7, 47, row 4 now), (g4, 47, row 4 fun _ => 0)]) [] [[0, 1, 2, 3, 4, 5, 6]] (by kernel_rfl) (by kernel_rfl) (by kernel_rfl) ?_; replace H := H.drew; generalize World.drew _ = u at *; simp only [List.forall_mem_cons, List.not_mem_nil, false_imp_iff, implies_true, and_true]; (repeat' refine And.intro ?_ ?_)
      repeat (first | (refine sq_load_all (o := ⟨_, .load 47 _, _, _, _, _⟩) 47 _ rfl rfl rfl rfl rfl (H.sub (by repeat (first | exact List.Sublist.refl _ | exact List.nil_sublist _ | apply List.Sublist.cons_cons | apply List.Sublist.cons | refine List.Sublist.trans ?_ (List.sublist_append_right _ _)))) (by repeat (first | exact List.mem_cons_self | apply List.mem_cons_of_mem | apply List.mem_append_right)) (by kernel_rfl) ?_; simp only [Act.put, List.setIfInBounds_toArray, List.set_cons_zero, List.set_cons_succ]) | (refine sq_keep (o := ⟨_, .call _, _, _, _, _⟩) rfl rfl rfl (fun K hK => ?_); go_simp; (go_at_call 42; (with_reducible refine (cg.out _ H.below).mono ?_); rintro e w1 ⟨sg, s0, s1, rfl, hb⟩; replace H := H.callee hb; clear hb); refine hK _ _ (H.sub (by repeat (first | exact List.Sublist.refl _ | exact List.nil_sublist _ | apply List.Sublist.cons_cons | apply List.Sublist.cons | refine List.Sublist.trans ?_ (List.sublist_append_right _ _)))) ?_; clear hK K; try simp only [Act.put, List.setIfInBounds_toArray, List.set_cons_zero, List.set_cons_succ]) | (refine sq_eff (o := ⟨_, .store 47 _ _, _, _, _, _⟩) rfl rfl rfl (fun K hK => ?_); refine wp_store_all (l1 := [_]) H 47 _ _ rfl rfl rfl (by kernel_rfl) (by simp [row_size]) (row_one _ _) ?_; clear H; intro u H; (try simp only [Value.cells, List.cons_append, List.nil_append] at H); refine hK _ _ ?_; clear hK K; simp only [Act.put, List.setIfInBounds_toArray, List.set_cons_zero, List.set_cons_succ]) | (refine sq_free (o := ⟨_, _, _, _, _, _⟩) (v := ?_) rfl rfl rfl ?_ ?_; rotate_left; (intro w'; go_simp; try with_reducible rfl); simp only [Act.put, List.setIfInBounds_toArray, List.set_cons_zero, List.set_cons_succ]))
      refine sq_nil ?_
      go_wp2
      refine bodyPost_ret (results_has3 rfl _ H rfl (by repeat (first | exact List.mem_cons_self | apply List.mem_cons_of_mem | apply List.mem_append_right)) (by kernel_rfl)) rfl ⟨now, sg, HV.out.1, s0, s1, HV.out.2, rfl, H.below⟩
end Go.Proofs.Ytcoicmbjoaonoaa
