/-
  The walk of TopSilence. No statement is proved here.
-/
import Derived.Test.YtcoicmbjoaonoaaDoorZbc
namespace Go.Proofs.YtcoicmbjoaonoaaDoor
set_option linter.unusedVariables false
set_option linter.unusedSimpArgs false
open Go.RowKit
set_option maxRecDepth 100000
theorem Encode_zero2 (n f : Nat → Int) (s : Bool) {v : Value} {w : World} (hn : ∀ i, i < 120 → In16 (n i)) (hG : GoodM f) (L : Lies w v 80 fun _ => 0) (hT : Roots w) (hP : Gains w) (hW : Widths w) :
    Calls Tryd.prog 12 #[.agg (encA Z0 n f s), v, .bool false] w (EncPost Z0 f 2 w) := Encode_zero n f s false hn hG L hT hP hW
set_option maxHeartbeats 6400000 in
theorem topSilence_walk (n : Int) (w : World) (hT : Roots w) (hP : Gains w) (hW : Widths w) : Calls Tryd.prog 3 #[.int .i64 n] w fun e w' => e = .returned (.bool true) ∧ Below w.heap.size w w' := by
  have H := Has.start w
  obtain ⟨N, hN⟩ : ∃ N : Nat, (N : Int) = n % 20 := ⟨(n % 20).toNat, by omega⟩
  have hN20 : N < 20 := by omega
  have S1 : Hid (∀ w, Calls Tryd.prog 11 #[.int .i64 n, .int .i64 20] w fun e w' => e = .returned (.int .i64 (N : Nat)) ∧ w = w') := fun w => by rw [hN]; exact spotT_any _ _ w (by omega) (by omega)
  clear hN
  go_enter Tryd.func3, Tryd.ntmps3
  go_wp2_with (first | (go_at_call 10; (with_reducible refine (Begin_any _).mono ?_); rintro e w1 ⟨rfl, hb⟩; replace H := H.callee hb; clear hb) | (refine wpList_on (o := ⟨some 3, .alloc 31, _, _, _, _⟩) rfl (fun K hK => ?_); refine wp_alloc H 31 rfl (z := (.agg (encA Z0 Z0 Z0 false))) (by kernel_rfl) ?_; clear H; intro u g3 H; refine hK _ _ ?_; clear hK K; try simp only [Value.cells, List.cons_append, List.nil_append] at H) | ((refine wpList_on (o := ⟨_, .store 31 _ _, _, _, _, _⟩) rfl (fun K hK => ?_)); (try simp only [Act.put, List.setIfInBounds_toArray, List.set_cons_zero, List.set_cons_succ]); refine wp_store_all (l1 := []) H 31 _ _ rfl rfl rfl (by rw [encA_size]; kernel_rfl) (by rw [encA_size, encA_size]) (encA_one _ _ _ _) ?_; clear H; intro u H; refine hK _ _ ?_; clear hK K; (try simp only [List.cons_append, List.nil_append] at H)) | (go_at_call 11; (with_reducible refine (S1.out _).mono ?_); rintro e w1 ⟨rfl, rfl⟩))
  go_loopw [15] (fun c wr => ∃ (k : Nat) (n' f : Nat → Int) (s : Bool), k ≤ N + 1 ∧ c = .int .i64 k ∧ (0 < k → s = true) ∧ Hid (∀ i, i < 120 → In16 (n' i)) ∧ Hid (GoodM f) ∧ Has w wr [(g3, 31, encA Z0 n' f s)]) (fun c _ => N + 1 - (intOf c).toNat)
  case atStart => exact ⟨0, Z0, freshF, false, by omega, rfl, fun h => by omega, fun i _ => Z0_in i, fresh_good, H⟩
  clear H
  case round =>
    obtain ⟨k, n', f, s, hk, rfl, hs, hn, hG, H⟩ := hrel
    by_cases hlt : k < N + 1
    · have h1 : (k : Int) < 1 + (N : Int) := by omega
      have cE := Lib.hid (fun (v : Value) (u : World) (L : Lies u v 80 fun _ => 0) (hT : Roots u) (hP : Gains u) (hW : Widths u) => Encode_zero2 n' f s hn.out hG.out L hT hP hW)
      clear hs hn
      go_wp2_with fail
      refine' cut_ _ (fun hcut => _) _; rotate_left
      · refine wp_region_ordT [] [] (fun w' => Has w w' [(g3, 31, encA Z0 n' f s)]) [(1, 2), (1, 8), (2, 8)] [[0, 8, 1, 2, 3, 4, 5, 6, 7, 9, 10, 11, 12], [0, 1, 8, 2, 3, 4, 5, 6, 7, 9, 10, 11, 12], [0, 1, 2, 8, 3, 4, 5, 6, 7, 9, 10, 11, 12]] (by kernel_rfl) (by kernel_rfl) (by kernel_rfl) ?_; replace H := H.drew; generalize World.drew _ = u at *; simp only [List.forall_mem_cons, List.not_mem_nil, false_imp_iff, implies_true, and_true]; (repeat' (with_reducible refine And.intro ?_ ?_))
        all_goals repeat (first | (refine sq_load_all (o := ⟨_, .load 31 _, _, _, _, _⟩) 31 _ rfl rfl rfl rfl rfl (H.sub (by repeat (first | exact List.Sublist.refl _ | exact List.nil_sublist _ | apply List.Sublist.cons_cons | apply List.Sublist.cons))) (by repeat (first | exact List.mem_cons_self | apply List.mem_cons_of_mem | apply List.mem_append_right)) (by rw [encA_size]; kernel_rfl) ?_; simp only [Act.put, List.setIfInBounds_toArray, List.set_cons_zero, List.set_cons_succ]) | ((refine sq_keep (o := ⟨some 19, .makeSlice _ _ _, _, _, _, _⟩) rfl rfl rfl (fun K hK => ?_); refine wp_make_has (t_ := 35) (e := 3) H _ _ rfl 80 .i64 .i64 rfl rfl ?_ ?_ ?_ ?_ ?_; (kernel_rfl); (kernel_rfl); (omega); (omega); (clear H; intro u gm H; (try simp only [Value.cells, List.cons_append, List.nil_append] at H); refine hK _ _ (H.sub (by repeat (first | exact List.Sublist.refl _ | exact List.nil_sublist _ | apply List.Sublist.cons_cons | apply List.Sublist.cons | refine List.Sublist.trans ?_ (List.sublist_append_right _ _)))) ?_; clear hK K; simp only [Act.put, List.setIfInBounds_toArray, List.set_cons_zero, List.set_cons_succ])); simp only [show Int.toNat 80 = 80 from rfl] at H ⊢) | (refine sq_keep (o := ⟨some 4, .alloc 31, _, _, _, _⟩) rfl rfl rfl (fun K hK => ?_); refine wp_alloc H 31 rfl (z := (.agg (encA Z0 Z0 Z0 false))) (by kernel_rfl) ?_; clear H; intro u g4 H; (try simp only [Value.cells, List.cons_append, List.nil_append] at H); refine hK _ _ (H.sub (by repeat (first | exact List.Sublist.refl _ | exact List.nil_sublist _ | apply List.Sublist.cons_cons | apply List.Sublist.cons | refine List.Sublist.trans ?_ (List.sublist_append_right _ _)))) ?_; clear hK K; simp only [Act.put, List.setIfInBounds_toArray, List.set_cons_zero, List.set_cons_succ]) | (refine sq_keep (o := ⟨_, .call _, _, _, _, _⟩) rfl rfl rfl (fun K hK => ?_); go_simp; (go_at_call 12; (with_reducible refine (cE.out _ _ (H.lies (m := 80) (by repeat (first | exact List.mem_cons_self | apply List.mem_cons_of_mem | apply List.mem_append_right)) (Nat.le_refl _)) (hT.has H) (hP.has H) (hW.has H)).mono ?_); rintro e u ⟨n2, P, gp, vo, tl, hn2, hp, rfl, RO, hb⟩; obtain ⟨gs, capS, csS, rfl, rfl, hcapS, hszS, hcsS⟩ := RO.some_ (by omega); clear RO hszS hcapS hcsS; replace H := H.joinR hb; clear hb; (try simp only [List.cons_append, List.nil_append] at H)); refine hK _ _ (H.sub (by repeat (first | exact List.Sublist.refl _ | exact List.nil_sublist _ | apply List.Sublist.cons_cons | apply List.Sublist.cons | refine List.Sublist.trans ?_ (List.sublist_append_right _ _)))) ?_; clear hK K; try simp only [Act.put, List.setIfInBounds_toArray, List.set_cons_zero, List.set_cons_succ]) | (refine sq_eff (o := ⟨_, .store 31 _ _, _, _, _, _⟩) rfl rfl rfl (fun K hK => ?_); (first | refine wp_store_all (l1 := []) H 31 _ _ rfl rfl rfl (by rw [encA_size]; kernel_rfl) (by rw [encA_size, encA_size]) (encA_one _ _ _ _) ?_ | refine wp_store_all (l1 := [_]) H 31 _ _ rfl rfl rfl (by rw [encA_size]; kernel_rfl) (by rw [encA_size, encA_size]) (encA_one _ _ _ _) ?_); clear H; intro u H; (try simp only [List.cons_append, List.nil_append] at H); refine hK _ _ ?_; clear hK K; simp only [Act.put, List.setIfInBounds_toArray, List.set_cons_zero, List.set_cons_succ]) | (refine sq_free (o := ⟨_, _, _, _, _, _⟩) (v := ?_) rfl rfl rfl ?_ ?_; rotate_left; (intro w'; go_simp; try with_reducible rfl); simp only [Act.put, List.setIfInBounds_toArray, List.set_cons_zero, List.set_cons_succ]))
        all_goals refine sq_nil ?_
        all_goals replace H := H.sub (bs' := [(g4, 31, encA Z0 n2 (frM f (packI P)) (frS (packI P))), (g3, 31, encA Z0 n' f s), (gp, 5, rowU 15 (packB P (parP P)))]) (by repeat (first | exact List.Sublist.refl _ | exact List.nil_sublist _ | apply List.Sublist.cons_cons | apply List.Sublist.cons))
        · revert hn2 hp H
          revert g4 gm n2 P gp gs capS u
          exact hcut.out
        all_goals exact hcut.out _ _ _ _ _ _ _ _ hn2 hp H
      clear H cE
      intro g4 gm n2 P gp gs capS u hn2 hp H
      have hS := frS_2 hp rfl
      have hG2 := Lib.hid (frM_good hG.out (pkOk_of hp.most))
      have h0 : packI P 0 = 2 := pk_kind hp
      have cU := Lib.hid (fun (u : World) (hW : Widths u) (hB : Bytes u gp 15 (packB P (parP P))) => Unpack_back hp.most gp u hW hB)
      replace hn2 := Lib.hid hn2
      rw [hS] at H
      clear hp hG hS
      generalize frM f (packI P) = f2 at *
      generalize packI P = r at *
      generalize packB P (parP P) = b at *
      go_wp2_with (first | (go_at_call 13; (with_reducible refine (cU.out _ (hW.has H) (Bytes.ofRow H (by repeat (first | exact List.mem_cons_self | apply List.mem_cons_of_mem | apply List.mem_append_right)) (Nat.le_refl 15))).mono ?_); rintro e w1 ⟨rfl, hb⟩; replace H := H.callee hb; clear hb) | (refine wpList_on (o := ⟨some 8, .alloc 44, _, _, _, _⟩) rfl (fun K hK => ?_); refine wp_alloc H 44 rfl (z := (.agg (row 25 fun _ => 0))) (by kernel_rfl) ?_; clear H; intro u g8 H; refine hK _ _ ?_; clear hK K; try simp only [Value.cells, List.cons_append, List.nil_append] at H) | ((refine wpList_on (o := ⟨_, .store 44 _ _, _, _, _, _⟩) rfl (fun K hK => ?_)); (try simp only [Act.put, List.setIfInBounds_toArray, List.set_cons_zero, List.set_cons_succ]); refine wp_store_all (l1 := []) H 44 _ _ rfl rfl rfl (by kernel_rfl) (by simp [row_size]) (row_one _ _) ?_; clear H; intro u H; refine hK _ _ ?_; clear hK K; try simp only [Value.cells, List.cons_append, List.nil_append] at H) | ((refine wpList_on (o := ⟨_, .load 3 _, _, _, _, _⟩) rfl (fun K hK => ?_)); (try simp only [Act.put, List.setIfInBounds_toArray, List.set_cons_zero, List.set_cons_succ]); refine wp_load_one H 3 _ rfl rfl (by repeat (first | exact List.mem_cons_self | apply List.mem_cons_of_mem | apply List.mem_append_right)) (by kernel_rfl) (row_get _ (by omega)) ?_; refine hK _ _ ?_; clear hK K) | ((refine wpList_on (o := ⟨_, .load 31 _, _, _, _, _⟩) rfl (fun K hK => ?_)); (try simp only [Act.put, List.setIfInBounds_toArray, List.set_cons_zero, List.set_cons_succ]); refine wp_load_all H 31 _ rfl rfl (by repeat (first | exact List.mem_cons_self | apply List.mem_cons_of_mem | apply List.mem_append_right)) (by rw [encA_size]; kernel_rfl) ?_; refine hK _ _ ?_; clear hK K) | ((refine wpList_on (o := ⟨_, .store 31 _ _, _, _, _, _⟩) rfl (fun K hK => ?_)); (try simp only [Act.put, List.setIfInBounds_toArray, List.set_cons_zero, List.set_cons_succ]); refine wp_store_all (l1 := [_, _]) H 31 _ _ rfl rfl rfl (by rw [encA_size]; kernel_rfl) (by rw [encA_size, encA_size]) (encA_one _ _ _ _) ?_; clear H; intro u H; refine hK _ _ ?_; clear hK K; (try simp only [List.cons_append, List.nil_append] at H)))
      go_roundw
      case rel => exact ⟨k + 1, n2, f2, true, by omega, by go_num, fun _ => rfl, hn2, hG2, H.sub (by repeat (first | exact List.Sublist.refl _ | exact List.nil_sublist _ | apply List.Sublist.cons_cons | apply List.Sublist.cons))⟩
      case measure => simp [intOf]; omega
    · obtain rfl : k = N + 1 := by omega
      obtain rfl := hs (by omega)
      clear hs hn hG
      go_wp2_with (first | (go_at_call 14; (with_reducible refine (alive_any _ (hT.has H) (hP.has H) (hW.has H)).mono ?_); rintro e w1 ⟨rfl, hb⟩; replace H := H.callee hb; clear hb) | ((refine wpList_on (o := ⟨_, .load 4 _, _, _, _, _⟩) rfl (fun K hK => ?_)); (try simp only [Act.put, List.setIfInBounds_toArray, List.set_cons_zero, List.set_cons_succ]); refine wp_load_one (g := g3) (i := 225) (v := .bool true) H 4 _ rfl rfl (by repeat (first | exact List.mem_cons_self | apply List.mem_cons_of_mem | apply List.mem_append_right)) (by kernel_rfl) (encA_bool _ _ _ _) ?_; refine hK _ _ ?_; clear hK K))
      go_ret
      exact ⟨rfl, H.below⟩
end Go.Proofs.YtcoicmbjoaonoaaDoor
