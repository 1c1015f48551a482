/-
  The walk of TopGood. No statement is proved here.
-/
import Derived.Test.YtcoicmbjoaonoaaDoorTopEnds
namespace Go.Proofs.YtcoicmbjoaonoaaDoor
set_option linter.unusedVariables false
set_option linter.unusedSimpArgs false
open Go.RowKit
set_option maxRecDepth 100000
set_option maxHeartbeats 6400000 in
theorem topGood_walk (A : Option Addr) (len cap b o : Nat) (T : Nat → TalkV) (w : World) (hT : Roots w) (hP : Gains w) (hW : Widths w) (h1 : len ≤ cap) (h2 : cap ≤ 9223372036854775807) (hA : Talks w A len b o T) :
    Calls Tryd.prog 5 #[.slice A len cap] w fun e w' => e = .returned (.bool true) ∧ Below w.heap.size w w' := by
  have H := Has.start w
  have cX := Lib.hid (fun (u : World) (hT : Roots u) (hP : Gains u) (hW : Widths u) (hb : Below w.heap.size w u) => ends_any A len cap b o T u h1 h2 (hA.below hb) hT hP hW)
  unfold EndsPost at cX
  clear hA
  go_enter Tryd.func5, Tryd.ntmps5
  go_wp2_with (first | (go_at_call 15; (with_reducible refine (cX.out _ (hT.has H) (hP.has H) (hW.has H) H.below).mono ?_); rintro e w1 ⟨q, n, f, h, s, t, hE, hG, rfl, hb⟩; replace H := H.callee hb; clear hb) | (refine wpList_on (o := ⟨some 3, .alloc 31, _, _, _, _⟩) rfl (fun K hK => ?_); refine wp_alloc H 31 rfl (z := (.agg (encA Z0 Z0 Z0 false))) (by kernel_rfl) ?_; clear H; intro u g3 H; refine hK _ _ ?_; clear hK K; try simp only [Value.cells, List.cons_append, List.nil_append] at H) | (refine wpList_on (o := ⟨some 4, .alloc 29, _, _, _, _⟩) rfl (fun K hK => ?_); refine wp_alloc H 29 rfl (z := (.agg (memA (fun _ => 0) false))) (by kernel_rfl) ?_; clear H; intro u g4 H; refine hK _ _ ?_; clear hK K; try simp only [Value.cells, List.cons_append, List.nil_append] at H) | (refine wpList_on (o := ⟨some 6, .alloc 29, _, _, _, _⟩) rfl (fun K hK => ?_); refine wp_alloc H 29 rfl (z := (.agg (memA (fun _ => 0) false))) (by kernel_rfl) ?_; clear H; intro u g6 H; refine hK _ _ ?_; clear hK K; try simp only [Value.cells, List.cons_append, List.nil_append] at H) | ((refine wpList_on (o := ⟨_, .store 31 _ _, _, _, _, _⟩) rfl (fun K hK => ?_)); (try simp only [Act.put, List.setIfInBounds_toArray, List.set_cons_zero, List.set_cons_succ]); (first | refine wp_store_all (l1 := []) H 31 _ _ rfl rfl rfl (by rw [encA_size]; kernel_rfl) (by simp only [encA_size]) (encA_one _ _ _ _) ?_ | refine wp_store_all (l1 := [_]) H 31 _ _ rfl rfl rfl (by rw [encA_size]; kernel_rfl) (by simp only [encA_size]) (encA_one _ _ _ _) ?_ | refine wp_store_all (l1 := [_, _]) H 31 _ _ rfl rfl rfl (by rw [encA_size]; kernel_rfl) (by simp only [encA_size]) (encA_one _ _ _ _) ?_); clear H; intro u H; refine hK _ _ ?_; clear hK K; (try simp only [List.cons_append, List.nil_append] at H)) | ((refine wpList_on (o := ⟨_, .store 29 _ _, _, _, _, _⟩) rfl (fun K hK => ?_)); (try simp only [Act.put, List.setIfInBounds_toArray, List.set_cons_zero, List.set_cons_succ]); (first | refine wp_store_all (l1 := []) H 29 _ _ rfl rfl rfl (by rw [memA_size]; kernel_rfl) (by simp only [memA_size]) (memA_one _ _) ?_ | refine wp_store_all (l1 := [_]) H 29 _ _ rfl rfl rfl (by rw [memA_size]; kernel_rfl) (by simp only [memA_size]) (memA_one _ _) ?_ | refine wp_store_all (l1 := [_, _]) H 29 _ _ rfl rfl rfl (by rw [memA_size]; kernel_rfl) (by simp only [memA_size]) (memA_one _ _) ?_); clear H; intro u H; refine hK _ _ ?_; clear hK K; (try simp only [List.cons_append, List.nil_append] at H)) | ((refine wpList_on (o := ⟨_, .load 29 _, _, _, _, _⟩) rfl (fun K hK => ?_)); (try simp only [Act.put, List.setIfInBounds_toArray, List.set_cons_zero, List.set_cons_succ]); refine wp_load_all H 29 _ rfl rfl (by repeat (first | exact List.mem_cons_self | apply List.mem_cons_of_mem | apply List.mem_append_right)) (by rw [memA_size]; kernel_rfl) ?_; refine hK _ _ ?_; clear hK K) | (go_at_call 20; (with_reducible refine (Erase_any _ _ _ hG).mono ?_); rintro e w1 ⟨vo, tl, rfl, RO, hb⟩; obtain ⟨gx, capx, csx, rfl, rfl, hcapx, hszx, hcsx⟩ := RO.some_ (by omega); clear RO hszx; replace H := H.joinR hb; clear hb; (try simp only [List.cons_append, List.nil_append] at H)))
  have cG1 := Lib.hid (fun u => Good_any f s u hE.mem)
  have cG2 := Lib.hid (fun u => Good_any h t u hG)
  have cG3 := Lib.hid (fun u => Good_any (eC h) t u (eC_good hG))
  have hO := Lib.hid (eO_in h)
  clear hE hG
  generalize eC h = m2 at *
  generalize eO h = xo at *
  replace hcsx := Lib.hid hcsx
  go_loopw [25] (fun c wr => ∃ k : Nat, k ≤ 80 ∧ c = .int .i64 k ∧ Has w wr [(g6, 29, memA m2 t), (g4, 29, memA h t), (g3, 31, encA q n f s), (gx, 3, csx)]) (fun c _ => 80 - (intOf c).toNat)
  case atStart => exact ⟨0, by omega, rfl, H⟩
  clear H
  case round =>
    obtain ⟨k, hk, rfl, H⟩ := hrel
    by_cases hlt : k < 80
    · obtain ⟨x1, x2⟩ := hO.out k
      have q1 : (k : Int) < 80 := by omega
      have d1 := lt_no x1
      have d2 := lt_no x2
      go_wp2_with (first | ((refine wpList_on (o := ⟨_, .load 3 _, _, _, _, _⟩) rfl (fun K hK => ?_)); (try simp only [Act.put, List.setIfInBounds_toArray, List.set_cons_zero, List.set_cons_succ]); refine wp_load_one H 3 _ rfl rfl (by repeat (first | exact List.mem_cons_self | apply List.mem_cons_of_mem | apply List.mem_append_right)) (by kernel_rfl) (hcsx.out k (by omega)) ?_; refine hK _ _ ?_; clear hK K))
      go_roundw
      case rel => exact ⟨k + 1, by omega, by go_num, H⟩
      case measure => simp [intOf]; omega
    · obtain rfl : k = 80 := by omega
      go_wp2_with (first | (go_at_call 14; (with_reducible refine (alive_any _ (hT.has H) (hP.has H) (hW.has H)).mono ?_); rintro e w1 ⟨rfl, hb⟩; replace H := H.callee hb; clear hb) | ((refine wpList_on (o := ⟨_, .load 29 _, _, _, _, _⟩) rfl (fun K hK => ?_)); (try simp only [Act.put, List.setIfInBounds_toArray, List.set_cons_zero, List.set_cons_succ]); refine wp_load_all H 29 _ rfl rfl (by repeat (first | exact List.mem_cons_self | apply List.mem_cons_of_mem | apply List.mem_append_right)) (by rw [memA_size]; kernel_rfl) ?_; refine hK _ _ ?_; clear hK K) | ((refine wpList_on (o := ⟨_, .load 29 _, _, _, _, _⟩) rfl (fun K hK => ?_)); (try simp only [Act.put, List.setIfInBounds_toArray, List.set_cons_zero, List.set_cons_succ]); refine wp_load_part (n := 102) H 29 _ rfl rfl (by repeat (first | exact List.mem_cons_self | apply List.mem_cons_of_mem | apply List.mem_append_right)) (by kernel_rfl) (by rw [encA_size]; omega) (encA_mem _ _ _ _) ?_; refine hK _ _ ?_; clear hK K) | (go_at_call 21; (with_reducible refine (cG1.out _).mono ?_); rintro e w1 ⟨rfl, hb⟩; replace H := H.callee hb; clear hb) | (go_at_call 21; (with_reducible refine (cG2.out _).mono ?_); rintro e w1 ⟨rfl, hb⟩; replace H := H.callee hb; clear hb) | (go_at_call 21; (with_reducible refine (cG3.out _).mono ?_); rintro e w1 ⟨rfl, hb⟩; replace H := H.callee hb; clear hb))
      go_ret
      exact ⟨rfl, H.below⟩
end Go.Proofs.YtcoicmbjoaonoaaDoor
