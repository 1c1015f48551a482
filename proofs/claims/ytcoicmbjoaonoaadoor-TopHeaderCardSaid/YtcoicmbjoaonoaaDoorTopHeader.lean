/-
  The walk of TopHeader. No statement is proved here.
-/
import Derived.Test.YtcoicmbjoaonoaaDoorTopEnds
namespace Go.Proofs.YtcoicmbjoaonoaaDoor
set_option linter.unusedVariables false
set_option linter.unusedSimpArgs false
open Go.RowKit
set_option maxRecDepth 100000
theorem subs_eql0 (w : World) : (binOp .eql 42 (.agg (row 16 fun _ => 0)) (.agg #[.int .i64 0, .int .i64 0, .int .i64 0, .int .i64 0, .int .i64 0, .int .i64 0, .int .i64 0, .int .i64 0, .int .i64 0, .int .i64 0, .int .i64 0, .int .i64 0, .int .i64 0, .int .i64 0, .int .i64 0, .int .i64 0])).run Tryd.prog w = .ok (.bool true) w := by kernel_rfl
set_option maxHeartbeats 6400000 in
theorem topHeader_walk (A : Option Addr) (len cap b o : Nat) (T : Nat → TalkV) (A' : Option Addr) (len' cap' : Nat) (ad : Addr) (l : Nat → Int) (r : Bool) (w : World) (hT : Roots w) (hP : Gains w) (hW : Widths w) (h1 : len ≤ cap) (h2 : cap ≤ 9223372036854775807) (hA : Talks w A len b o T) (hn : len' ≤ 9223372036854775807) (hR : ReadsA w A' len' ad l) :
    Calls Tryd.prog 6 #[.slice A len cap, .slice A' len' cap', .bool r] w fun e w' => e = .returned (.bool true) ∧ Below w.heap.size w w' := by
  have H := Has.start w
  have cX := Lib.hid (fun (u : World) (hT : Roots u) (hP : Gains u) (hW : Widths u) (hb : Below w.heap.size w u) => ends_any A len cap b o T u h1 h2 (hA.below hb) hT hP hW)
  unfold EndsPost at cX
  have cF := Lib.hid (fun (u : World) (hb : Below w.heap.size w u) => frameT_any A' len' cap' ad l u hn (hR.below hb))
  unfold FrameTPost at cF
  clear hA hR
  go_enter Tryd.func6, Tryd.ntmps6
  go_wp2_with (first | (go_at_call 15; (with_reducible refine (cX.out _ (hT.has H) (hP.has H) (hW.has H) H.below).mono ?_); rintro e w1 ⟨q, n, f, h, s, t, hE, hG, rfl, hb⟩; replace H := H.callee hb; clear hb) | (refine wpList_on (o := ⟨some 7, .alloc 31, _, _, _, _⟩) rfl (fun K hK => ?_); refine wp_alloc H 31 rfl (z := (.agg (encA Z0 Z0 Z0 false))) (by kernel_rfl) ?_; clear H; intro u g7 H; refine hK _ _ ?_; clear hK K; try simp only [Value.cells, List.cons_append, List.nil_append] at H) | (refine wpList_on (o := ⟨some 8, .alloc 29, _, _, _, _⟩) rfl (fun K hK => ?_); refine wp_alloc H 29 rfl (z := (.agg (memA (fun _ => 0) false))) (by kernel_rfl) ?_; clear H; intro u g8 H; refine hK _ _ ?_; clear hK K; try simp only [Value.cells, List.cons_append, List.nil_append] at H) | (refine wpList_on (o := ⟨some 11, .alloc 31, _, _, _, _⟩) rfl (fun K hK => ?_); refine wp_alloc H 31 rfl (z := (.agg (encA Z0 Z0 Z0 false))) (by kernel_rfl) ?_; clear H; intro u g11 H; refine hK _ _ ?_; clear hK K; try simp only [Value.cells, List.cons_append, List.nil_append] at H) | (refine wpList_on (o := ⟨some 15, .alloc 44, _, _, _, _⟩) rfl (fun K hK => ?_); refine wp_alloc H 44 rfl (z := (.agg (row 25 fun _ => 0))) (by kernel_rfl) ?_; clear H; intro u g15 H; refine hK _ _ ?_; clear hK K; try simp only [Value.cells, List.cons_append, List.nil_append] at H) | ((refine wpList_on (o := ⟨_, .store 31 _ _, _, _, _, _⟩) rfl (fun K hK => ?_)); (try simp only [Act.put, List.setIfInBounds_toArray, List.set_cons_zero, List.set_cons_succ]); (first | refine wp_store_all (l1 := []) H 31 _ _ rfl rfl rfl (by rw [encA_size]; kernel_rfl) (by simp only [encA_size]) (encA_one _ _ _ _) ?_ | refine wp_store_all (l1 := [_]) H 31 _ _ rfl rfl rfl (by rw [encA_size]; kernel_rfl) (by simp only [encA_size]) (encA_one _ _ _ _) ?_ | refine wp_store_all (l1 := [_, _]) H 31 _ _ rfl rfl rfl (by rw [encA_size]; kernel_rfl) (by simp only [encA_size]) (encA_one _ _ _ _) ?_); clear H; intro u H; refine hK _ _ ?_; clear hK K; (try simp only [List.cons_append, List.nil_append] at H)) | ((refine wpList_on (o := ⟨_, .store 29 _ _, _, _, _, _⟩) rfl (fun K hK => ?_)); (try simp only [Act.put, List.setIfInBounds_toArray, List.set_cons_zero, List.set_cons_succ]); (first | refine wp_store_all (l1 := []) H 29 _ _ rfl rfl rfl (by rw [memA_size]; kernel_rfl) (by simp only [memA_size]) (memA_one _ _) ?_ | refine wp_store_all (l1 := [_]) H 29 _ _ rfl rfl rfl (by rw [memA_size]; kernel_rfl) (by simp only [memA_size]) (memA_one _ _) ?_ | refine wp_store_all (l1 := [_, _]) H 29 _ _ rfl rfl rfl (by rw [memA_size]; kernel_rfl) (by simp only [memA_size]) (memA_one _ _) ?_); clear H; intro u H; refine hK _ _ ?_; clear hK K; (try simp only [List.cons_append, List.nil_append] at H)) | ((refine wpList_on (o := ⟨_, .load 31 _, _, _, _, _⟩) rfl (fun K hK => ?_)); (try simp only [Act.put, List.setIfInBounds_toArray, List.set_cons_zero, List.set_cons_succ]); refine wp_load_all H 31 _ rfl rfl (by repeat (first | exact List.mem_cons_self | apply List.mem_cons_of_mem | apply List.mem_append_right)) (by rw [encA_size]; kernel_rfl) ?_; refine hK _ _ ?_; clear hK K) | (go_at_call 16; (with_reducible refine (cF.out _ H.below).mono ?_); rintro e u ⟨gf, rfl, hb⟩; replace H := H.joinR hb; clear hb; (try simp only [List.cons_append, List.nil_append] at H)) | (go_at_call 12; (with_reducible refine (Encode_next _ _ _ (listF len' l) _ _ hE (fun i _ => listF_16 _ _ i) (H.lies (m := 80) (by repeat (first | exact List.mem_cons_self | apply List.mem_cons_of_mem | apply List.mem_append_right)) (Nat.le_refl _)) (hT.has H) (hP.has H) (hW.has H)).mono ?_); rintro e u ⟨q2, n2, P, k2, gp, vo, tl, hE2, hp, hr1, hr0, rfl, RO, hb⟩; obtain ⟨gs, capS, csS, rfl, rfl, hcapS, hszS, hcsS⟩ := RO.some_ (by omega); clear RO hszS hcapS hcsS; replace H := H.joinR hb; clear hb; (try simp only [List.cons_append, List.nil_append] at H)))
  clear cX cF hE hG hE2
  have hS : PkE P k2 ∧ (r = true → k2 = 1) ∧ (r = false → k2 = 0 ∨ k2 = 2) := ⟨hp, hr1, hr0⟩
  have cU := Lib.hid (fun (u : World) (hW : Widths u) (hB : Bytes u gp 15 (packB P (parP P))) => Unpack_back hp.most gp u hW hB)
  have h0 : packI P 0 = (k2 : Int) := pk_kind hp
  have hz : k2 = 2 → (row 25 (packI P)).extract 9 (9 + 16) = row 16 fun _ => 0 := fun h => by
    rw [row_extract _ (by omega)]
    exact row_congr fun i hi => by
      have := hp.quiet h i hi
      unfold packI
      rw [this]
      rfl
  replace hz := Lib.hid hz
  clear hS hp
  generalize frM f (packI P) = m1 at *
  generalize frS (packI P) = t1 at *
  generalize packI P = p at *
  generalize packB P (parP P) = bb at *
  cases r
  · rcases hr0 rfl with rfl | rfl
    · have h00 : p 0 = 0 := h0
      clear hr0 hr1 hz h0
      go_wp2_with (first | (go_at_call 13; (with_reducible refine (cU.out _ (hW.has H) (Bytes.ofRow H (by repeat (first | exact List.mem_cons_self | apply List.mem_cons_of_mem | apply List.mem_append_right)) (Nat.le_refl 15))).mono ?_); rintro e u ⟨rfl, hb⟩; replace H := H.callee hb; clear hb) | (refine wpList_on (o := ⟨some 15, .alloc 44, _, _, _, _⟩) rfl (fun K hK => ?_); refine wp_alloc H 44 rfl (z := (.agg (row 25 fun _ => 0))) (by kernel_rfl) ?_; clear H; intro u g15 H; refine hK _ _ ?_; clear hK K; try simp only [Value.cells, List.cons_append, List.nil_append] at H) | ((refine wpList_on (o := ⟨_, .store 44 _ _, _, _, _, _⟩) rfl (fun K hK => ?_)); (try simp only [Act.put, List.setIfInBounds_toArray, List.set_cons_zero, List.set_cons_succ]); refine wp_store_all (l1 := []) H 44 _ _ rfl rfl rfl (by kernel_rfl) (by simp [row_size]) (row_one _ _) ?_; clear H; intro u H; refine hK _ _ ?_; clear hK K; try simp only [Value.cells, List.cons_append, List.nil_append] at H))
      go_wp2_with (go_at_call 14; (with_reducible refine (alive_any _ (hT.has H) (hP.has H) (hW.has H)).mono ?_); rintro e w1 ⟨rfl, hb⟩; replace H := H.callee hb; clear hb; have hc : w1.cell? ⟨g15, 0, none⟩ = some (.int .i64 0) := ((H.at_ (t := 44) (cs := row 25 p) (by repeat (first | exact List.mem_cons_self | apply List.mem_cons_of_mem | apply List.mem_append_right))).cell 0).trans ((row_get p (by omega)).trans (by rw [h00])))
      go_ret
      exact ⟨rfl, H.below⟩
    · have hx := Lib.hid (hz.out rfl)
      have heq := fun w => subs_eql0 w
      have h00 : p 0 = 2 := h0
      clear hr0 hr1 hz h0
      go_wp2_with (first | (go_at_call 13; (with_reducible refine (cU.out _ (hW.has H) (Bytes.ofRow H (by repeat (first | exact List.mem_cons_self | apply List.mem_cons_of_mem | apply List.mem_append_right)) (Nat.le_refl 15))).mono ?_); rintro e u ⟨rfl, hb⟩; replace H := H.callee hb; clear hb) | (refine wpList_on (o := ⟨some 15, .alloc 44, _, _, _, _⟩) rfl (fun K hK => ?_); refine wp_alloc H 44 rfl (z := (.agg (row 25 fun _ => 0))) (by kernel_rfl) ?_; clear H; intro u g15 H; refine hK _ _ ?_; clear hK K; try simp only [Value.cells, List.cons_append, List.nil_append] at H) | ((refine wpList_on (o := ⟨_, .store 44 _ _, _, _, _, _⟩) rfl (fun K hK => ?_)); (try simp only [Act.put, List.setIfInBounds_toArray, List.set_cons_zero, List.set_cons_succ]); refine wp_store_all (l1 := []) H 44 _ _ rfl rfl rfl (by kernel_rfl) (by simp [row_size]) (row_one _ _) ?_; clear H; intro u H; refine hK _ _ ?_; clear hK K; try simp only [Value.cells, List.cons_append, List.nil_append] at H) | ((refine wpList_on (o := ⟨_, .load 3 _, _, _, _, _⟩) rfl (fun K hK => ?_)); (try simp only [Act.put, List.setIfInBounds_toArray, List.set_cons_zero, List.set_cons_succ]); refine wp_load_one H 3 _ rfl rfl (by repeat (first | exact List.mem_cons_self | apply List.mem_cons_of_mem | apply List.mem_append_right)) (by kernel_rfl) (row_get _ (by omega)) ?_; refine hK _ _ ?_; clear hK K) | (go_at_call 14; (with_reducible refine (alive_any _ (hT.has H) (hP.has H) (hW.has H)).mono ?_); rintro e w1 ⟨rfl, hb⟩; replace H := H.callee hb; clear hb) | ((refine wpList_on (o := ⟨_, .load 42 _, _, _, _, _⟩) rfl (fun K hK => ?_)); (try simp only [Act.put, List.setIfInBounds_toArray, List.set_cons_zero, List.set_cons_succ]); refine wp_load_part (n := 16) H 42 _ rfl rfl (by repeat (first | exact List.mem_cons_self | apply List.mem_cons_of_mem | apply List.mem_append_right)) (by kernel_rfl) (by rw [row_size]; omega) (hx.out) ?_; refine hK _ _ ?_; clear hK K))
      go_ret
      exact ⟨rfl, H.below⟩
  · obtain rfl := hr1 rfl
    have h00 : p 0 = 1 := h0
    clear hr0 hr1 hz h0
    go_wp2_with (first | (go_at_call 13; (with_reducible refine (cU.out _ (hW.has H) (Bytes.ofRow H (by repeat (first | exact List.mem_cons_self | apply List.mem_cons_of_mem | apply List.mem_append_right)) (Nat.le_refl 15))).mono ?_); rintro e u ⟨rfl, hb⟩; replace H := H.callee hb; clear hb) | (refine wpList_on (o := ⟨some 15, .alloc 44, _, _, _, _⟩) rfl (fun K hK => ?_); refine wp_alloc H 44 rfl (z := (.agg (row 25 fun _ => 0))) (by kernel_rfl) ?_; clear H; intro u g15 H; refine hK _ _ ?_; clear hK K; try simp only [Value.cells, List.cons_append, List.nil_append] at H) | ((refine wpList_on (o := ⟨_, .store 44 _ _, _, _, _, _⟩) rfl (fun K hK => ?_)); (try simp only [Act.put, List.setIfInBounds_toArray, List.set_cons_zero, List.set_cons_succ]); refine wp_store_all (l1 := []) H 44 _ _ rfl rfl rfl (by kernel_rfl) (by simp [row_size]) (row_one _ _) ?_; clear H; intro u H; refine hK _ _ ?_; clear hK K; try simp only [Value.cells, List.cons_append, List.nil_append] at H) | ((refine wpList_on (o := ⟨_, .load 3 _, _, _, _, _⟩) rfl (fun K hK => ?_)); (try simp only [Act.put, List.setIfInBounds_toArray, List.set_cons_zero, List.set_cons_succ]); refine wp_load_one H 3 _ rfl rfl (by repeat (first | exact List.mem_cons_self | apply List.mem_cons_of_mem | apply List.mem_append_right)) (by kernel_rfl) (row_get _ (by omega)) ?_; refine hK _ _ ?_; clear hK K) | (go_at_call 14; (with_reducible refine (alive_any _ (hT.has H) (hP.has H) (hW.has H)).mono ?_); rintro e w1 ⟨rfl, hb⟩; replace H := H.callee hb; clear hb))
    go_ret
    exact ⟨rfl, H.below⟩
end Go.Proofs.YtcoicmbjoaonoaaDoor
