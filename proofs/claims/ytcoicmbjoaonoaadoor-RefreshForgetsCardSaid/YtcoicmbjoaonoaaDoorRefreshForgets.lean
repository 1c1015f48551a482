/-
  The walk of RefreshForgets. No statement is proved here.
-/
import Derived.Test.YtcoicmbjoaonoaaDoorZbb
import Derived.Test.YtcoicmbjoaonoaaDoorZai
import Derived.Test.YtcoicmbjoaonoaaDoorZar
import Derived.Test.YtcoicmbjoaonoaaDoorZad
namespace Go.Proofs.YtcoicmbjoaonoaaDoor
set_option linter.unusedVariables false
set_option linter.unusedSimpArgs false
open Go.RowKit
set_option maxRecDepth 100000
set_option maxHeartbeats 6400000 in
theorem refreshForgets_in (f f' m m' n x p r : Nat → Int) (s s' t : Bool) (b : Nat → Nat) (w : World) (hT : Roots w) (hP : Gains w) (hW : Widths w)
    (cM : ∀ w : World, Calls Tryd.prog 24 #[.agg (memA f s)] w fun e w' => e = .returned (.agg (memA m s)) ∧ Below w.heap.size w w')
    (cN : ∀ w : World, Calls Tryd.prog 24 #[.agg (memA f' s')] w fun e w' => e = .returned (.agg (memA m' s')) ∧ Below w.heap.size w w')
    (cK : ∀ w : World, Calls Tryd.prog 22 #[.agg (row 25 p)] w fun e w' => e = .returned (.agg (row 25 r)) ∧ Below w.heap.size w w')
    (cP : ∀ w : World, Widths w → Calls Tryd.prog 23 #[.agg (row 25 fun j => if j = 0 then 1 else r j)] w fun e w' => ∃ g, e = .returned (.tuple #[.slice (some ⟨g, 0, none⟩) 15 15, .int .i64 0]) ∧ Has w w' [(g, 5, rowU 15 b)])
    (cD : ∀ (g : Nat) (w : World), Roots w → Gains w → Widths w → Bytes w g 15 b → Calls Tryd.prog 17 #[.agg (memA m s), .slice (some ⟨g, 0, none⟩) 15 15] w fun e w' => ∃ v tl, e = .returned (.tuple #[.agg (memA n t), v, .int .i64 0]) ∧ Rowed 3 1 v 80 (fun i => .int .i64 (x i)) tl ∧ Has w w' tl)
    (cE : ∀ (g : Nat) (w : World), Roots w → Gains w → Widths w → Bytes w g 15 b → Calls Tryd.prog 17 #[.agg (memA m' s'), .slice (some ⟨g, 0, none⟩) 15 15] w fun e w' => ∃ v tl, e = .returned (.tuple #[.agg (memA n t), v, .int .i64 0]) ∧ Rowed 3 1 v 80 (fun i => .int .i64 (x i)) tl ∧ Has w w' tl) :
    Calls Tryd.prog 7 #[.agg (memA f s), .agg (memA f' s'), .agg (row 25 p)] w fun e w' => e = .returned (.bool true) ∧ Below w.heap.size w w' := by
  have H := Has.start w
  replace cM := Lib.hid cM
  replace cN := Lib.hid cN
  replace cK := Lib.hid cK
  replace cP := Lib.hid cP
  replace cD := Lib.hid cD
  replace cE := Lib.hid cE
  have heq := fun w => mem_eql n t w
  go_enter Tryd.func7, Tryd.ntmps7
  go_wp2_with (first | ((refine wpList_on (o := ⟨_, .box _ (.tmp 0), _, _, _, _⟩) rfl (fun K hK => ?_)); (try simp only [Act.put, List.setIfInBounds_toArray, List.set_cons_zero, List.set_cons_succ]); refine wp_box H _ (.tmp 0) rfl (v := .agg (memA _ _)) rfl ?_; clear H; intro u g3 H; refine hK _ _ ?_; clear hK K; try simp only [Value.cells, List.cons_append, List.nil_append] at H) | ((refine wpList_on (o := ⟨_, .box _ (.tmp 1), _, _, _, _⟩) rfl (fun K hK => ?_)); (try simp only [Act.put, List.setIfInBounds_toArray, List.set_cons_zero, List.set_cons_succ]); refine wp_box H _ (.tmp 1) rfl (v := .agg (memA _ _)) rfl ?_; clear H; intro u g4 H; refine hK _ _ ?_; clear hK K; try simp only [Value.cells, List.cons_append, List.nil_append] at H) | ((refine wpList_on (o := ⟨_, .box _ (.tmp 2), _, _, _, _⟩) rfl (fun K hK => ?_)); (try simp only [Act.put, List.setIfInBounds_toArray, List.set_cons_zero, List.set_cons_succ]); refine wp_box H _ (.tmp 2) rfl (v := .agg _) rfl ?_; clear H; intro u g5 H; refine hK _ _ ?_; clear hK K; try simp only [Value.cells, List.cons_append, List.nil_append] at H) | (refine wpList_on (o := ⟨some 9, .alloc 29, _, _, _, _⟩) rfl (fun K hK => ?_); refine wp_alloc H 29 rfl (z := (.agg (memA (fun _ => 0) false))) (by kernel_rfl) ?_; clear H; intro u g9 H; refine hK _ _ ?_; clear hK K; try simp only [Value.cells, List.cons_append, List.nil_append] at H) | (refine wpList_on (o := ⟨some 12, .alloc 29, _, _, _, _⟩) rfl (fun K hK => ?_); refine wp_alloc H 29 rfl (z := (.agg (memA (fun _ => 0) false))) (by kernel_rfl) ?_; clear H; intro u g12 H; refine hK _ _ ?_; clear hK K; try simp only [Value.cells, List.cons_append, List.nil_append] at H) | ((refine wpList_on (o := ⟨_, .load 29 _, _, _, _, _⟩) rfl (fun K hK => ?_)); (try simp only [Act.put, List.setIfInBounds_toArray, List.set_cons_zero, List.set_cons_succ]); refine wp_load_all H 29 _ rfl rfl (by repeat (first | exact List.mem_cons_self | apply List.mem_cons_of_mem | apply List.mem_append_right)) (by rw [memA_size]; kernel_rfl) ?_; refine hK _ _ ?_; clear hK K) | ((refine wpList_on (o := ⟨_, .load 44 _, _, _, _, _⟩) rfl (fun K hK => ?_)); (try simp only [Act.put, List.setIfInBounds_toArray, List.set_cons_zero, List.set_cons_succ]); refine wp_load_all H 44 _ rfl rfl (by repeat (first | exact List.mem_cons_self | apply List.mem_cons_of_mem | apply List.mem_append_right)) (by kernel_rfl) ?_; refine hK _ _ ?_; clear hK K) | ((refine wpList_on (o := ⟨_, .store 44 _ _, _, _, _, _⟩) rfl (fun K hK => ?_)); (try simp only [Act.put, List.setIfInBounds_toArray, List.set_cons_zero, List.set_cons_succ]); refine wp_store_all (l1 := []) H 44 _ _ rfl rfl rfl (by kernel_rfl) (by simp [row_size]) (row_one _ _) ?_; clear H; intro u H; refine hK _ _ ?_; clear hK K; try simp only [Value.cells, List.cons_append, List.nil_append] at H) | ((refine wpList_on (o := ⟨_, .store 3 _ _, _, _, _, _⟩) rfl (fun K hK => ?_)); (try simp only [Act.put, List.setIfInBounds_toArray, List.set_cons_zero, List.set_cons_succ]); refine wp_store_row_ (l1 := []) H 3 _ _ rfl rfl rfl (by kernel_rfl) (by omega) ?_; clear H; intro u H; refine hK _ _ ?_; clear hK K; try simp only [Value.cells, List.cons_append, List.nil_append] at H) | (go_at_call 24; (with_reducible refine (cM.out _).mono ?_); rintro e w1 ⟨rfl, hb⟩; replace H := H.callee hb; clear hb) | (go_at_call 24; (with_reducible refine (cN.out _).mono ?_); rintro e w1 ⟨rfl, hb⟩; replace H := H.callee hb; clear hb) | ((refine wpList_on (o := ⟨_, .store 29 _ _, _, _, _, _⟩) rfl (fun K hK => ?_)); (try simp only [Act.put, List.setIfInBounds_toArray, List.set_cons_zero, List.set_cons_succ]); refine wp_store_all (l1 := []) H 29 _ _ rfl rfl rfl (by rw [memA_size]; kernel_rfl) (by rw [memA_size, memA_size]) (memA_one _ _) ?_; clear H; intro u H; refine hK _ _ ?_; clear hK K; try simp only [Value.cells, List.cons_append, List.nil_append] at H) | (go_at_call 22; (with_reducible refine (cK.out _).mono ?_); rintro e w1 ⟨rfl, hb⟩; replace H := H.callee hb; clear hb) | (go_at_call 23; (with_reducible refine (cP.out _ (hW.has H)).mono ?_); rintro e w1 ⟨gb, rfl, hb⟩; replace H := H.join hb; clear hb; (try simp only [List.cons_append, List.nil_append] at H)) | (go_at_call 17; (with_reducible refine (cD.out _ _ (hT.has H) (hP.has H) (hW.has H) (Bytes.ofRow H (by repeat (first | exact List.mem_cons_self | apply List.mem_cons_of_mem | apply List.mem_append_right)) (Nat.le_refl 15))).mono ?_); rintro e w1 ⟨vo, tl, rfl, RO, hb⟩; obtain ⟨gx, capx, csx, rfl, rfl, hcapx, hszx, hcsx⟩ := RO.some_ (by omega); clear RO hszx; replace H := H.join hb; clear hb; (try simp only [List.cons_append, List.nil_append] at H)) | (go_at_call 17; (with_reducible refine (cE.out _ _ (hT.has H) (hP.has H) (hW.has H) (Bytes.ofRow H (by repeat (first | exact List.mem_cons_self | apply List.mem_cons_of_mem | apply List.mem_append_right)) (Nat.le_refl 15))).mono ?_); rintro e w1 ⟨vo, tl, rfl, RO, hb⟩; obtain ⟨gy, capy, csy, rfl, rfl, hcapy, hszy, hcsy⟩ := RO.some_ (by omega); clear RO hszy; replace H := H.join hb; clear hb; (try simp only [List.cons_append, List.nil_append] at H)) | (go_at_call 25; (with_reducible refine (codes_any _ (hT.has H) (hP.has H) (hW.has H)).mono ?_); rintro e w1 ⟨rfl, hb⟩; replace H := H.callee hb; clear hb) | (go_at_call 26; (with_reducible refine (same_l (by omega) (lies_n H (cs := csx) (by repeat (first | exact List.mem_cons_self | apply List.mem_cons_of_mem | apply List.mem_append_right)) hcsx) (lies_n H (cs := csy) (by repeat (first | exact List.mem_cons_self | apply List.mem_cons_of_mem | apply List.mem_append_right)) hcsy)).mono ?_); rintro e w1 ⟨rfl, hb⟩; replace H := H.callee hb; clear hb))
  go_ret
  exact ⟨rfl, H.below⟩
def refP (p : Nat → Int) (j : Nat) : Nat := if j = 0 then 1 else packF p j
theorem refP_le (p : Nat → Int) (j : Nat) : refP p j ≤ mostF j := by
  unfold refP
  split
  · rename_i h
    subst h
    decide
  · exact packF_le p j
theorem refP_row (p : Nat → Int) : row 25 (packI (refP p)) = row 25 fun j => if j = 0 then 1 else packI (packF p) j := row_congr fun i hi => by
  unfold packI refP
  by_cases h : i = 0
  · rw [if_pos h, if_pos h]; rfl
  · rw [if_neg h, if_neg h]
theorem refreshForgets_walk (f : Nat → Int) (s : Bool) (f' : Nat → Int) (s' : Bool) (p : Nat → Int) (w : World) (hT : Roots w) (hP : Gains w) (hW : Widths w) :
    Calls Tryd.prog 7 #[.agg (memA f s), .agg (memA f' s'), .agg (row 25 p)] w fun e w' => e = .returned (.bool true) ∧ Below w.heap.size w w' := by
  have hp : ∀ j, j < 25 → refP p j ≤ mostF j := fun j _ => refP_le p j
  have h1 : packI (refP p) 0 = 1 := rfl
  obtain ⟨e1, e2⟩ := fr_refresh h1 (memI f) (memI f')
  refine refreshForgets_in f f' (memI f) (memI f') (frM (memI f) (packI (refP p))) (frO (memI f) (packI (refP p))) p (packI (packF p)) s s' (frS (packI (refP p))) (packB (refP p) (parP (refP p))) w hT hP hW
    (fun w => memory_any f s w) (fun w => memory_any f' s' w) (fun w => packet_any p w) (fun w hW => by rw [← refP_row]; exact Pack_any (refP p) w hW hp)
    (fun g w hT hP hW hB => Decode_ok (memI f) s (refP p) g w (memI_good f) hp hT hP hW 15 (Nat.le_refl _) hB) (fun g w hT hP hW hB => ?_)
  rw [e1, e2]
  exact Decode_ok (memI f') s' (refP p) g w (memI_good f') hp hT hP hW 15 (Nat.le_refl _) hB
end Go.Proofs.YtcoicmbjoaonoaaDoor
