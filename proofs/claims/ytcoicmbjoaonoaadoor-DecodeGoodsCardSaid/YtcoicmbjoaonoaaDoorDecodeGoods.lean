/-
  The walk of DecodeGoods. No statement is proved here.
-/
import Derived.Test.YtcoicmbjoaonoaaDoorZbb
import Derived.Test.YtcoicmbjoaonoaaDoorZai
import Derived.Test.YtcoicmbjoaonoaaDoorZar
namespace Go.Proofs.YtcoicmbjoaonoaaDoor
set_option linter.unusedVariables false
set_option linter.unusedSimpArgs false
open Go.RowKit
set_option maxRecDepth 100000
set_option maxHeartbeats 6400000 in
theorem decodeGoods_in (f m n q x y p r : Nat → Int) (s t : Bool) (b : Nat → Nat) (w : World) (hT : Roots w) (hP : Gains w) (hW : Widths w) (h0 : n 99 = 0)
    (cM : ∀ w : World, Calls Tryd.prog 24 #[.agg (memA f s)] w fun e w' => e = .returned (.agg (memA m s)) ∧ Below w.heap.size w w')
    (cK : ∀ w : World, Calls Tryd.prog 22 #[.agg (row 25 p)] w fun e w' => e = .returned (.agg (row 25 r)) ∧ Below w.heap.size w w')
    (cP : ∀ w : World, Widths w → Calls Tryd.prog 23 #[.agg (row 25 r)] w fun e w' => ∃ g, e = .returned (.tuple #[.slice (some ⟨g, 0, none⟩) 15 15, .int .i64 0]) ∧ Has w w' [(g, 5, rowU 15 b)])
    (cD : ∀ (g : Nat) (w : World), Roots w → Gains w → Widths w → Bytes w g 15 b → Calls Tryd.prog 17 #[.agg (memA m s), .slice (some ⟨g, 0, none⟩) 15 15] w fun e w' => ∃ v tl, e = .returned (.tuple #[.agg (memA n t), v, .int .i64 0]) ∧ Rowed 3 1 v 80 (fun i => .int .i64 (x i)) tl ∧ Has w w' tl)
    (cE : ∀ w : World, Calls Tryd.prog 20 #[.agg (memA m s)] w fun e w' => ∃ v tl, e = .returned (.tuple #[.agg (memA q s), v, .int .i64 0]) ∧ Rowed 3 1 v 80 (fun i => .int .i64 (y i)) tl ∧ Has w w' tl)
    (cG0 : ∀ w : World, Calls Tryd.prog 21 #[.agg (memA n t)] w fun e w' => e = .returned (.bool true) ∧ Below w.heap.size w w')
    (cG1 : ∀ w : World, Calls Tryd.prog 21 #[.agg (memA q s)] w fun e w' => e = .returned (.bool true) ∧ Below w.heap.size w w')
    (cW0 : ∀ (v : Value) (w : World), Lies w v 80 x → Calls Tryd.prog 32 #[v, .int .i64 80] w fun e w' => e = .returned (.bool true) ∧ w = w')
    (cW1 : ∀ (v : Value) (w : World), Lies w v 80 y → Calls Tryd.prog 32 #[v, .int .i64 80] w fun e w' => e = .returned (.bool true) ∧ w = w') :
    Calls Tryd.prog 9 #[.agg (memA f s), .agg (row 25 p)] w fun e w' => e = .returned (.bool true) ∧ Below w.heap.size w w' := by
  have H := Has.start w
  replace cM := Lib.hid cM
  replace cK := Lib.hid cK
  replace cP := Lib.hid cP
  replace cD := Lib.hid cD
  replace cE := Lib.hid cE
  replace cG0 := Lib.hid cG0
  replace cG1 := Lib.hid cG1
  replace cW0 := Lib.hid cW0
  replace cW1 := Lib.hid cW1
  go_enter Tryd.func9, Tryd.ntmps9
  go_wp2_with (first | ((refine wpList_on (o := ⟨_, .box _ (.tmp 0), _, _, _, _⟩) rfl (fun K hK => ?_)); (try simp only [Act.put, List.setIfInBounds_toArray, List.set_cons_zero, List.set_cons_succ]); refine wp_box H _ (.tmp 0) rfl (v := .agg (memA _ _)) rfl ?_; clear H; intro u g2 H; refine hK _ _ ?_; clear hK K; try simp only [Value.cells, List.cons_append, List.nil_append] at H) | ((refine wpList_on (o := ⟨_, .box _ (.tmp 1), _, _, _, _⟩) rfl (fun K hK => ?_)); (try simp only [Act.put, List.setIfInBounds_toArray, List.set_cons_zero, List.set_cons_succ]); refine wp_box H _ (.tmp 1) rfl (v := .agg _) rfl ?_; clear H; intro u g3 H; refine hK _ _ ?_; clear hK K; try simp only [Value.cells, List.cons_append, List.nil_append] at H) | (refine wpList_on (o := ⟨some 7, .alloc 29, _, _, _, _⟩) rfl (fun K hK => ?_); refine wp_alloc H 29 rfl (z := (.agg (memA (fun _ => 0) false))) (by kernel_rfl) ?_; clear H; intro u g7 H; refine hK _ _ ?_; clear hK K; try simp only [Value.cells, List.cons_append, List.nil_append] at H) | (refine wpList_on (o := ⟨some 10, .alloc 29, _, _, _, _⟩) rfl (fun K hK => ?_); refine wp_alloc H 29 rfl (z := (.agg (memA (fun _ => 0) false))) (by kernel_rfl) ?_; clear H; intro u g10 H; refine hK _ _ ?_; clear hK K; try simp only [Value.cells, List.cons_append, List.nil_append] at H) | ((refine wpList_on (o := ⟨_, .load 29 _, _, _, _, _⟩) rfl (fun K hK => ?_)); (try simp only [Act.put, List.setIfInBounds_toArray, List.set_cons_zero, List.set_cons_succ]); refine wp_load_all H 29 _ rfl rfl (by repeat (first | exact List.mem_cons_self | apply List.mem_cons_of_mem | apply List.mem_append_right)) (by rw [memA_size]; kernel_rfl) ?_; refine hK _ _ ?_; clear hK K) | ((refine wpList_on (o := ⟨_, .load 44 _, _, _, _, _⟩) rfl (fun K hK => ?_)); (try simp only [Act.put, List.setIfInBounds_toArray, List.set_cons_zero, List.set_cons_succ]); refine wp_load_all H 44 _ rfl rfl (by repeat (first | exact List.mem_cons_self | apply List.mem_cons_of_mem | apply List.mem_append_right)) (by kernel_rfl) ?_; refine hK _ _ ?_; clear hK K) | (go_at_call 24; (with_reducible refine (cM.out _).mono ?_); rintro e w1 ⟨rfl, hb⟩; replace H := H.callee hb; clear hb) | ((refine wpList_on (o := ⟨_, .store 29 _ _, _, _, _, _⟩) rfl (fun K hK => ?_)); (try simp only [Act.put, List.setIfInBounds_toArray, List.set_cons_zero, List.set_cons_succ]); refine wp_store_all (l1 := [_]) H 29 _ _ rfl rfl rfl (by rw [memA_size]; kernel_rfl) (by rw [memA_size, memA_size]) (memA_one _ _) ?_; clear H; intro u H; refine hK _ _ ?_; clear hK K; try simp only [Value.cells, List.cons_append, List.nil_append] at H) | ((refine wpList_on (o := ⟨_, .store 29 _ _, _, _, _, _⟩) rfl (fun K hK => ?_)); (try simp only [Act.put, List.setIfInBounds_toArray, List.set_cons_zero, List.set_cons_succ]); refine wp_store_all (l1 := []) H 29 _ _ rfl rfl rfl (by rw [memA_size]; kernel_rfl) (by rw [memA_size, memA_size]) (memA_one _ _) ?_; clear H; intro u H; refine hK _ _ ?_; clear hK K; try simp only [Value.cells, List.cons_append, List.nil_append] at H) | (go_at_call 22; (with_reducible refine (cK.out _).mono ?_); rintro e w1 ⟨rfl, hb⟩; replace H := H.callee hb; clear hb) | (go_at_call 23; (with_reducible refine (cP.out _ (hW.has H)).mono ?_); rintro e w1 ⟨gb, rfl, hb⟩; replace H := H.join hb; clear hb; (try simp only [List.cons_append, List.nil_append] at H)) | (go_at_call 17; (with_reducible refine (cD.out _ _ (hT.has H) (hP.has H) (hW.has H) (Bytes.ofRow H (by repeat (first | exact List.mem_cons_self | apply List.mem_cons_of_mem | apply List.mem_append_right)) (Nat.le_refl 15))).mono ?_); rintro e w1 ⟨vo, tl, rfl, RO, hb⟩; obtain ⟨gx, capx, csx, rfl, rfl, hcapx, hszx, hcsx⟩ := RO.some_ (by omega); clear RO hszx; replace H := H.join hb; clear hb; (try simp only [List.cons_append, List.nil_append] at H)) | (go_at_call 20; (with_reducible refine (cE.out _).mono ?_); rintro e w1 ⟨vo, tl, rfl, RO, hb⟩; obtain ⟨gy, capy, csy, rfl, rfl, hcapy, hszy, hcsy⟩ := RO.some_ (by omega); clear RO hszy; replace H := H.join hb; clear hb; (try simp only [List.cons_append, List.nil_append] at H)) | (go_at_call 25; (with_reducible refine (codes_any _ (hT.has H) (hP.has H) (hW.has H)).mono ?_); rintro e w1 ⟨rfl, hb⟩; replace H := H.callee hb; clear hb) | (go_at_call 32; (with_reducible refine (cW0.out _ _ (lies_n H (cs := csx) (by repeat (first | exact List.mem_cons_self | apply List.mem_cons_of_mem | apply List.mem_append_right)) hcsx)).mono ?_); rintro e w1 ⟨rfl, rfl⟩) | (go_at_call 32; (with_reducible refine (cW1.out _ _ (lies_n H (cs := csy) (by repeat (first | exact List.mem_cons_self | apply List.mem_cons_of_mem | apply List.mem_append_right)) hcsy)).mono ?_); rintro e w1 ⟨rfl, rfl⟩) | (go_at_call 21; (with_reducible refine (cG0.out _).mono ?_); rintro e w1 ⟨rfl, hb⟩; replace H := H.callee hb; clear hb) | (go_at_call 21; (with_reducible refine (cG1.out _).mono ?_); rintro e w1 ⟨rfl, hb⟩; replace H := H.callee hb; clear hb) | ((refine wpList_on (o := ⟨_, .load 3 _, _, _, _, _⟩) rfl (fun K hK => ?_)); (try simp only [Act.put, List.setIfInBounds_toArray, List.set_cons_zero, List.set_cons_succ]); refine wp_load_one H 3 _ rfl rfl (by repeat (first | exact List.mem_cons_self | apply List.mem_cons_of_mem | apply List.mem_append_right)) (by kernel_rfl) (memA_get _ _ (by omega)) ?_; refine hK _ _ ?_; clear hK K))
  go_ret
  exact ⟨rfl, H.below⟩
theorem decodeGoods_walk (f : Nat → Int) (s : Bool) (p : Nat → Int) (w : World) (hT : Roots w) (hP : Gains w) (hW : Widths w) :
    Calls Tryd.prog 9 #[.agg (memA f s), .agg (row 25 p)] w fun e w' => e = .returned (.bool true) ∧ Below w.heap.size w w' := by
  have hG := memI_good f
  have hp : ∀ j, j < 25 → packF p j ≤ mostF j := fun j _ => packF_le p j
  have hk := pkOk_of hp
  exact decodeGoods_in f (memI f) (frM (memI f) (packI (packF p))) (eC (memI f)) (frO (memI f) (packI (packF p))) (eO (memI f)) p (packI (packF p)) s (frS (packI (packF p))) (packB (packF p) (parP (packF p))) w hT hP hW (frM_erased _ _)
    (fun w => memory_any f s w) (fun w => packet_any p w) (fun w hW => Pack_any (packF p) w hW hp)
    (fun g w hT hP hW hB => Decode_ok (memI f) s (packF p) g w hG hp hT hP hW 15 (Nat.le_refl _) hB)
    (fun w => Erase_any (memI f) s w hG) (fun w => Good_any _ _ w (frM_good hG hk)) (fun w => Good_any _ _ w (eC_good hG))
    (fun v w L => within_any _ (fun i _ => frO_in _ _ i) L) (fun v w L => within_any _ (fun i _ => eO_in _ i) L)
end Go.Proofs.YtcoicmbjoaonoaaDoor
