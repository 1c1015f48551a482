/-
  pack: Good, Parity, sum walked. No statement is proved here.
-/
import Derived.Test.YthddmgnjahmceaaDoorFields
namespace Go.Proofs.YthddmgnjahmceaaDoor
open Go.RowKit
def goodB (q : Nat → Int) : Bool := (List.range 25).all fun j => decide (0 ≤ q j) && decide (q j ≤ (mostF j : Nat))
theorem goodB_iff {q : Nat → Int} : goodB q = true ↔ ∀ j, j < 25 → 0 ≤ q j ∧ q j ≤ (mostF j : Nat) := by
  unfold goodB
  simp [List.all_eq_true]
theorem goodB_no {q : Nat → Int} {k : Nat} (hk : k < 25) (h : ¬ (0 ≤ q k ∧ q k ≤ (mostF k : Nat))) : goodB q = false := by
  cases e : goodB q
  · rfl
  · exact absurd (goodB_iff.1 e k hk) h
theorem extract3 {cs : Array Value} {g n k : Nat} (hcs : ∀ i, i < 25 * 3 → cs[i]? = some (fieldC g i)) (hk : k < 25) : cs.extract (k * 3) (k * 3 + 3) = fieldRow g k := by
  have hsz : k * 3 + 3 ≤ cs.size := by
    have := hcs (k * 3 + 2) (by omega)
    have := (Array.getElem?_eq_some_iff.1 this).1
    omega
  apply Array.ext_getElem?
  intro i
  by_cases hi : i < 3
  · rw [fieldRow_get g k i hi, Array.getElem?_extract, if_pos (by omega), hcs _ (by omega), Nat.mul_comm]
  · rw [Array.getElem?_eq_none (by rw [Array.size_extract]; omega), Array.getElem?_eq_none (by show 3 ≤ i; omega)]
set_option maxHeartbeats 3200000 in
set_option maxRecDepth 100000 in
theorem Good_any (q : Nat → Int) (w : World) (hT : Widths w) : Calls Tryd.prog 10 #[.agg (row 25 q)] w fun e w' => e = .returned (.bool (goodB q)) ∧ Below w.heap.size w w' := by
  have H := Has.start w
  go_enter Tryd.func10, Tryd.ntmps10
  go_wp2_with (first | ((refine wpList_on (o := ⟨_, .box _ (.tmp 0), _, _, _, _⟩) rfl (fun K hK => ?_)); refine wp_box H _ (.tmp 0) rfl (v := .agg _) rfl ?_; clear H; intro u gp H; refine hK _ _ ?_; clear hK K; try simp only [Value.cells, List.cons_append, List.nil_append] at H) | (go_at_call 14; (with_reducible refine (fields_any gp _ (hT.has H)).mono ?_); rintro e u ⟨v, tl, rfl, RO, hb⟩; obtain ⟨gf, cap, cs, rfl, rfl, hcap, hsz, hcs⟩ := RO.some_ (by omega); clear RO; replace H := H.join hb; clear hb; simp only [List.cons_append, List.nil_append] at H))
  have HC := Lib.hid hcs
  clear hcs
  go_loopw [7] (fun c wr => ∃ k : Nat, k ≤ 25 ∧ c = .int .i64 k ∧ Hid (∀ j, j < k → 0 ≤ q j ∧ q j ≤ (mostF j : Nat)) ∧ Has w wr [(gf, 49, cs), (gp, 28, row 25 q)]) (fun c _ => 25 - (intOf c).toNat)
  case atStart => exact ⟨0, by omega, rfl, fun j hj => by omega, H⟩
  clear H
  case round =>
    obtain ⟨k, hk, rfl, HG, H⟩ := hrel
    by_cases hlt : k < 25
    · have hex := Lib.hid (extract3 (n := 0) HC.out hlt)
      have h3 : k * 3 + 3 ≤ cs.size := by omega
      go_wp2_with (first | ((refine wpList_on (o := ⟨_, .load 49 _, _, _, _, _⟩) rfl (fun K hK => ?_)); refine wp_load_part (n := 3) H 49 _ rfl rfl (by repeat (first | exact List.mem_cons_self | apply List.mem_cons_of_mem | apply List.mem_append_right)) (by kernel_rfl) h3 hex.out ?_; refine hK _ _ ?_; clear hK K) | (refine wpList_on (o := ⟨some 4, .alloc 49, _, _, _, _⟩) rfl (fun K hK => ?_); refine wp_alloc H 49 rfl (z := (.agg #[.pointer none, .int .i64 0, .int .i64 0])) (by kernel_rfl) ?_; clear H; intro u g4 H; refine hK _ _ ?_; clear hK K; try simp only [Value.cells, List.cons_append, List.nil_append] at H) | ((refine wpList_on (o := ⟨_, .store 49 _ _, _, _, _, _⟩) rfl (fun K hK => ?_)); refine wp_store_all (l1 := []) H 49 _ _ rfl rfl rfl (by kernel_rfl) rfl (by simp [Value.oneCell', fieldRow]) ?_; clear H; intro u H; refine hK _ _ ?_; clear hK K; try simp only [Value.cells, List.cons_append, List.nil_append] at H))
      by_cases h1 : q k < 0
      · have d1 : decide (q k < 0) = true := lt_yes h1
        refine wp_region_text [] (by kernel_rfl) (by kernel_rfl) (by kernel_rfl) ?_; replace H := H.drew; generalize World.drew _ = u at *
        iterate 6 (first | (refine ones_load_one (v := .pointer (some ⟨gp, k, none⟩)) (o := ⟨_, .load 47 _, _, _, _, _⟩) H 47 _ rfl rfl rfl rfl (by repeat (first | exact List.mem_cons_self | apply List.mem_cons_of_mem | apply List.mem_append_right)) (by kernel_rfl) rfl ?_; simp only [Act.put, List.setIfInBounds_toArray, List.set_cons_zero, List.set_cons_succ]) | (refine ones_load_one (o := ⟨_, .load 3 _, _, _, _, _⟩) H 3 _ rfl rfl rfl rfl (by repeat (first | exact List.mem_cons_self | apply List.mem_cons_of_mem | apply List.mem_append_right)) (by kernel_rfl) (row_get _ hlt) ?_; simp only [Act.put, List.setIfInBounds_toArray, List.set_cons_zero, List.set_cons_succ]) | (refine ones_free (v := ?_) rfl rfl ?_ ?_; rotate_left; (intro w'; go_simp; try with_reducible rfl); simp only [Act.put, List.setIfInBounds_toArray, List.set_cons_zero, List.set_cons_succ]))
        iterate 7 (with_reducible refine ones_skip (by simp [Region.wanted, yielded]) ?_; simp only [Act.put, List.setIfInBounds_toArray, List.set_cons_zero, List.set_cons_succ])
        (refine ones_free (v := ?_) rfl rfl ?_ ?_; rotate_left; (intro w'; go_simp; try with_reducible rfl); simp only [Act.put, List.setIfInBounds_toArray, List.set_cons_zero, List.set_cons_succ])
        refine ones_nil ?_
        go_wp2
        go_ret
        exact ⟨(by rw [goodB_no hlt (by omega)]; rfl), H.below⟩
      · have d1 : decide (q k < 0) = false := lt_no (by omega)
        by_cases h2 : ((mostF k : Nat) : Int) < q k
        · have d2 : decide (((mostF k : Nat) : Int) < q k) = true := lt_yes h2
          refine wp_region_text [] (by kernel_rfl) (by kernel_rfl) (by kernel_rfl) ?_; replace H := H.drew; generalize World.drew _ = u at *
          repeat (first | (refine ones_load_one (v := .pointer (some ⟨gp, k, none⟩)) (o := ⟨_, .load 47 _, _, _, _, _⟩) H 47 _ rfl rfl rfl rfl (by repeat (first | exact List.mem_cons_self | apply List.mem_cons_of_mem | apply List.mem_append_right)) (by kernel_rfl) rfl ?_; simp only [Act.put, List.setIfInBounds_toArray, List.set_cons_zero, List.set_cons_succ]) | (refine ones_load_one (o := ⟨_, .load 3 _, _, _, _, _⟩) H 3 _ rfl rfl rfl rfl (by repeat (first | exact List.mem_cons_self | apply List.mem_cons_of_mem | apply List.mem_append_right)) (by kernel_rfl) (row_get _ hlt) ?_; simp only [Act.put, List.setIfInBounds_toArray, List.set_cons_zero, List.set_cons_succ]) | (refine ones_load_one (v := .int .i64 (mostF k : Nat)) (o := ⟨_, .load 3 _, _, _, _, _⟩) H 3 _ rfl rfl rfl rfl (by repeat (first | exact List.mem_cons_self | apply List.mem_cons_of_mem | apply List.mem_append_right)) (by kernel_rfl) rfl ?_; simp only [Act.put, List.setIfInBounds_toArray, List.set_cons_zero, List.set_cons_succ]) | (refine ones_free (v := ?_) rfl rfl ?_ ?_; rotate_left; (intro w'; go_simp; try with_reducible rfl); simp only [Act.put, List.setIfInBounds_toArray, List.set_cons_zero, List.set_cons_succ]))
          refine ones_nil ?_
          go_wp2
          go_ret
          exact ⟨(by rw [goodB_no hlt (by omega)]; rfl), H.below⟩
        · have d2 : decide (((mostF k : Nat) : Int) < q k) = false := lt_no (by omega)
          refine wp_region_text [] (by kernel_rfl) (by kernel_rfl) (by kernel_rfl) ?_; replace H := H.drew; generalize World.drew _ = u at *
          repeat (first | (refine ones_load_one (v := .pointer (some ⟨gp, k, none⟩)) (o := ⟨_, .load 47 _, _, _, _, _⟩) H 47 _ rfl rfl rfl rfl (by repeat (first | exact List.mem_cons_self | apply List.mem_cons_of_mem | apply List.mem_append_right)) (by kernel_rfl) rfl ?_; simp only [Act.put, List.setIfInBounds_toArray, List.set_cons_zero, List.set_cons_succ]) | (refine ones_load_one (o := ⟨_, .load 3 _, _, _, _, _⟩) H 3 _ rfl rfl rfl rfl (by repeat (first | exact List.mem_cons_self | apply List.mem_cons_of_mem | apply List.mem_append_right)) (by kernel_rfl) (row_get _ hlt) ?_; simp only [Act.put, List.setIfInBounds_toArray, List.set_cons_zero, List.set_cons_succ]) | (refine ones_load_one (v := .int .i64 (mostF k : Nat)) (o := ⟨_, .load 3 _, _, _, _, _⟩) H 3 _ rfl rfl rfl rfl (by repeat (first | exact List.mem_cons_self | apply List.mem_cons_of_mem | apply List.mem_append_right)) (by kernel_rfl) rfl ?_; simp only [Act.put, List.setIfInBounds_toArray, List.set_cons_zero, List.set_cons_succ]) | (refine ones_free (v := ?_) rfl rfl ?_ ?_; rotate_left; (intro w'; go_simp; try with_reducible rfl); simp only [Act.put, List.setIfInBounds_toArray, List.set_cons_zero, List.set_cons_succ]))
          refine ones_nil ?_
          go_wp2
          go_roundw
          case rel => exact ⟨k + 1, by omega, by go_num, fun j hj => by
            by_cases e : j = k
            · subst e; omega
            · exact HG.out j (by omega), H.tail⟩
          case measure => simp [intOf]; omega
    · obtain rfl : k = 25 := by omega
      go_wp2
      go_ret
      exact ⟨(by rw [goodB_iff.2 HG.out]; rfl), H.below⟩
end Go.Proofs.YthddmgnjahmceaaDoor
