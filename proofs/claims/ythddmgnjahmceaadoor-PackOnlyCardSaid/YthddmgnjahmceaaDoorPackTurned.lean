/-
  PackTurned walked. No statement is proved here.
-/
import Derived.Test.YthddmgnjahmceaaDoorPackWalk
namespace Go.Proofs.YthddmgnjahmceaaDoor
open Go.RowKit
theorem packet_eql0 (w : World) : (binOp .eql 28 (.agg (row 25 fun _ => 0)) (.agg #[.int .i64 0, .int .i64 0, .int .i64 0, .int .i64 0, .int .i64 0, .int .i64 0, .int .i64 0, .int .i64 0, .int .i64 0, .int .i64 0, .int .i64 0, .int .i64 0, .int .i64 0, .int .i64 0, .int .i64 0, .int .i64 0, .int .i64 0, .int .i64 0, .int .i64 0, .int .i64 0, .int .i64 0, .int .i64 0, .int .i64 0, .int .i64 0, .int .i64 0])).run Tryd.prog w = .ok (.bool true) w := packet_eql (fun _ => 0) w
set_option maxHeartbeats 6400000 in
set_option maxRecDepth 100000 in
theorem packTurned_walk (q : Nat → Int) (a m : Int) (w : World) (hT : Widths w) : Calls Tryd.prog 5 #[.agg (row 25 q), .int .i64 a, .int .i64 m] w fun e w' => e = .returned (.bool true) ∧ Below w.heap.size w w' := by
  have H := Has.start w
  have heq := fun w => packet_eql0 w
  have CP : Hid (∀ w, Widths w → Calls Tryd.prog 7 #[.agg (row 25 (packI (packF q)))] w fun e w' => ∃ g, e = .returned (.tuple #[.slice (some ⟨g, 0, none⟩) 15 15, .int .i64 0]) ∧ Has w w' [(g, 5, rowU 15 (packB (packF q) (parP (packF q))))]) := fun w hT => Pack_any (packF q) w hT (fun j _ => packF_le q j)
  have CK : Hid (∀ w, Calls Tryd.prog 6 #[.agg (row 25 q)] w fun e w' => e = .returned (.agg (row 25 (packI (packF q)))) ∧ Below w.heap.size w w') := fun w => packet_any q w
  obtain ⟨K, hK⟩ : ∃ K : Nat, (K : Int) = a % 15 := ⟨(a % 15).toNat, by omega⟩
  obtain ⟨M, hM⟩ : ∃ M : Nat, (M : Int) = m % 255 := ⟨(m % 255).toNat, by omega⟩
  have S1 : Hid (∀ w, Calls Tryd.prog 11 #[.int .i64 a, .int .i64 15] w fun e w' => e = .returned (.int .i64 (K : Nat)) ∧ w = w') := fun w => by rw [hK]; exact spot_any _ _ w (by omega) (by omega)
  have S2 : Hid (∀ w, Calls Tryd.prog 11 #[.int .i64 m, .int .i64 255] w fun e w' => e = .returned (.int .i64 (M : Nat)) ∧ w = w') := fun w => by rw [hM]; exact spot_any _ _ w (by omega) (by omega)
  have hk : K < 15 := by omega
  have hm : M < 255 := by omega
  have gk : (0 : Int) ≤ (K : Int) ∧ (K : Int) < 15 := by omega
  obtain ⟨X, hX⟩ : ∃ X, X = 1 + M := ⟨_, rfl⟩
  have ew : IntKind.u8.wrap (1 + (M : Int)) = (X : Int) := by rw [IntKind.wrap_u8]; omega
  obtain ⟨y, hy⟩ : ∃ y, y = packB (packF q) (parP (packF q)) K := ⟨_, rfl⟩
  have hy8 : y < 256 := by rw [hy]; exact packB_lt _ _
  obtain ⟨z, hz⟩ : ∃ z, z = y ^^^ X := ⟨_, rfl⟩
  have hz8 : z < 256 := by rw [hz]; exact Nat.xor_lt_two_pow (n := 8) (by omega) (by omega)
  have ex : bits .xor .u8 (y : Int) (X : Int) = (z : Int) := by rw [bits_xor_u8 y X (by omega) (by omega), hz]
  have hrow : Hid ((rowU 15 (packB (packF q) (parP (packF q)))).setIfInBounds K (.int .u8 (z : Nat)) = rowU 15 (fun i => if i = K then z else packB (packF q) (parP (packF q)) i)) := rowU_set _ _ z (fun i _ => rfl)
  have hne : z ≠ packB (packF q) (parP (packF q)) K := by rw [← hy, hz]; exact xor_ne y (by omega)
  have hcode := pack_turned (packF q) hk hz8 hne
  have CU : Hid (∀ g w, Widths w → Bytes w g 15 (fun i => if i = K then z else packB (packF q) (parP (packF q)) i) → Calls Tryd.prog 8 #[.slice (some ⟨g, 0, none⟩) 15 15] w fun e w' => e = .returned (.tuple #[.agg (row 25 fun _ => 0), .int .i64 5]) ∧ Below w.heap.size w w') := fun g w hT hB => by
    have h := Unpack_any g 15 (fun i => if i = K then z else packB (packF q) (parP (packF q)) i) w hT (fun i => by split; exact hz8; exact packB_lt _ _) hB (by omega)
    unfold UnpPost at h
    rw [unpR_zero hcode (by omega), hcode] at h
    exact h
  clear hcode hne
  replace hy := Lib.hid hy
  replace hz := Lib.hid hz
  clear hK hM hX
  generalize packI (packF q) = r at *
  generalize packB (packF q) (parP (packF q)) = pb at *
  go_enter Tryd.func5, Tryd.ntmps5
  go_wp2_with (first | ((refine wpList_on (o := ⟨_, .box _ (.tmp 0), _, _, _, _⟩) rfl (fun K hK => ?_)); refine wp_box H _ (.tmp 0) rfl (v := .agg _) rfl ?_; clear H; intro u g3 H; refine hK _ _ ?_; clear hK K; try simp only [Value.cells, List.cons_append, List.nil_append] at H) | ((refine wpList_on (o := ⟨_, .load 28 _, _, _, _, _⟩) rfl (fun K hK => ?_)); refine wp_load_all H 28 _ rfl rfl (by repeat (first | exact List.mem_cons_self | apply List.mem_cons_of_mem | apply List.mem_append_right)) (by kernel_rfl) ?_; refine hK _ _ ?_; clear hK K) | (go_at_call 6; (with_reducible refine (CK.out _).mono ?_); rintro e w1 ⟨rfl, hb⟩; replace H := H.callee hb; clear hb) | (go_at_call 11; (with_reducible refine (S1.out _).mono ?_); rintro e w1 ⟨rfl, rfl⟩) | (go_at_call 11; (with_reducible refine (S2.out _).mono ?_); rintro e w1 ⟨rfl, rfl⟩) | (refine wpList_on (o := ⟨some 9, .alloc 28, _, _, _, _⟩) rfl (fun K hK => ?_); refine wp_alloc H 28 rfl (z := (.agg (row 25 fun _ => 0))) (by kernel_rfl) ?_; clear H; intro u g9 H; refine hK _ _ ?_; clear hK K; try simp only [Value.cells, List.cons_append, List.nil_append] at H) | ((refine wpList_on (o := ⟨_, .store 28 _ _, _, _, _, _⟩) rfl (fun K hK => ?_)); refine wp_store_all (l1 := []) H 28 _ _ rfl rfl rfl (by kernel_rfl) (by simp [row_size]) (row_one _ _) ?_; clear H; intro u H; refine hK _ _ ?_; clear hK K; try simp only [Value.cells, List.cons_append, List.nil_append] at H) | (go_at_call 7; (with_reducible refine (CP.out _ (hT.has H)).mono ?_); rintro e w1 ⟨gb, rfl, hb⟩; replace H := H.join hb; clear hb; (try simp only [List.cons_append, List.nil_append] at H)) | (go_at_call 8; (with_reducible refine (CU.out _ _ (hT.has H) (Bytes.ofRow H (by repeat (first | exact List.mem_cons_self | apply List.mem_cons_of_mem | apply List.mem_append_right)) (by omega))).mono ?_); rintro e w1 ⟨rfl, hb⟩; replace H := H.callee hb; clear hb) | (go_at_call 9; (with_reducible refine (packs_any _ (hT.has H)).mono ?_); rintro e w1 ⟨rfl, hb⟩; replace H := H.callee hb; clear hb) | ((refine wpList_on (o := ⟨_, .load 5 _, _, _, _, _⟩) rfl (fun K hK => ?_)); refine wp_load_one (v := .int .u8 (y : Nat)) H 5 _ rfl rfl (by repeat (first | exact List.mem_cons_self | apply List.mem_cons_of_mem | apply List.mem_append_right)) (by kernel_rfl) (by rw [hy.out]; exact rowU_get _ hk) ?_; refine hK _ _ ?_; clear hK K) | ((refine wpList_on (o := ⟨_, .store 5 _ _, _, _, _, _⟩) rfl (fun K hK => ?_)); refine wp_store_one (l1 := []) H 5 _ _ rfl rfl rfl (by kernel_rfl) (by rw [rowU_size]; exact hk) rfl ?_; clear H; intro u H; refine hK _ _ ?_; clear hK K; simp only [List.nil_append] at H; erw [hrow.out] at H))
  go_ret
  exact ⟨rfl, H.below⟩
end Go.Proofs.YthddmgnjahmceaaDoor
