/-
  PackBack, PackTurned walked. No statement is proved here.
-/
import Derived.Test.YthddmgnjahmceaaDoorPackLaws
import Derived.Test.YthddmgnjahmceaaDoorPacket
import Derived.DeepKeys
namespace Go.Proofs.YthddmgnjahmceaaDoor
open Go.RowKit
/-- A value is equal to itself, where its type is flat. -/
theorem eql_same {P : Program} {t : TypeId} {m : Nat} (hm : m ≤ 10000) (hk : P.keyTypeAt m t = true) {cs : Array Value} (hf : (Value.agg cs).formed P t = true) (D : Nat) (hl : (P.keyLits D t cs.toList).isSome = true) (w : World) :
    (binOp .eql t (.agg cs) (.agg cs)).run P w = .ok (.bool true) w := by
  obtain ⟨L, hL⟩ := Option.isSome_iff_exists.1 hl
  obtain ⟨r, hr, hiff⟩ := run_equalIn_deep (P := P) (10000 - m) m t hk w D D (.agg cs) (.agg cs) L L hf hf hL hL
  rw [show 10000 - m + m = 10000 by omega] at hr
  rw [run_eql_struct, hr, hiff.2 rfl]
  rfl
theorem eqIn_rows {P : Program} {t e : TypeId} {k : IntKind} {i : TypeInfo} {n : Nat} (ht : P.underlying t = some (.array n e)) (he : P.underlying e = some (.int k)) (hi : P.info? e = some i) (hc : P.cellsOf e = 1) (w : World) (f : Nat → Int) (d : Nat) :
    (Op.equalIn (d + 2) t (.agg (row n f)) (.agg (row n f))).run P w = .ok true w := by
  rw [run_equalIn_array w (d + 1) (row n f) (row n f) ht hi, hc, run_eqItems_row w d he n f f _ (by simp)]
  have := rowEq_of (n := n) (f := f) (g := f) (fun _ _ => rfl)
  unfold rowEq at this
  exact congrArg (fun b => Result.ok b w) this
theorem sub_eqIn (f : Nat → Int) (w : World) : (Op.equalIn 9998 25 (.agg #[.int .i64 (f 0), .int .i64 (f 1), .int .i64 (f 2), .int .i64 (f 3), .int .i64 (f 4), .int .i64 (f 5), .int .i64 (f 6), .int .i64 (f 7)]) (.agg #[.int .i64 (f 0), .int .i64 (f 1), .int .i64 (f 2), .int .i64 (f 3), .int .i64 (f 4), .int .i64 (f 5), .int .i64 (f 6), .int .i64 (f 7)])).run Tryd.prog w = .ok true w := by
  have e1 := fun w => eqIn_rows (P := Tryd.prog) (t := 23) Tryd.underlying23 Tryd.underlying3 (info_some (by kernel_rfl)) (by kernel_rfl) w (fun i => f (2 + i)) 9995
  have r1 : row 4 (fun i => f (2 + i)) = #[.int .i64 (f 2), .int .i64 (f 3), .int .i64 (f 4), .int .i64 (f 5)] := rfl
  rw [r1] at e1
  rw [run_equalIn_struct w 9997 25 _ _ (by kernel_rfl) (by kernel_rfl)]
  go_simp
theorem subs_eqIn (f : Nat → Int) (w : World) : (Op.equalIn 9999 26 (.agg #[.int .i64 (f 0), .int .i64 (f 1), .int .i64 (f 2), .int .i64 (f 3), .int .i64 (f 4), .int .i64 (f 5), .int .i64 (f 6), .int .i64 (f 7), .int .i64 (f 8), .int .i64 (f 9), .int .i64 (f 10), .int .i64 (f 11), .int .i64 (f 12), .int .i64 (f 13), .int .i64 (f 14), .int .i64 (f 15)]) (.agg #[.int .i64 (f 0), .int .i64 (f 1), .int .i64 (f 2), .int .i64 (f 3), .int .i64 (f 4), .int .i64 (f 5), .int .i64 (f 6), .int .i64 (f 7), .int .i64 (f 8), .int .i64 (f 9), .int .i64 (f 10), .int .i64 (f 11), .int .i64 (f 12), .int .i64 (f 13), .int .i64 (f 14), .int .i64 (f 15)])).run Tryd.prog w = .ok true w := by
  have e2 := fun w => sub_eqIn f w
  have e3 := fun w => sub_eqIn (fun i => f (8 + i)) w
  rw [run_equalIn_array w 9998 _ _ Tryd.underlying26 (info_some (P := Tryd.prog) (t := 25) (by kernel_rfl)), show Tryd.prog.cellsOf 25 = 8 by kernel_rfl, show List.range 2 = [0, 1] from rfl]
  simp only [Op.eqItems]
  go_simp
theorem packet_eql (f : Nat → Int) (w : World) : (binOp .eql 28 (.agg (row 25 f)) (.agg (row 25 f))).run Tryd.prog w = .ok (.bool true) w := by
  show (binOp .eql 28 (.agg #[.int .i64 (f 0), .int .i64 (f 1), .int .i64 (f 2), .int .i64 (f 3), .int .i64 (f 4), .int .i64 (f 5), .int .i64 (f 6), .int .i64 (f 7), .int .i64 (f 8), .int .i64 (f 9), .int .i64 (f 10), .int .i64 (f 11), .int .i64 (f 12), .int .i64 (f 13), .int .i64 (f 14), .int .i64 (f 15), .int .i64 (f 16), .int .i64 (f 17), .int .i64 (f 18), .int .i64 (f 19), .int .i64 (f 20), .int .i64 (f 21), .int .i64 (f 22), .int .i64 (f 23), .int .i64 (f 24)]) (.agg #[.int .i64 (f 0), .int .i64 (f 1), .int .i64 (f 2), .int .i64 (f 3), .int .i64 (f 4), .int .i64 (f 5), .int .i64 (f 6), .int .i64 (f 7), .int .i64 (f 8), .int .i64 (f 9), .int .i64 (f 10), .int .i64 (f 11), .int .i64 (f 12), .int .i64 (f 13), .int .i64 (f 14), .int .i64 (f 15), .int .i64 (f 16), .int .i64 (f 17), .int .i64 (f 18), .int .i64 (f 19), .int .i64 (f 20), .int .i64 (f 21), .int .i64 (f 22), .int .i64 (f 23), .int .i64 (f 24)])).run Tryd.prog w = _
  have e1 := fun w => eqIn_rows (P := Tryd.prog) (t := 22) Tryd.underlying22 Tryd.underlying3 (info_some (by kernel_rfl)) (by kernel_rfl) w (fun i => f (1 + i)) 9997
  have r1 : row 8 (fun i => f (1 + i)) = #[.int .i64 (f 1), .int .i64 (f 2), .int .i64 (f 3), .int .i64 (f 4), .int .i64 (f 5), .int .i64 (f 6), .int .i64 (f 7), .int .i64 (f 8)] := rfl
  rw [r1] at e1
  have e2 := fun w => subs_eqIn (fun i => f (9 + i)) w
  go_simp
theorem Pack_code (q : Nat → Int) (w : World) (hT : Widths w) : Calls Tryd.prog 7 #[.agg (row 25 q)] w fun e w' => ∃ v, e = .returned (.tuple #[v, .int .i64 (if goodB q = true then 0 else 2)]) ∧ Below w.heap.size w w' := by
  cases hg : goodB q
  · refine (Pack_no q w hT hg).mono fun e w' h => ?_
    obtain ⟨rfl, hb⟩ := h
    exact ⟨_, rfl, hb⟩
  · have h := goodB_iff.1 hg
    have e : row 25 q = row 25 (packI fun j => (q j).toNat) := row_congr fun j hj => by
      have := h j hj
      show q j = (((q j).toNat : Nat) : Int)
      omega
    rw [e]
    refine (Pack_any _ w hT (fun j hj => by have := h j hj; show (q j).toNat ≤ mostF j; omega)).mono fun e w' h => ?_
    obtain ⟨g, rfl, hb⟩ := h
    exact ⟨_, rfl, hb.below⟩
theorem Pack_1 (w : World) (hT : Widths w) : Calls Tryd.prog 7 #[.agg #[.int .i64 1, .int .i64 0, .int .i64 0, .int .i64 0, .int .i64 0, .int .i64 0, .int .i64 0, .int .i64 0, .int .i64 0, .int .i64 0, .int .i64 0, .int .i64 0, .int .i64 0, .int .i64 0, .int .i64 0, .int .i64 0, .int .i64 0, .int .i64 0, .int .i64 0, .int .i64 0, .int .i64 0, .int .i64 0, .int .i64 0, .int .i64 0, .int .i64 0]] w fun e w' => ∃ g, e = .returned (.tuple #[.slice (some ⟨g, 0, none⟩) 15 15, .int .i64 0]) ∧ Has w w' [(g, 5, rowU 15 (packB (kindN 1) (parP (kindN 1))))] :=
  Pack_any (kindN 1) w hT (kindN_le (by omega))
theorem Good_0 (w : World) (hT : Widths w) : Calls Tryd.prog 10 #[.agg #[.int .i64 0, .int .i64 0, .int .i64 0, .int .i64 0, .int .i64 0, .int .i64 0, .int .i64 0, .int .i64 0, .int .i64 0, .int .i64 0, .int .i64 0, .int .i64 0, .int .i64 0, .int .i64 0, .int .i64 0, .int .i64 0, .int .i64 0, .int .i64 0, .int .i64 0, .int .i64 0, .int .i64 0, .int .i64 0, .int .i64 0, .int .i64 0, .int .i64 0]] w fun e w' => e = .returned (.bool true) ∧ Below w.heap.size w w' := by
  have h := Good_any (packI (kindN 0)) w hT
  rw [kind_ok] at h
  exact h
theorem Good_3 (w : World) (hT : Widths w) : Calls Tryd.prog 10 #[.agg #[.int .i64 3, .int .i64 0, .int .i64 0, .int .i64 0, .int .i64 0, .int .i64 0, .int .i64 0, .int .i64 0, .int .i64 0, .int .i64 0, .int .i64 0, .int .i64 0, .int .i64 0, .int .i64 0, .int .i64 0, .int .i64 0, .int .i64 0, .int .i64 0, .int .i64 0, .int .i64 0, .int .i64 0, .int .i64 0, .int .i64 0, .int .i64 0, .int .i64 0]] w fun e w' => e = .returned (.bool false) ∧ Below w.heap.size w w' := by
  have h := Good_any (packI (kindN 3)) w hT
  rw [kind_no] at h
  exact h
set_option maxHeartbeats 3200000 in
set_option maxRecDepth 100000 in
theorem packs_any (w : World) (hT : Widths w) : Calls Tryd.prog 9 #[] w fun e w' => e = .returned (.bool true) ∧ Below w.heap.size w w' := by
  have H := Has.start w
  go_enter Tryd.func9, Tryd.ntmps9
  go_wp2_with (first | (go_at_call 7; (with_reducible refine (Pack_1 _ (hT.has H)).mono ?_); rintro e w1 ⟨gb, rfl, hb⟩; replace H := H.join hb; clear hb; (try simp only [List.cons_append, List.nil_append] at H)) | (go_at_call 10; (with_reducible refine (Good_0 _ (hT.has H)).mono ?_); rintro e w1 ⟨rfl, hb⟩; replace H := H.callee hb; clear hb) | (go_at_call 10; (with_reducible refine (Good_3 _ (hT.has H)).mono ?_); rintro e w1 ⟨rfl, hb⟩; replace H := H.callee hb; clear hb) | ((refine wpList_on (o := ⟨_, .load 5 _, _, _, _, _⟩) rfl (fun K hK => ?_)); refine wp_load_one (v := .int .u8 64) H 5 _ rfl rfl (by repeat (first | exact List.mem_cons_self | apply List.mem_cons_of_mem | apply List.mem_append_right)) (by kernel_rfl) (by rw [rowU_get _ (by omega), kind_64]; rfl) ?_; refine hK _ _ ?_; clear hK K))
  go_ret
  exact ⟨rfl, H.below⟩
/-- What a good packet is packed as is unpacked as it. -/
theorem Unpack_back {p : Nat → Nat} (hp : ∀ j, j < 25 → p j ≤ mostF j) (g : Nat) (w : World) (hT : Widths w) (hB : Bytes w g 15 (packB p (parP p))) : Calls Tryd.prog 8 #[.slice (some ⟨g, 0, none⟩) 15 15] w fun e w' => e = .returned (.tuple #[.agg (row 25 (packI p)), .int .i64 0]) ∧ Below w.heap.size w w' := by
  have h := Unpack_any g 15 (packB p (parP p)) w hT (packB_lt p) hB (by omega)
  unfold UnpPost at h
  rw [pack_back hp, pack_code hp] at h
  exact h
set_option maxHeartbeats 6400000 in
set_option maxRecDepth 100000 in
theorem packBack_walk (q : Nat → Int) (w : World) (hT : Widths w) : Calls Tryd.prog 3 #[.agg (row 25 q)] w fun e w' => e = .returned (.bool true) ∧ Below w.heap.size w w' := by
  have H := Has.start w
  have heq := fun w => packet_eql (packI (packF q)) w
  have hgd : goodB (packI (packF q)) = true := packI_good (fun j _ => packF_le q j)
  have CG : Hid (∀ w, Widths w → Calls Tryd.prog 10 #[.agg (row 25 (packI (packF q)))] w fun e w' => e = .returned (.bool true) ∧ Below w.heap.size w w') := fun w hT => by
    have h := Good_any (packI (packF q)) w hT
    rw [hgd] at h
    exact h
  have CP : Hid (∀ w, Widths w → Calls Tryd.prog 7 #[.agg (row 25 (packI (packF q)))] w fun e w' => ∃ g, e = .returned (.tuple #[.slice (some ⟨g, 0, none⟩) 15 15, .int .i64 0]) ∧ Has w w' [(g, 5, rowU 15 (packB (packF q) (parP (packF q))))]) := fun w hT => Pack_any (packF q) w hT (fun j _ => packF_le q j)
  have CU : Hid (∀ g w, Widths w → Bytes w g 15 (packB (packF q) (parP (packF q))) → Calls Tryd.prog 8 #[.slice (some ⟨g, 0, none⟩) 15 15] w fun e w' => e = .returned (.tuple #[.agg (row 25 (packI (packF q))), .int .i64 0]) ∧ Below w.heap.size w w') := fun g w hT hB => Unpack_back (fun j _ => packF_le q j) g w hT hB
  have CC : Hid (∀ w, Widths w → Calls Tryd.prog 7 #[.agg (row 25 q)] w fun e w' => ∃ v, e = .returned (.tuple #[v, .int .i64 (if goodB q = true then 0 else 2)]) ∧ Below w.heap.size w w') := fun w hT => Pack_code q w hT
  have CD : Hid (∀ w, Widths w → Calls Tryd.prog 10 #[.agg (row 25 q)] w fun e w' => e = .returned (.bool (goodB q)) ∧ Below w.heap.size w w') := fun w hT => Good_any q w hT
  have CK : Hid (∀ w, Calls Tryd.prog 6 #[.agg (row 25 q)] w fun e w' => e = .returned (.agg (row 25 (packI (packF q)))) ∧ Below w.heap.size w w') := fun w => packet_any q w
  clear hgd
  generalize packI (packF q) = r at *
  generalize packB (packF q) (parP (packF q)) = by_ at *
  cases hg : goodB q <;> rw [hg] at CC CD
  · go_enter Tryd.func3, Tryd.ntmps3
    go_wp2_with (first | ((refine wpList_on (o := ⟨_, .box _ (.tmp 0), _, _, _, _⟩) rfl (fun K hK => ?_)); refine wp_box H _ (.tmp 0) rfl (v := .agg _) rfl ?_; clear H; intro u g1 H; refine hK _ _ ?_; clear hK K; try simp only [Value.cells, List.cons_append, List.nil_append] at H) | ((refine wpList_on (o := ⟨_, .load 28 _, _, _, _, _⟩) rfl (fun K hK => ?_)); refine wp_load_all H 28 _ rfl rfl (by repeat (first | exact List.mem_cons_self | apply List.mem_cons_of_mem | apply List.mem_append_right)) (by kernel_rfl) ?_; refine hK _ _ ?_; clear hK K) | (go_at_call 6; (with_reducible refine (CK.out _).mono ?_); rintro e w1 ⟨rfl, hb⟩; replace H := H.callee hb; clear hb) | (refine wpList_on (o := ⟨some 3, .alloc 28, _, _, _, _⟩) rfl (fun K hK => ?_); refine wp_alloc H 28 rfl (z := (.agg (row 25 fun _ => 0))) (by kernel_rfl) ?_; clear H; intro u g3 H; refine hK _ _ ?_; clear hK K; try simp only [Value.cells, List.cons_append, List.nil_append] at H) | (refine wpList_on (o := ⟨some 6, .alloc 28, _, _, _, _⟩) rfl (fun K hK => ?_); refine wp_alloc H 28 rfl (z := (.agg (row 25 fun _ => 0))) (by kernel_rfl) ?_; clear H; intro u g6 H; refine hK _ _ ?_; clear hK K; try simp only [Value.cells, List.cons_append, List.nil_append] at H) | ((refine wpList_on (o := ⟨_, .store 28 _ _, _, _, _, _⟩) rfl (fun K hK => ?_)); refine wp_store_all (l1 := []) H 28 _ _ rfl rfl rfl (by kernel_rfl) (by simp [row_size]) (row_one _ _) ?_; clear H; intro u H; refine hK _ _ ?_; clear hK K; try simp only [Value.cells, List.cons_append, List.nil_append] at H) | (go_at_call 7; (with_reducible refine (CP.out _ (hT.has H)).mono ?_); rintro e w1 ⟨gb, rfl, hb⟩; replace H := H.join hb; clear hb; (try simp only [List.cons_append, List.nil_append] at H)) | (go_at_call 7; (with_reducible refine (CC.out _ (hT.has H)).mono ?_); rintro e w1 ⟨vz, rfl, hb⟩; replace H := H.callee hb; clear hb) | (go_at_call 8; (with_reducible refine (CU.out _ _ (hT.has H) (Bytes.ofRow H (by repeat (first | exact List.mem_cons_self | apply List.mem_cons_of_mem | apply List.mem_append_right)) (by omega))).mono ?_); rintro e w1 ⟨rfl, hb⟩; replace H := H.callee hb; clear hb) | (go_at_call 9; (with_reducible refine (packs_any _ (hT.has H)).mono ?_); rintro e w1 ⟨rfl, hb⟩; replace H := H.callee hb; clear hb) | (go_at_call 10; (with_reducible refine (CG.out _ (hT.has H)).mono ?_); rintro e w1 ⟨rfl, hb⟩; replace H := H.callee hb; clear hb) | (go_at_call 10; (with_reducible refine (CD.out _ (hT.has H)).mono ?_); rintro e w1 ⟨rfl, hb⟩; replace H := H.callee hb; clear hb))
    go_ret
    exact ⟨rfl, H.below⟩
  · go_enter Tryd.func3, Tryd.ntmps3
    go_wp2_with (first | ((refine wpList_on (o := ⟨_, .box _ (.tmp 0), _, _, _, _⟩) rfl (fun K hK => ?_)); refine wp_box H _ (.tmp 0) rfl (v := .agg _) rfl ?_; clear H; intro u g1 H; refine hK _ _ ?_; clear hK K; try simp only [Value.cells, List.cons_append, List.nil_append] at H) | ((refine wpList_on (o := ⟨_, .load 28 _, _, _, _, _⟩) rfl (fun K hK => ?_)); refine wp_load_all H 28 _ rfl rfl (by repeat (first | exact List.mem_cons_self | apply List.mem_cons_of_mem | apply List.mem_append_right)) (by kernel_rfl) ?_; refine hK _ _ ?_; clear hK K) | (go_at_call 6; (with_reducible refine (CK.out _).mono ?_); rintro e w1 ⟨rfl, hb⟩; replace H := H.callee hb; clear hb) | (refine wpList_on (o := ⟨some 3, .alloc 28, _, _, _, _⟩) rfl (fun K hK => ?_); refine wp_alloc H 28 rfl (z := (.agg (row 25 fun _ => 0))) (by kernel_rfl) ?_; clear H; intro u g3 H; refine hK _ _ ?_; clear hK K; try simp only [Value.cells, List.cons_append, List.nil_append] at H) | (refine wpList_on (o := ⟨some 6, .alloc 28, _, _, _, _⟩) rfl (fun K hK => ?_); refine wp_alloc H 28 rfl (z := (.agg (row 25 fun _ => 0))) (by kernel_rfl) ?_; clear H; intro u g6 H; refine hK _ _ ?_; clear hK K; try simp only [Value.cells, List.cons_append, List.nil_append] at H) | ((refine wpList_on (o := ⟨_, .store 28 _ _, _, _, _, _⟩) rfl (fun K hK => ?_)); refine wp_store_all (l1 := []) H 28 _ _ rfl rfl rfl (by kernel_rfl) (by simp [row_size]) (row_one _ _) ?_; clear H; intro u H; refine hK _ _ ?_; clear hK K; try simp only [Value.cells, List.cons_append, List.nil_append] at H) | (go_at_call 7; (with_reducible refine (CP.out _ (hT.has H)).mono ?_); rintro e w1 ⟨gb, rfl, hb⟩; replace H := H.join hb; clear hb; (try simp only [List.cons_append, List.nil_append] at H)) | (go_at_call 7; (with_reducible refine (CC.out _ (hT.has H)).mono ?_); rintro e w1 ⟨vz, rfl, hb⟩; replace H := H.callee hb; clear hb) | (go_at_call 8; (with_reducible refine (CU.out _ _ (hT.has H) (Bytes.ofRow H (by repeat (first | exact List.mem_cons_self | apply List.mem_cons_of_mem | apply List.mem_append_right)) (by omega))).mono ?_); rintro e w1 ⟨rfl, hb⟩; replace H := H.callee hb; clear hb) | (go_at_call 9; (with_reducible refine (packs_any _ (hT.has H)).mono ?_); rintro e w1 ⟨rfl, hb⟩; replace H := H.callee hb; clear hb) | (go_at_call 10; (with_reducible refine (CG.out _ (hT.has H)).mono ?_); rintro e w1 ⟨rfl, hb⟩; replace H := H.callee hb; clear hb) | (go_at_call 10; (with_reducible refine (CD.out _ (hT.has H)).mono ?_); rintro e w1 ⟨rfl, hb⟩; replace H := H.callee hb; clear hb))
    go_ret
    exact ⟨rfl, H.below⟩
end Go.Proofs.YthddmgnjahmceaaDoor
