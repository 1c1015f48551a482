/-
  Several texts of this claim, one behind the other: Pack. No statement is proved here.
-/
import Derived.Test.YtcoicmbjoaonoaaDoorZao
/-
  pack.Pack walked. No statement is proved here.
-/
namespace Go.Proofs.YtcoicmbjoaonoaaDoor
set_option linter.unusedVariables false
set_option linter.unusedSimpArgs false
open Go.RowKit
set_option maxRecDepth 100000
theorem madeCells_u8 (n : Nat) : madeCells #[Value.int .u8 0] n = rowU n (fun _ => 0) := by
  unfold madeCells rowU rowV
  apply Array.ext
  · simp
  · intro i h1 h2
    simp [Nat.mod_one]
theorem wp_make_u8 {P : Program} {o : Oper} {a : Act} {K : Act → World → Prop} {Q : Exit → Act → World → Prop} {w0 u : World} {bs : List (Nat × TypeId × Array Value)} (H : Has w0 u bs) {t_ e : TypeId} (x y : Operand) (ho : o.op = .makeSlice t_ x y) (n m : Int) (k1 k2 : IntKind) (hx : a.eval x = .int k1 n) (hy : a.eval y = .int k2 m) (ht : sliceOf P t_ e 1 1 = true) (hz : (P.info? e).bind (·.zero) = some (.int .u8 0)) (h0 : 0 ≤ n) (hn : n ≤ m) (hm : m ≤ 1000000)
    (h : ∀ u' g, Has w0 u' ((g, e, rowU m.toNat fun _ => 0) :: bs) → K (a.put o.dst (.slice (some ⟨g, 0, none⟩) n.toNat m.toNat)) u') : o.wp P a u K Q := by
  obtain ⟨hu, i, z, hi, hs, _, hb, hz1, _⟩ := sliceOf_parts ht
  have hzz : z = .int .u8 0 := by
    rw [hi] at hz
    simp only [Option.bind_some, hz1] at hz
    exact Option.some.inj hz
  subst hzz
  have hbn : (i.bytes : Int) * m ≤ 281474976710656 := by
    have := Int.mul_le_mul_of_nonneg_right (show (i.bytes : Int) ≤ 1 by omega) (show 0 ≤ m by omega)
    omega
  have hr := run_make (P := P) u t_ e i (.int .u8 0) hu hi hz1 k1 k2 n m h0 hn hbn (by omega)
  rw [hs, Nat.mul_one, show (Value.int IntKind.u8 0).cells = #[Value.int .u8 0] from rfl, madeCells_u8] at hr
  unfold Oper.wp execOp
  simp only [ho, hx, hy, Sem.run_bind, hr, Result.andThen_ok, Sem.run_pure]
  exact h _ _ (H.new e _)
theorem Bytes.ofRow {w0 u : World} {bs : List (Nat × TypeId × Array Value)} {g n m : Nat} {t : TypeId} {f : Nat → Nat} (H : Has w0 u bs) (hm : (g, t, rowU m f) ∈ bs) (h : n ≤ m) : Bytes u g n f := fun i hi => by
  rw [(H.at_ hm).cell, rowU_get f (by omega)]
/-- A packet's numbers as integers. -/
def packI (p : Nat → Nat) (j : Nat) : Int := (p j : Nat)
theorem packI_good {p : Nat → Nat} (h : ∀ j, j < 25 → p j ≤ mostF j) : goodB (packI p) = true := goodB_iff.2 fun j hj => by have := h j hj; unfold packI; omega
def parP (p : Nat → Nat) : Nat := parU (packI p) 3
theorem parP_lt (p : Nat → Nat) : parP p < 2 := parU_lt _ _
theorem byteN_end {B : Nat → Nat} (h : ∀ i, 107 ≤ i → B i = 0) (j : Nat) : byteN B 107 j = byteN B 112 j := valB_congr 8 fun m _ => by
  unfold upTo
  by_cases h1 : 8 * j + m < 107
  · rw [if_pos h1, if_pos (by omega)]
  · rw [if_neg h1]
    split
    · exact (h _ (by omega)).symm
    · rfl
theorem packB_end (p : Nat → Nat) {j : Nat} (hj : j < 15) : packB p (parP p) j = if j = 14 then sumN (byteN (bitP p (parP p)) 107) 14 % 256 else byteN (bitP p (parP p)) 107 j := by
  have h0 : ∀ i, 107 ≤ i → bitP p (parP p) i = 0 := fun i hi => by unfold bitP; rw [if_neg (by omega), if_neg (by omega)]
  unfold packB
  by_cases h : j = 14
  · rw [if_neg (by omega), if_pos h, if_pos h, sumN_congr 14 (fun i _ => byteN_end h0 i)]
  · rw [if_pos (by omega), if_neg h, byteN_end h0 j]
set_option maxHeartbeats 3200000 in
theorem Pack_no (q : Nat → Int) (w : World) (hT : Widths w) (hq : goodB q = false) : Calls Tryd.prog 23 #[.agg (row 25 q)] w fun e w' => e = .returned (.tuple #[.slice none 0 0, .int .i64 2]) ∧ Below w.heap.size w w' := by
  have H := Has.start w
  go_enter Tryd.func23, Tryd.ntmps23
  go_wp2_with (first | ((refine wpList_on (o := ⟨_, .box _ (.tmp 0), _, _, _, _⟩) rfl (fun K hK => ?_)); (try simp only [Act.put, List.setIfInBounds_toArray, List.set_cons_zero, List.set_cons_succ]); refine wp_box H _ (.tmp 0) rfl (v := .agg _) rfl ?_; clear H; intro u gp H; refine hK _ _ ?_; clear hK K; try simp only [Value.cells, List.cons_append, List.nil_append] at H) | ((refine wpList_on (o := ⟨_, .load 44 _, _, _, _, _⟩) rfl (fun K hK => ?_)); (try simp only [Act.put, List.setIfInBounds_toArray, List.set_cons_zero, List.set_cons_succ]); refine wp_load_all H 44 _ rfl rfl (by repeat (first | exact List.mem_cons_self | apply List.mem_cons_of_mem | apply List.mem_append_right)) (by kernel_rfl) ?_; refine hK _ _ ?_; clear hK K) | (go_at_call 46; (with_reducible refine (PkGood_any q _ (hT.has H)).mono ?_); rintro e w1 ⟨rfl, hb⟩; replace H := H.callee hb; clear hb))
  go_ret2
  exact ⟨rfl, H.below⟩
set_option maxHeartbeats 6400000 in
set_option maxRecDepth 100000 in
theorem Pack_any (p : Nat → Nat) (w : World) (hT : Widths w) (hp : ∀ j, j < 25 → p j ≤ mostF j) : Calls Tryd.prog 23 #[.agg (row 25 (packI p))] w fun e w' => ∃ g, e = .returned (.tuple #[.slice (some ⟨g, 0, none⟩) 15 15, .int .i64 0]) ∧ Has w w' [(g, 5, rowU 15 (packB p (parP p)))] := by
  have H := Has.start w
  have hq := packI_good hp
  have hB : ∀ i, bitP p (parP p) i < 2 := bitP_lt (parP_lt p)
  have hmf : ∀ (fn : Fn) (first cap : Array Value) (w : World), (Instr.makeFunc fn first cap).run Tryd.prog w = .ok (.func fn first cap) w := fun _ _ _ _ => rfl
  have HP := Lib.hid hp
  have HB := Lib.hid hB
  clear hp hB
  go_enter Tryd.func23, Tryd.ntmps23
  go_wp2_with (first | ((refine wpList_on (o := ⟨_, .box _ (.tmp 0), _, _, _, _⟩) rfl (fun K hK => ?_)); (try simp only [Act.put, List.setIfInBounds_toArray, List.set_cons_zero, List.set_cons_succ]); refine wp_box H _ (.tmp 0) rfl (v := .agg _) rfl ?_; clear H; intro u gp H; refine hK _ _ ?_; clear hK K; try simp only [Value.cells, List.cons_append, List.nil_append] at H) | ((refine wpList_on (o := ⟨_, .load 44 _, _, _, _, _⟩) rfl (fun K hK => ?_)); (try simp only [Act.put, List.setIfInBounds_toArray, List.set_cons_zero, List.set_cons_succ]); refine wp_load_all H 44 _ rfl rfl (by repeat (first | exact List.mem_cons_self | apply List.mem_cons_of_mem | apply List.mem_append_right)) (by kernel_rfl) ?_; refine hK _ _ ?_; clear hK K) | (go_at_call 46; (with_reducible refine (PkGood_any _ _ (hT.has H)).mono ?_); rintro e w1 ⟨rfl, hb⟩; replace H := H.callee hb; clear hb) | ((refine wpList_on (o := ⟨some 12, .makeSlice _ _ _, _, _, _, _⟩) rfl (fun K hK => ?_)); refine wp_make_u8 (t_ := 34) (e := 5) H _ _ rfl 15 15 .i64 .i64 rfl rfl (by kernel_rfl) (by kernel_rfl) (by omega) (by omega) (by omega) ?_; clear H; intro u gb H; refine hK _ _ ?_; clear hK K) | (refine wpList_on (o := ⟨some 4, .alloc 34, _, _, _, _⟩) rfl (fun K hK => ?_); refine wp_alloc H 34 rfl (z := (.slice none 0 0)) (by kernel_rfl) ?_; clear H; intro u ga H; refine hK _ _ ?_; clear hK K; try simp only [Value.cells, List.cons_append, List.nil_append] at H) | (refine wpList_on (o := ⟨some 5, .alloc 3, _, _, _, _⟩) rfl (fun K hK => ?_); refine wp_alloc H 3 rfl (z := (.int .i64 0)) (by kernel_rfl) ?_; clear H; intro u gi H; refine hK _ _ ?_; clear hK K; try simp only [Value.cells, List.cons_append, List.nil_append] at H) | ((refine wpList_on (o := ⟨_, .store 34 _ _, _, _, _, _⟩) rfl (fun K hK => ?_)); (try simp only [Act.put, List.setIfInBounds_toArray, List.set_cons_zero, List.set_cons_succ]); refine wp_store_one (l1 := []) H 34 _ _ rfl rfl rfl (by kernel_rfl) (by simp) (by rfl) ?_; clear H; intro u H; refine hK _ _ ?_; clear hK K; try simp only [Value.cells, List.cons_append, List.nil_append] at H) | ((refine wpList_on (o := ⟨_, .store 3 _ _, _, _, _, _⟩) rfl (fun K hK => ?_)); (try simp only [Act.put, List.setIfInBounds_toArray, List.set_cons_zero, List.set_cons_succ]); refine wp_store_one (l1 := []) H 3 _ _ rfl rfl rfl (by kernel_rfl) (by simp) (by rfl) ?_; clear H; intro u H; refine hK _ _ ?_; clear hK K; try simp only [Value.cells, List.cons_append, List.nil_append] at H) | (go_at_call 45; (with_reducible refine (fields_any gp _ (hT.has H)).mono ?_); rintro e u ⟨v, tl, rfl, RO, hb⟩; obtain ⟨gf, cap, cs, rfl, rfl, hcap, hsz, hcs⟩ := RO.some_ (by omega); clear RO; replace H := H.join hb; clear hb; simp only [List.cons_append, List.nil_append] at H))
  have e0 : rowU (Int.toNat 15) (fun _ => 0) = rowU 15 (byteN (bitP p (parP p)) (startF 0)) := rowU_congr fun i _ => (byteN_zero _ _).symm
  rw [e0] at H
  clear e0 hmf hq
  have HC := Lib.hid hcs
  clear hcs
  go_loopw [16] (fun c wr => ∃ k : Nat, k ≤ 25 ∧ c = .int .i64 k ∧ Has w wr [(gf, 98, cs), (gi, 3, #[.int .i64 (startF k : Nat)]), (ga, 34, #[.slice (some ⟨gb, 0, none⟩) 15 15]), (gb, 5, rowU 15 (byteN (bitP p (parP p)) (startF k))), (gp, 44, row 25 (packI p))]) (fun c _ => 25 - (intOf c).toNat)
  case atStart => exact ⟨0, by omega, rfl, H⟩
  clear H
  case round =>
    obtain ⟨k, hk, rfl, H⟩ := hrel
    by_cases hlt : k < 25
    · have hex := Lib.hid (extract3 (n := 0) HC.out hlt)
      have h3 : k * 3 + 3 ≤ cs.size := by omega
      have hpk := HP.out k hlt
      have hml := most_lt hlt
      have hbl := bits_le hlt
      have hsl := start_le hlt
      have hv : p k < 64 := Nat.lt_of_le_of_lt hpk (Nat.lt_of_lt_of_le hml (show 2 ^ bitsF k ≤ 2 ^ 6 from Nat.pow_le_pow_right (by omega) (by omega)))
      have cp := Lib.hid (fun (u : World) (b0 b4 : Nat × TypeId × Array Value) H => put_any (bitP p (parP p)) HB.out (p k) (bitsF k) (startF k) (by omega) (by omega) hv (fun m hm => bitP_field hlt hm) w u ga gb gi b0 b4 H)
      go_wp2_with (first | ((refine wpList_on (o := ⟨_, .load 98 _, _, _, _, _⟩) rfl (fun K hK => ?_)); (try simp only [Act.put, List.setIfInBounds_toArray, List.set_cons_zero, List.set_cons_succ]); refine wp_load_part (n := 3) H 98 _ rfl rfl (by repeat (first | exact List.mem_cons_self | apply List.mem_cons_of_mem | apply List.mem_append_right)) (by kernel_rfl) h3 hex.out ?_; refine hK _ _ ?_; clear hK K) | (refine wpList_on (o := ⟨some 8, .alloc 98, _, _, _, _⟩) rfl (fun K hK => ?_); refine wp_alloc H 98 rfl (z := (.agg #[.pointer none, .int .i64 0, .int .i64 0])) (by kernel_rfl) ?_; clear H; intro u g8 H; refine hK _ _ ?_; clear hK K; try simp only [Value.cells, List.cons_append, List.nil_append] at H) | ((refine wpList_on (o := ⟨_, .store 98 _ _, _, _, _, _⟩) rfl (fun K hK => ?_)); (try simp only [Act.put, List.setIfInBounds_toArray, List.set_cons_zero, List.set_cons_succ]); refine wp_store_all (l1 := []) H 98 _ _ rfl rfl rfl (by kernel_rfl) rfl (by simp [Value.oneCell', fieldRow]) ?_; clear H; intro u H; refine hK _ _ ?_; clear hK K; try simp only [Value.cells, List.cons_append, List.nil_append] at H))
      refine wp_region_text [] (by kernel_rfl) (by kernel_rfl) (by kernel_rfl) ?_; replace H := H.drew; generalize World.drew _ = u at *
      repeat (first | (refine ones_load_one (v := .pointer (some ⟨gp, k, none⟩)) (o := ⟨_, .load 96 _, _, _, _, _⟩) H 96 _ rfl rfl rfl rfl (by repeat (first | exact List.mem_cons_self | apply List.mem_cons_of_mem | apply List.mem_append_right)) (by kernel_rfl) rfl ?_; simp only [Act.put, List.setIfInBounds_toArray, List.set_cons_zero, List.set_cons_succ]) | (refine ones_load_one (v := .int .i64 (p k : Nat)) (o := ⟨_, .load 3 _, _, _, _, _⟩) H 3 _ rfl rfl rfl rfl (by repeat (first | exact List.mem_cons_self | apply List.mem_cons_of_mem | apply List.mem_append_right)) (by kernel_rfl) (row_get _ hlt) ?_; simp only [Act.put, List.setIfInBounds_toArray, List.set_cons_zero, List.set_cons_succ]) | (refine ones_load_one (v := .int .i64 (bitsF k : Nat)) (o := ⟨_, .load 3 _, _, _, _, _⟩) H 3 _ rfl rfl rfl rfl (by repeat (first | exact List.mem_cons_self | apply List.mem_cons_of_mem | apply List.mem_append_right)) (by kernel_rfl) rfl ?_; simp only [Act.put, List.setIfInBounds_toArray, List.set_cons_zero, List.set_cons_succ]) | (refine ones_eff (o := ⟨_, .call _, _, _, _, _⟩) rfl rfl (fun K hK => ?_); go_simp; (go_at_call 55; (with_reducible refine (cp.out _ _ _ H.tail).mono ?_); rintro e w1 ⟨rfl, H2⟩; replace H := H2; clear H2); refine hK _ _ ?_; clear hK K; try simp only [Act.put, List.setIfInBounds_toArray, List.set_cons_zero, List.set_cons_succ]) | (refine ones_free (v := ?_) rfl rfl ?_ ?_; rotate_left; (intro w'; go_simp; try with_reducible rfl); simp only [Act.put, List.setIfInBounds_toArray, List.set_cons_zero, List.set_cons_succ]))
      refine ones_nil ?_
      go_wp2
      go_roundw
      case rel => exact ⟨k + 1, by omega, by go_num, by rw [start_next hlt]; exact H⟩
      case measure => simp [intOf]; omega
    · obtain rfl : k = 25 := by omega
      have hpar := parP_lt p
      have h0 := HP.out 0 (by omega)
      have h9 := HP.out 9 (by omega)
      have h17 := HP.out 17 (by omega)
      have cq := fun w' : World => Parity_any (packI p) w' (show (0 : Int) ≤ (p 0 : Nat) ∧ ((p 0 : Nat) : Int) < 64 from by simp [mostF, mostL] at h0; omega) (show (0 : Int) ≤ (p 9 : Nat) ∧ ((p 9 : Nat) : Int) < 64 from by simp [mostF, mostL] at h9; omega) (show (0 : Int) ≤ (p 17 : Nat) ∧ ((p 17 : Nat) : Int) < 64 from by simp [mostF, mostL] at h17; omega)
      have CQ := Lib.hid cq
      clear h0 h9 h17 cq
      have hb1 : ∀ m, m < 1 → bitP p (parP p) (106 + m) = bitOf (parP p) 1 m := fun m hm => by
        obtain rfl : m = 0 := by omega
        show bitP p (parP p) 106 = _
        rw [par_back]; simp [bitOf]; omega
      have cp := Lib.hid (fun (u : World) (b0 b4 : Nat × TypeId × Array Value) (H : Has w u [b0, (gi, 3, #[.int .i64 (startF 25 : Nat)]), (ga, 34, #[.slice (some ⟨gb, 0, none⟩) 15 15]), (gb, 5, rowU 15 (byteN (bitP p (parP p)) (startF 25))), b4]) => show Calls Tryd.prog 55 #[.int .i64 (parU (packI p) 3 : Nat), .int .i64 1, .pointer (some ⟨ga, 0, none⟩), .pointer (some ⟨gi, 0, none⟩)] u fun e w' => e = .returned (.tuple #[]) ∧
        Has w w' [b0, (gi, 3, #[.int .i64 107]), (ga, 34, #[.slice (some ⟨gb, 0, none⟩) 15 15]), (gb, 5, rowU 15 (byteN (bitP p (parP p)) 107)), b4] from by
        have := put_any (bitP p (parP p)) HB.out (parP p) 1 106 (by omega) (by omega) (by omega) hb1 w u ga gb gi b0 b4 H
        exact this)
      go_wp2_with (first | ((refine wpList_on (o := ⟨_, .load 44 _, _, _, _, _⟩) rfl (fun K hK => ?_)); (try simp only [Act.put, List.setIfInBounds_toArray, List.set_cons_zero, List.set_cons_succ]); refine wp_load_all H 44 _ rfl rfl (by repeat (first | exact List.mem_cons_self | apply List.mem_cons_of_mem | apply List.mem_append_right)) (by kernel_rfl) ?_; refine hK _ _ ?_; clear hK K) | (go_at_call 47; (with_reducible refine (CQ.out _).mono ?_); rintro e w1 ⟨rfl, hb⟩; replace H := H.callee hb; clear hb) | (go_at_call 55; (with_reducible refine (cp.out _ _ _ H).mono ?_); rintro e w1 ⟨rfl, H2⟩; replace H := H2; clear H2))
      refine wp_region_ordB [] [(2, 0)] (fun w' => Has w w' [(gf, 98, cs), (gi, 3, #[.int .i64 107]), (ga, 34, #[.slice (some ⟨gb, 0, none⟩) 15 15]), (gb, 5, rowU 15 (byteN (bitP p (parP p)) 107)), (gp, 44, row 25 (packI p))]) [] [[0, 1, 2, 3, 4, 5]] (by kernel_rfl) (by kernel_rfl) (by kernel_rfl) ?_; replace H := H.drew; generalize World.drew _ = u at *; simp only [List.forall_mem_cons, List.not_mem_nil, false_imp_iff, implies_true, and_true]; (repeat' refine And.intro ?_ ?_)
      repeat (first | (refine sq_free (o := ⟨_, _, _, _, _, _⟩) (v := ?_) rfl rfl rfl ?_ ?_; rotate_left; (intro w'; go_simp; try with_reducible rfl); simp only [Act.put, List.setIfInBounds_toArray, List.set_cons_zero, List.set_cons_succ]) | (refine sq_load_one (v := .slice (some ⟨gb, 0, none⟩) 15 15) (o := ⟨_, .load 34 _, _, _, _, _⟩) 34 _ rfl rfl rfl rfl rfl (H.sub (List.Sublist.refl _)) (by repeat (first | exact List.mem_cons_self | apply List.mem_cons_of_mem | apply List.mem_append_right)) (by kernel_rfl) rfl ?_; simp only [Act.put, List.setIfInBounds_toArray, List.set_cons_zero, List.set_cons_succ]) | (refine sq_keep (o := ⟨_, .call _, _, _, _, _⟩) rfl rfl rfl (fun K hK => ?_); go_simp; (go_at_call 43; (with_reducible refine (sum_any gb 15 (byteN (bitP p (parP p)) 107) _ (Bytes.ofRow H (by repeat (first | exact List.mem_cons_self | apply List.mem_cons_of_mem | apply List.mem_append_right)) (by omega)) (fun i => byteN_lt HB.out _ _)).mono ?_); rintro e w1 ⟨rfl, rfl⟩); refine hK _ _ (H.sub (by repeat (first | exact List.Sublist.refl _ | exact List.nil_sublist _ | apply List.Sublist.cons_cons | apply List.Sublist.cons | refine List.Sublist.trans ?_ (List.sublist_append_right _ _)))) ?_; clear hK K; try simp only [Act.put, List.setIfInBounds_toArray, List.set_cons_zero, List.set_cons_succ]))
      refine sq_eff (o := ⟨_, .store 5 _ _, _, _, _, _⟩) rfl rfl rfl (fun K hK => ?_)
      refine wp_store_one (l1 := [_, _, _]) (v := .int .u8 (sumN (byteN (bitP p (parP p)) 107) 14 % 256 : Nat)) (i := 14) H 5 _ _ rfl rfl rfl (by kernel_rfl) (by rw [rowU_size]; omega) rfl ?_
      clear H
      intro u H
      refine hK _ _ ?_; clear hK K
      simp only [Act.put, List.setIfInBounds_toArray, List.set_cons_zero, List.set_cons_succ]
      simp only [List.cons_append, List.nil_append] at H
      rw [rowU_set (g := packB p (parP p)) _ _ (fun i hi => packB_end p hi)] at H
      refine sq_nil ?_
      go_wp2_with (first | ((refine wpList_on (o := ⟨_, .load 34 _, _, _, _, _⟩) rfl (fun K hK => ?_)); (try simp only [Act.put, List.setIfInBounds_toArray, List.set_cons_zero, List.set_cons_succ]); refine wp_load_one H 34 _ rfl rfl (by repeat (first | exact List.mem_cons_self | apply List.mem_cons_of_mem | apply List.mem_append_right)) (by kernel_rfl) rfl ?_; refine hK _ _ ?_; clear hK K))
      go_ret2
      exact ⟨gb, rfl, H.sub (List.Sublist.cons _ (List.Sublist.cons _ (List.Sublist.cons _ (List.Sublist.cons_cons _ (List.nil_sublist _)))))⟩
end Go.Proofs.YtcoicmbjoaonoaaDoor
