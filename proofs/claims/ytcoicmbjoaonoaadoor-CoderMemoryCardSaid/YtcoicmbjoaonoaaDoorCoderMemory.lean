/-
  The walk of CoderMemory. No statement is proved here.
-/
import Derived.Test.YtcoicmbjoaonoaaDoorTopEnds
import Derived.Test.YtcoicmbjoaonoaaDoorZbc
import Derived.Test.YtcoicmbjoaonoaaDoorZar
import Derived.Laws.IdiomStrings
namespace Go.Proofs.YtcoicmbjoaonoaaDoor
set_option linter.unusedVariables false
set_option linter.unusedSimpArgs false
open Go.RowKit
set_option maxRecDepth 100000
/-- Fifteen bytes as a string. -/
def strC (f : Nat → Nat) : ByteArray := ⟨((List.range 15).map fun i => UInt8.ofNat (f i)).toArray⟩
theorem wp_conv_strC {P : Program} {o : Oper} {a : Act} {K : Act → World → Prop} {Q : Exit → Act → World → Prop} {u : World} {src dst e : TypeId} (x : Operand) (ho : o.op = .convert src dst x) {ad : Addr} {c : Nat} {f : Nat → Nat} (hx : a.eval x = .slice (some ad) 15 c) (hs : P.underlying src = some (.slice e)) (he : P.underlying e = some (.int .u8)) (hd : P.underlying dst = some .string)
    (hc : ∀ i, i < 15 → u.cell? (ad.add i) = some (.int .u8 (f i : Nat))) (hf : ∀ i, f i < 256) (h : K (a.put o.dst (.string (strC f))) u) : o.wp P a u K Q := by
  have hr := run_convert_bytes_back (P := P) u src dst e ad c ((List.range 15).map fun i => UInt8.ofNat (f i)) hs he hd (fun j hj => by
    have hj' : j < 15 := by simpa using hj
    rw [hc j hj']
    have := hf j
    simp [UInt8.toNat_ofNat']
    omega)
  rw [show ((List.range 15).map fun i => UInt8.ofNat (f i)).length = 15 by simp] at hr
  unfold Oper.wp execOp
  simp only [ho, hx, Sem.run_bind, hr, Result.andThen_ok, Sem.run_pure]
  exact h
theorem strC_eql (f : Nat → Nat) (w : World) : (binOp .eql 9 (.string (strC f)) (.string (strC f))).run Tryd.prog w = .ok (.bool true) w := by
  go_simp
theorem Has.toEnd {w u : World} {l1 l2 : List (Nat × TypeId × Array Value)} {x : Nat × TypeId × Array Value} (H : Has w u (l1 ++ x :: l2)) : Has w u ((l1 ++ l2) ++ [x]) :=
  H.perm (List.perm_middle.trans (List.perm_append_comm (l₁ := [x]) (l₂ := l1 ++ l2)))
theorem wp_append_own {P : Program} {o : Oper} {a : Act} {K : Act → World → Prop} {Q : Exit → Act → World → Prop} {w0 u : World} {l1 l2 : List (Nat × TypeId × Array Value)} {g : Nat} {e t : TypeId} {cs : Array Value} (H : Has w0 u (l1 ++ (g, e, cs) :: l2)) (s_ x_ : Operand) (ho : o.op = .call { callee := .builtin .append, args := #[s_, x_], argTypes := #[t, t] })
    {n m N cap : Nat} {f nw f' : Nat → Value} {x : Value} (hs : a.eval s_ = .slice (some ⟨g, 0, none⟩) n cap) (hx : a.eval x_ = x) (ht : sliceOf P t e 1 1 = true) (S : From P t 1 x m nw u)
    (hcap : n ≤ cap) (hmax : cap ≤ maxLen) (hsz : cs.size = cap * 1) (hcs : ∀ i, i < n * 1 → cs[i]? = some (f i)) (hN : n + m = N) (hpos : 0 < N) (hsm : N ≤ 100000) (hf : ∀ i, i < N → glue (n * 1) f nw i = f' i)
    (h : ∀ u' g' cs' cap', N ≤ cap' → cap' ≤ maxLen → cs'.size = cap' * 1 → (∀ i, i < N * 1 → cs'[i]? = some (f' i)) → Has w0 u' ((l1 ++ l2) ++ [(g', e, cs')]) → K (a.put o.dst (.slice (some ⟨g', 0, none⟩) N cap')) u') : o.wp P a u K Q := by
  have hmx : maxLen = 9223372036854775807 := rfl
  have R : Rowed e 1 (.slice (some ⟨g, 0, none⟩) n cap) n f [(g, e, cs)] := .inr ⟨g, cap, cs, rfl, rfl, hcap, hmax, hsz, hcs⟩
  refine wp_append_has (bs := l1 ++ l2) (B := 1) s_ x_ t ho H.toEnd R hs hx ht S (by omega) (by omega) fun v' u' tl' R' H2 => ?_
  rw [hN] at R'
  rcases R' with ⟨_, h0, _⟩ | ⟨g', cap', cs', rfl, rfl, hc1, hc2, hc3, hc4⟩
  · omega
  · exact h u' g' cs' cap' hc1 hc2 hc3 (fun i hi => by rw [hc4 i hi, hf i (by omega)]) H2
def c2F (b : Nat → Nat) (i : Nat) : Value := if i < 15 then .int .u8 (b i : Nat) else .int .u8 77
theorem c1_glue (b : Nat → Nat) (i : Nat) (f : Nat → Value) : glue (0 * 1) f (fun i => .int .u8 (b i : Nat)) i = .int .u8 (b i : Nat) := by
  unfold glue
  rw [if_neg (by omega), show i - 0 * 1 = i by omega]
theorem c2_glue (b : Nat → Nat) (i : Nat) (hi : i < 16) : glue (15 * 1) (fun i => .int .u8 (b i : Nat)) (fun _ => .int .u8 77) i = c2F b i := by
  unfold glue c2F
  rfl
theorem Bytes.ofCellsC {w0 u : World} {bs : List (Nat × TypeId × Array Value)} {g n : Nat} {t : TypeId} {cs : Array Value} {f : Nat → Nat} (H : Has w0 u bs) (hm : (g, t, cs) ∈ bs) (h : ∀ i, i < n → cs[i]? = some (.int .u8 (f i : Nat))) : Bytes u g n f := fun i hi => by
  rw [(H.at_ hm).cell, h i hi]
theorem c2_at {b : Nat → Nat} {cs : Array Value} (h : ∀ i, i < 16 * 1 → cs[i]? = some (c2F b i)) (i : Nat) (hi : i < 15) : cs[i]? = some (.int .u8 (b i : Nat)) := by
  rw [h i (by omega)]
  unfold c2F
  rw [if_pos hi]
theorem c2_last {b : Nat → Nat} {cs : Array Value} (h : ∀ i, i < 16 * 1 → cs[i]? = some (c2F b i)) : cs[15]? = some (.int .u8 77) := h 15 (by omega)
theorem room_in {f : Nat → Int} (hf : ∀ i, In16 (f i)) (i : Nat) (hi : i < 80) : In16 (roomF 80 f i) := by
  unfold roomF
  rw [if_pos hi]
  exact hf i
set_option maxHeartbeats 25600000 in
theorem coderMemory_in (A : Option Addr) (len cap : Nat) (F p r : Nat → Int) (pb : Nat → Nat) (w : World) (hT : Roots w) (hP : Gains w) (hW : Widths w) (hF : ∀ i, In16 (F i)) (hpb : ∀ i, pb i < 256)
    (c1 : ∀ u : World, Below w.heap.size w u → Calls Tryd.prog 27 #[.slice A len cap, .int .i64 80] u fun e w' => ∃ g, e = .returned (.slice (some ⟨g, 0, none⟩) 80 80) ∧ Has u w' [(g, 3, row 80 F)])
    (cK : ∀ u : World, Calls Tryd.prog 22 #[.agg (row 25 p)] u fun e w' => e = .returned (.agg (row 25 r)) ∧ Below u.heap.size u w')
    (cP : ∀ u : World, Widths u → Calls Tryd.prog 23 #[.agg (row 25 r)] u fun e w' => ∃ g, e = .returned (.tuple #[.slice (some ⟨g, 0, none⟩) 15 15, .int .i64 0]) ∧ Has u w' [(g, 5, rowU 15 pb)]) :
    Calls Tryd.prog 8 #[.slice A len cap, .agg (row 25 p)] w fun e w' => e = .returned (.bool true) ∧ Below w.heap.size w w' := by
  have H := Has.start w
  have C1 := Lib.hid c1
  have CK := Lib.hid cK
  have CP := Lib.hid cP
  have HF := Lib.hid hF
  have HB := Lib.hid hpb
  clear c1 cK cP hF hpb
  have cR := Lib.hid (fun (g : Nat) (u : World) (hR : Reads u (some ⟨g, 0, none⟩) 80 g 0 F) => show Calls Tryd.prog 28 #[.slice (some ⟨g, 0, none⟩) 80 80] u fun e w' => ∃ g', e = .returned (.slice (some ⟨g', 0, none⟩) 80 82) ∧ Has u w' [(g', 3, row 82 (roomF 80 F))] from roomy_any g 80 80 F u (by omega) hR)
  have cE := Lib.hid (fun (v : Value) (u : World) (L : Lies u v 80 (roomF 80 F)) (hT : Roots u) (hP : Gains u) (hW : Widths u) => Encode_next Z0 Z0 freshF (roomF 80 F) false true enc_begin (room_in HF.out) L hT hP hW)
  have cS := Lib.hid (fun (g g' : Nat) (u : World) (hA : ∀ i, i < 82 → u.cell? ⟨g, i, none⟩ = some (.int .i64 (roomF 80 F i))) (hR : Reads u (some ⟨g', 0, none⟩) 80 g' 0 F) => show Calls Tryd.prog 31 #[.slice (some ⟨g, 0, none⟩) 80 82, .slice (some ⟨g', 0, none⟩) 80 80] u fun e w' => e = .returned (.bool true) ∧ Below u.heap.size u w' from stayed_any g g' 80 F u (by omega) hA hR)
  have CP2 := CP
  have heq := fun w => strC_eql pb w
  go_enter Tryd.func8, Tryd.ntmps8
  go_wp2_with (first | ((refine wpList_on (o := ⟨_, .box _ (.tmp 1), _, _, _, _⟩) rfl (fun K hK => ?_)); (try simp only [Act.put, List.setIfInBounds_toArray, List.set_cons_zero, List.set_cons_succ]); refine wp_box H _ (.tmp 1) rfl (v := .agg _) rfl ?_; clear H; intro u g3 H; refine hK _ _ ?_; clear hK K; try simp only [Value.cells, List.cons_append, List.nil_append] at H) | (go_at_call 27; (with_reducible refine (C1.out _ H.below).mono ?_); rintro e u ⟨gl, rfl, hb⟩; replace H := H.join hb; clear hb; (try simp only [List.cons_append, List.nil_append] at H)) | (go_at_call 28; (with_reducible refine (cR.out _ _ (Reads.ofRow H (by repeat (first | exact List.mem_cons_self | apply List.mem_cons_of_mem | apply List.mem_append_right)) (Nat.le_refl _))).mono ?_); rintro e u ⟨gm, rfl, hb⟩; replace H := H.join hb; clear hb; (try simp only [List.cons_append, List.nil_append] at H)) | (go_at_call 10; (with_reducible refine (Begin_any _).mono ?_); rintro e w1 ⟨rfl, hb⟩; replace H := H.callee hb; clear hb) | (go_at_call 12; (with_reducible refine (cE.out _ _ (H.lies (m := 82) (by repeat (first | exact List.mem_cons_self | apply List.mem_cons_of_mem | apply List.mem_append_right)) (by omega)) (hT.has H) (hP.has H) (hW.has H)).mono ?_); rintro e u ⟨q2, n2, P, k2, gp, vo, tl, -, hp, -, -, rfl, ROs, hb⟩; obtain ⟨gs, capS, csS, rfl, rfl, hcapS, hszS, hcsS⟩ := ROs.some_ (by omega); clear hszS hcapS hcsS; replace H := H.joinR hb; clear hb; (try simp only [List.cons_append, List.nil_append] at H)) | (refine wpList_on (o := ⟨some 6, .alloc 31, _, _, _, _⟩) rfl (fun K hK => ?_); refine wp_alloc H 31 rfl (z := (.agg (encA Z0 Z0 Z0 false))) (by kernel_rfl) ?_; clear H; intro u g6 H; refine hK _ _ ?_; clear hK K; try simp only [Value.cells, List.cons_append, List.nil_append] at H) | ((refine wpList_on (o := ⟨_, .store 31 _ _, _, _, _, _⟩) rfl (fun K hK => ?_)); (try simp only [Act.put, List.setIfInBounds_toArray, List.set_cons_zero, List.set_cons_succ]); refine wp_store_all (l1 := []) H 31 _ _ rfl rfl rfl (by rw [encA_size]; kernel_rfl) (by simp only [encA_size]) (encA_one _ _ _ _) ?_; clear H; intro u H; refine hK _ _ ?_; clear hK K; (try simp only [List.cons_append, List.nil_append] at H)) | ((refine wpList_on (o := ⟨some 34, .makeSlice _ _ _, _, _, _, _⟩) rfl (fun K hK => ?_)); refine wp_make_u8 (t_ := 34) (e := 5) H _ _ rfl 0 40 .i64 .i64 rfl rfl (by kernel_rfl) (by kernel_rfl) (by omega) (by omega) (by omega) ?_; clear H; intro u gc0 H; refine hK _ _ ?_; clear hK K) | ((refine wpList_on (o := ⟨some 36, .call _, _, _, _, _⟩) rfl (fun K hK => ?_)); refine wp_append_own (l1 := []) (cs := rowU 40 fun _ => 0) (n := 0) (m := 15) (N := 15) (cap := 40) (f := fun _ => .int .u8 0) (f' := fun i => .int .u8 (packB P (parP P) i : Nat)) (nw := fun i => .int .u8 (packB P (parP P) i : Nat)) (e := 5) H _ _ rfl rfl rfl (by kernel_rfl) (From.block (e := 5) (B := 1) (cs := rowU 15 (packB P (parP P))) H (by kernel_rfl) (by repeat (first | exact List.mem_cons_self | apply List.mem_cons_of_mem | apply List.mem_append_right)) (fun j hj => rowU_get _ (by omega)) (fun _ _ => rfl)) (by omega) (by unfold maxLen; omega) (by rw [rowU_size]) (fun i hi => by omega) rfl (by omega) (by omega) (fun i hi => c1_glue _ _ _) ?_; (intro u gc1 csC1 capC1 ha1 hb1 hd1 he1 H2; replace H := H2; clear H2; (try simp only [List.cons_append, List.nil_append] at H); refine hK _ _ ?_; clear hK K)) | ((refine wpList_on (o := ⟨some 37, .buildSlice _ _ _, _, _, _, _⟩) rfl (fun K hK => ?_)); refine wp_made H (elem := 5) (n := 1) (cs := rowU 1 (fun _ => 77)) (by kernel_rfl) ?_; clear H; intro u g77 H; refine hK _ _ ?_; clear hK K) | ((refine wpList_on (o := ⟨some 38, .call _, _, _, _, _⟩) rfl (fun K hK => ?_)); refine wp_append_own (l1 := [_, _, _, _, _, _, _]) (cs := csC1) (n := 15) (m := 1) (N := 16) (cap := capC1) (f := fun i => .int .u8 (packB P (parP P) i : Nat)) (f' := c2F (packB P (parP P))) (nw := fun _ => .int .u8 77) (e := 5) H _ _ rfl rfl rfl (by kernel_rfl) (From.block (e := 5) (B := 1) (cs := rowU 1 (fun _ => 77)) H (by kernel_rfl) (by repeat (first | exact List.mem_cons_self | apply List.mem_cons_of_mem | apply List.mem_append_right)) (fun j hj => rowU_get _ (by omega)) (fun _ _ => rfl)) ha1 hb1 hd1 he1 rfl (by omega) (by omega) (fun i hi => c2_glue _ i hi) ?_; (intro u gc2 csC2 capC2 hc2 hb2 hd2 he2 H2; clear hb2 hd2 ha1 hb1 hd1 he1; replace H := H2; clear H2; have k15 : 15 ≤ capC2 := (by omega); have k15i : (15 : Int) ≤ (capC2 : Int) := (by omega); (try simp only [List.cons_append, List.nil_append] at H); refine hK _ _ ?_; clear hK K)) | (go_at_call 29; (with_reducible refine (Fresh_any _).mono ?_); rintro e w1 ⟨rfl, hb⟩; replace H := H.callee hb; clear hb) | (go_at_call 17; (with_reducible refine (Decode_ok freshF false P _ _ fresh_good hp.most (hT.has H) (hP.has H) (hW.has H) _ k15 (Bytes.ofCellsC (cs := csC2) H (by repeat (first | exact List.mem_cons_self | apply List.mem_cons_of_mem | apply List.mem_append_right)) (c2_at he2))).mono ?_); rintro e w1 ⟨vo, tl, rfl, RO, hb⟩; obtain ⟨gk, capK, csK, rfl, rfl, hcapK, hszK, hcsK⟩ := RO.some_ (by omega); clear RO hszK hcapK; replace H := H.joinR hb; clear hb; (try simp only [List.cons_append, List.nil_append] at H)) | (refine wpList_on (o := ⟨some 11, .alloc 29, _, _, _, _⟩) rfl (fun K hK => ?_); refine wp_alloc H 29 rfl (z := (.agg (memA (fun _ => 0) false))) (by kernel_rfl) ?_; clear H; intro u g11 H; refine hK _ _ ?_; clear hK K; try simp only [Value.cells, List.cons_append, List.nil_append] at H) | ((refine wpList_on (o := ⟨_, .store 29 _ _, _, _, _, _⟩) rfl (fun K hK => ?_)); (try simp only [Act.put, List.setIfInBounds_toArray, List.set_cons_zero, List.set_cons_succ]); refine wp_store_all (l1 := []) H 29 _ _ rfl rfl rfl (by rw [memA_size]; kernel_rfl) (by simp only [memA_size]) (memA_one _ _) ?_; clear H; intro u H; refine hK _ _ ?_; clear hK K; (try simp only [List.cons_append, List.nil_append] at H)) | ((refine wpList_on (o := ⟨some 50, .call _, _, _, _, _⟩) rfl (fun K hK => ?_)); refine wp_append_nil (e := 3) (m := 80) (f := frO freshF (packI P)) H _ _ rfl rfl rfl (by kernel_rfl) (From.block (e := 3) (B := 8) (cs := csK) H (by kernel_rfl) (by repeat (first | exact List.mem_cons_self | apply List.mem_cons_of_mem | apply List.mem_append_right)) hcsK (fun _ _ => rfl)) (by omega) ?_; (intro vw u tlw RW H2; obtain ⟨gw, capW, csW, rfl, rfl, hcapW, hszW, hcsW⟩ := RW.some_ (by omega); clear RW hcapW hszW; replace H := H2; clear H2; (try simp only [List.cons_append, List.nil_append] at H); refine hK _ _ ?_; clear hK K)))
  replace H := Has.toEnd (l1 := [_, _, _, _, _, _, _]) H
  refine (scribble_own (by omega) ROs H).mono ?_
  clear H ROs hp C1 cR cE
  rintro e u ⟨rfl, H⟩
  (try simp only [List.cons_append, List.nil_append] at H)
  generalize frO freshF (packI P) = x at *
  generalize packB P (parP P) = b1 at *
  replace H := H.sub (bs' := [(gm, 3, row 82 (roomF 80 F)), (gl, 3, row 80 F), (g3, 44, row 25 p), (gp, 5, rowU 15 b1), (gc2, 5, csC2), (gk, 3, csK), (gw, 3, csW)]) (by repeat (first | exact List.Sublist.refl _ | exact List.nil_sublist _ | apply List.Sublist.cons_cons | apply List.Sublist.cons))
  replace he2 := Lib.hid he2
  replace hcsK := Lib.hid hcsK
  replace hcsW := Lib.hid hcsW
  have k16 : 16 ≤ capC2 := by omega
  have k16i : (16 : Int) ≤ (capC2 : Int) := by omega
  go_wp2_with fail
  go_loopw [15] (fun c wr => ∃ (k : Nat) (b1 : Nat → Nat), k ≤ 15 ∧ c = .int .i64 k ∧ Has w wr [(gm, 3, row 82 (roomF 80 F)), (gl, 3, row 80 F), (g3, 44, row 25 p), (gp, 5, rowU 15 b1), (gc2, 5, csC2), (gk, 3, csK), (gw, 3, csW)]) (fun c _ => 15 - (intOf c).toNat)
  case atStart => exact ⟨0, b1, by omega, rfl, H⟩
  clear H
  case round =>
    obtain ⟨k, b1, hk, rfl, H⟩ := hrel
    by_cases hlt : k < 15
    · have q1 : (k : Int) < 15 := by omega
      have hrow : Hid ((rowU 15 b1).setIfInBounds k (.int .u8 (0 : Nat)) = rowU 15 (fun i => if i = k then 0 else b1 i)) := rowU_set _ _ 0 (fun i _ => rfl)
      go_wp2_with ((refine wpList_on (o := ⟨_, .store 5 _ _, _, _, _, _⟩) rfl (fun K hK => ?_)); refine wp_store_one (v := .int .u8 (0 : Nat)) (l1 := [_, _, _]) H 5 _ _ rfl rfl rfl (by kernel_rfl) (by rw [rowU_size]; exact hlt) rfl ?_; clear H; intro u H; refine hK _ _ ?_; clear hK K; (try simp only [List.cons_append, List.nil_append] at H); rw [hrow.out] at H)
      go_roundw
      case rel => exact ⟨k + 1, _, by omega, by go_num, H⟩
      case measure => simp [intOf]; omega
    · obtain rfl : k = 15 := by omega
      go_wp2_with (first | ((refine wpList_on (o := ⟨_, .load 44 _, _, _, _, _⟩) rfl (fun K hK => ?_)); (try simp only [Act.put, List.setIfInBounds_toArray, List.set_cons_zero, List.set_cons_succ]); refine wp_load_all H 44 _ rfl rfl (by repeat (first | exact List.mem_cons_self | apply List.mem_cons_of_mem | apply List.mem_append_right)) (by kernel_rfl) ?_; refine hK _ _ ?_; clear hK K) | (go_at_call 22; (with_reducible refine (CK.out _).mono ?_); rintro e w1 ⟨rfl, hb⟩; replace H := H.callee hb; clear hb) | (go_at_call 23; (with_reducible refine (CP.out _ (hW.has H)).mono ?_); clear CP; rintro e w1 ⟨gq, rfl, hb⟩; replace H := H.joinR hb; clear hb; (try simp only [List.cons_append, List.nil_append] at H)) | (go_at_call 23; (with_reducible refine (CP2.out _ (hW.has H)).mono ?_); clear CP2; rintro e w1 ⟨gr, rfl, hb⟩; replace H := H.joinR hb; clear hb; (try simp only [List.cons_append, List.nil_append] at H)) | ((refine wpList_on (o := ⟨some 75, .convert _ _ _, _, _, _, _⟩) rfl (fun K hK => ?_)); refine wp_conv_strC (e := 5) (f := pb) _ rfl rfl Tryd.underlying34 Tryd.underlying5 Tryd.underlying9 (fun i hi => by rw [Addr.add_mid, Nat.zero_add]; exact Bytes.ofRow (g := gr) (m := 15) H (by repeat (first | exact List.mem_cons_self | apply List.mem_cons_of_mem | apply List.mem_append_right)) (Nat.le_refl 15) i hi) HB.out ?_; refine hK _ _ ?_; clear hK K))
      have hB0 : Hid (∀ i, pb i < 256) := HB.out
      replace H := H.sub (bs' := [(gm, 3, row 82 (roomF 80 F)), (gl, 3, row 80 F), (gc2, 5, csC2), (gk, 3, csK), (gw, 3, csW), (gq, 5, rowU 15 pb), (gr, 5, rowU 15 pb)]) (by repeat (first | exact List.Sublist.refl _ | exact List.nil_sublist _ | apply List.Sublist.cons_cons | apply List.Sublist.cons))
      go_loopw [21] (fun c wr => ∃ (k : Nat) (b2 : Nat → Nat), k ≤ 15 ∧ c = .int .i64 k ∧ Hid (∀ i, b2 i < 256) ∧ Has w wr [(gm, 3, row 82 (roomF 80 F)), (gl, 3, row 80 F), (gc2, 5, csC2), (gk, 3, csK), (gw, 3, csW), (gq, 5, rowU 15 b2), (gr, 5, rowU 15 pb)]) (fun c _ => 15 - (intOf c).toNat)
      case atStart => exact ⟨0, pb, by omega, rfl, hB0, H⟩
      clear H hB0
      case round =>
        obtain ⟨k, b2, hk, rfl, hb2, H⟩ := hrel
        by_cases hlt : k < 15
        · have q1 : (k : Int) < 15 := by omega
          obtain ⟨y, hy⟩ : ∃ y, y = b2 k := ⟨_, rfl⟩
          have hy8 : y < 256 := by rw [hy]; exact hb2.out k
          obtain ⟨z, hz⟩ : ∃ z, z = y ^^^ 55 := ⟨_, rfl⟩
          have hz8 : z < 256 := by rw [hz]; exact Nat.xor_lt_two_pow (n := 8) (by omega) (by omega)
          have ex : bits .xor .u8 (y : Int) 55 = (z : Int) := by
            have h := bits_xor_u8 y 55 (by omega) (by omega)
            rw [hz]
            exact h
          have hrow : Hid ((rowU 15 b2).setIfInBounds k (.int .u8 (z : Nat)) = rowU 15 (fun i => if i = k then z else b2 i)) := rowU_set _ _ z (fun i _ => rfl)
          have hb3 : Hid (∀ i, (fun i => if i = k then z else b2 i) i < 256) := by
            show ∀ i, (fun i => if i = k then z else b2 i) i < 256
            intro i
            show (if i = k then z else b2 i) < 256
            split
            · exact hz8
            · exact hb2.out i
          replace hy := Lib.hid hy
          clear hz hb2
          go_wp2_with (first | ((refine wpList_on (o := ⟨_, .load 5 _, _, _, _, _⟩) rfl (fun K hK => ?_)); refine wp_load_one (v := .int .u8 (y : Nat)) H 5 _ rfl rfl (by repeat (first | exact List.mem_cons_self | apply List.mem_cons_of_mem | apply List.mem_append_right)) (by kernel_rfl) (by rw [hy.out]; exact rowU_get _ hlt) ?_; refine hK _ _ ?_; clear hK K) | ((refine wpList_on (o := ⟨_, .store 5 _ _, _, _, _, _⟩) rfl (fun K hK => ?_)); refine wp_store_one (v := .int .u8 (z : Nat)) (l1 := [_, _, _, _, _]) H 5 _ _ rfl rfl rfl (by kernel_rfl) (by rw [rowU_size]; exact hlt) rfl ?_; clear H; intro u H; refine hK _ _ ?_; clear hK K; (try simp only [List.cons_append, List.nil_append] at H); rw [hrow.out] at H))
          go_roundw
          case rel => exact ⟨k + 1, _, by omega, by go_num, hb3, H⟩
          case measure => simp [intOf]; omega
        · obtain rfl : k = 15 := by omega
          clear hb2
          go_wp2_with (first | (go_at_call 25; (with_reducible refine (codes_any _ (hT.has H) (hP.has H) (hW.has H)).mono ?_); rintro e w1 ⟨rfl, hb⟩; replace H := H.callee hb; clear hb) | (go_at_call 31; (with_reducible refine (cS.out _ _ _ (fun i hi => ((H.at_ (by repeat (first | exact List.mem_cons_self | apply List.mem_cons_of_mem | apply List.mem_append_right))).cell i).trans (row_get _ hi)) (Reads.ofRow H (by repeat (first | exact List.mem_cons_self | apply List.mem_cons_of_mem | apply List.mem_append_right)) (Nat.le_refl _))).mono ?_); rintro e w1 ⟨rfl, hb⟩; replace H := H.callee hb; clear hb) | (go_at_call 26; (with_reducible refine (same_l (by omega) (lies_n H (cs := csK) (by repeat (first | exact List.mem_cons_self | apply List.mem_cons_of_mem | apply List.mem_append_right)) hcsK.out) (lies_n H (cs := csW) (by repeat (first | exact List.mem_cons_self | apply List.mem_cons_of_mem | apply List.mem_append_right)) hcsW.out)).mono ?_); rintro e w1 ⟨rfl, hb⟩; replace H := H.callee hb; clear hb) | ((refine wpList_on (o := ⟨_, .load 5 _, _, _, _, _⟩) rfl (fun K hK => ?_)); (try simp only [Act.put, List.setIfInBounds_toArray, List.set_cons_zero, List.set_cons_succ]); refine wp_load_one (v := .int .u8 77) H 5 _ rfl rfl (by repeat (first | exact List.mem_cons_self | apply List.mem_cons_of_mem | apply List.mem_append_right)) (by kernel_rfl) (c2_last he2.out) ?_; refine hK _ _ ?_; clear hK K) | ((refine wpList_on (o := ⟨some 126, .convert _ _ _, _, _, _, _⟩) rfl (fun K hK => ?_)); refine wp_conv_strC (e := 5) (f := pb) _ rfl rfl Tryd.underlying34 Tryd.underlying5 Tryd.underlying9 (fun i hi => by rw [Addr.add_mid, Nat.zero_add]; exact Bytes.ofRow (g := gr) (m := 15) H (by repeat (first | exact List.mem_cons_self | apply List.mem_cons_of_mem | apply List.mem_append_right)) (Nat.le_refl 15) i hi) HB.out ?_; refine hK _ _ ?_; clear hK K))
          go_ret
          exact ⟨rfl, H.below⟩
theorem coderMemory_walk (A : Option Addr) (len cap : Nat) (ad : Addr) (f : Nat → Int) (hn : len ≤ 9223372036854775807) {w : World} (hR : ReadsA w A len ad f) (p : Nat → Int) (hT : Roots w) (hP : Gains w) (hW : Widths w) :
    Calls Tryd.prog 8 #[.slice A len cap, .agg (row 25 p)] w fun e w' => e = .returned (.bool true) ∧ Below w.heap.size w w' :=
  coderMemory_in A len cap (listF len f) p (packI (packF p)) (packB (packF p) (parP (packF p))) w hT hP hW (listF_16 _ _) (fun i => packB_lt _ i) (fun u hb => lists_any A len cap ad f 80 u hn (by omega) (by omega) (hR.below hb)) (fun u => packet_any p u) (fun u hW => Pack_any _ u hW (fun j _ => packF_le p j))
end Go.Proofs.YtcoicmbjoaonoaaDoor
