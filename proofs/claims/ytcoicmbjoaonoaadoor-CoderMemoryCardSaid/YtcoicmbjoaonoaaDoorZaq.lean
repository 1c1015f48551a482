/-
  Several texts of this claim, one behind the other: Unpack, PackLaws, Index. No statement is proved here.
-/
import Derived.Test.YtcoicmbjoaonoaaDoorZap
import Derived.Test.YtcoicmbjoaonoaaDoorZac
import Derived.Test.YtcoicmbjoaonoaaDoorZad
/-
  pack.Unpack walked. No statement is proved here.
-/
namespace Go.Proofs.YtcoicmbjoaonoaaDoor
set_option linter.unusedVariables false
set_option linter.unusedSimpArgs false
open Go.RowKit
set_option maxRecDepth 100000
/-- What is read from bytes. -/
def unpF (b : Nat → Nat) (j : Nat) : Nat := valB (bitB b) (startF j) (bitsF j)
def unpZ (b : Nat → Nat) (k j : Nat) : Int := if j < k then (unpF b j : Nat) else 0
def restZ (b : Nat → Nat) : Bool := (List.range 5).all fun i => bitB b (107 + i) == 0
/-- The code that Unpack answers for fifteen bytes. -/
def unpE (b : Nat → Nat) : Nat := if sumN b 14 % 256 = b 14 then (if restZ b = true then (if goodB (packI (unpF b)) = true then (if bitB b 106 = parP (unpF b) then 0 else 3) else 2) else 3) else 5
def unpR (b : Nat → Nat) : Nat → Int := if unpE b = 0 then packI (unpF b) else fun _ => 0
theorem restZ_no {b : Nat → Nat} {i : Nat} (hi : i < 5) (h : bitB b (107 + i) = 1) : restZ b = false := by
  cases e : restZ b
  · rfl
  · have := List.all_eq_true.1 e i (List.mem_range.2 hi)
    simp at this
    omega
theorem restZ_yes {b : Nat → Nat} (h : ∀ i, i < 5 → bitB b (107 + i) = 0) : restZ b = true := List.all_eq_true.2 fun i hi => by
  rw [List.mem_range] at hi
  simp [h i hi]
def UnpPost (r : Nat → Int) (e_ : Nat) (w : World) (e : Ending) (w' : World) : Prop := e = .returned (.tuple #[.agg (row 25 r), .int .i64 (e_ : Nat)]) ∧ Below w.heap.size w w'
theorem row_zero25 : row 25 (fun _ => (0 : Int)) = #[.int .i64 0, .int .i64 0, .int .i64 0, .int .i64 0, .int .i64 0, .int .i64 0, .int .i64 0, .int .i64 0, .int .i64 0, .int .i64 0, .int .i64 0, .int .i64 0, .int .i64 0, .int .i64 0, .int .i64 0, .int .i64 0, .int .i64 0, .int .i64 0, .int .i64 0, .int .i64 0, .int .i64 0, .int .i64 0, .int .i64 0, .int .i64 0, .int .i64 0] := rfl
theorem run_load_cell {P : Program} {o : Oper} {a : Act} {u : World} (ty : TypeId) (x : Operand) (ho : o.op = .load ty x) {p : Addr} {v : Value} (hx : a.eval x = .pointer (some p)) (hs : scalarOf P ty = true) (hc : u.cell? p = some v) : (execOp a.eval o).run P u = .ok (.value v) u := by
  unfold execOp
  simp only [ho, hx, Instr.loadAt, Instr.sureAddr, Sem.run_bind, Sem.run_pure, Result.andThen_ok, run_loadVar_one hs hc]
theorem sq_load_cell {P : Program} {o : Oper} {a : Act} {Q : Exit → Act → World → Prop} {w0 u : World} {ops : Array Oper} {kind : Nat → Nat} {i : Nat} {rst : List Nat} {bs0 : List (Nat × TypeId × Array Value)} (ty : TypeId) (x : Operand) (hoi : ops[i]? = some o) (hk : kind i = 1) (hg : Region.wanted o (yielded ops a.tmps) = true) (ho : o.op = .load ty x) {p : Addr} {v : Value} (hx : a.eval x = .pointer (some p)) (H : Has w0 u bs0) (hs : scalarOf P ty = true) (hc : w0.cell? p = some v)
    (h : Seq_ P ops (fun w' => Has w0 w' bs0) kind Q rst (a.put o.dst v) u) : Seq_ P ops (fun w' => Has w0 w' bs0) kind Q (i :: rst) a u :=
  sq_held hoi hk hg H (fun _ H' => run_load_cell ty x ho hx hs (H'.old_cell hc)) h
theorem unpR_zero {b : Nat → Nat} {c : Nat} (h : unpE b = c) (hc : c ≠ 0) : unpR b = fun _ => 0 := by unfold unpR; rw [if_neg (by omega)]
theorem unpE_sum {b : Nat → Nat} (h : sumN b 14 % 256 ≠ b 14) : unpE b = 5 := by unfold unpE; rw [if_neg h]
theorem unpE_rest {b : Nat → Nat} (h : sumN b 14 % 256 = b 14) (h1 : restZ b = false) : unpE b = 3 := by unfold unpE; rw [if_pos h, h1]; rfl
theorem unpE_good {b : Nat → Nat} (h : sumN b 14 % 256 = b 14) (h1 : restZ b = true) (h2 : goodB (packI (unpF b)) = false) : unpE b = 2 := by unfold unpE; rw [if_pos h, if_pos h1, h2]; rfl
theorem unpE_par {b : Nat → Nat} (h : sumN b 14 % 256 = b 14) (h1 : restZ b = true) (h2 : goodB (packI (unpF b)) = true) (h3 : bitB b 106 ≠ parP (unpF b)) : unpE b = 3 := by unfold unpE; rw [if_pos h, if_pos h1, if_pos h2, if_neg h3]
theorem unpE_yes {b : Nat → Nat} (h : sumN b 14 % 256 = b 14) (h1 : restZ b = true) (h2 : goodB (packI (unpF b)) = true) (h3 : bitB b 106 = parP (unpF b)) : unpE b = 0 := by unfold unpE; rw [if_pos h, if_pos h1, if_pos h2, if_pos h3]
theorem unpR_yes {b : Nat → Nat} (h : unpE b = 0) : unpR b = packI (unpF b) := by unfold unpR; rw [if_pos h]
theorem unpZ_next (b : Nat → Nat) (k : Nat) : row 25 (unpZ b (k + 1)) = row 25 fun j => if j = k then ((unpF b k : Nat) : Int) else unpZ b k j := row_congr fun i _ => by
  unfold unpZ
  by_cases e : i = k
  · rw [if_pos e, if_pos (by omega), e]
  · rw [if_neg e]
    by_cases h : i < k
    · rw [if_pos h, if_pos (by omega)]
    · rw [if_neg h, if_neg (by omega)]
theorem unpZ_all (b : Nat → Nat) : row 25 (unpZ b 25) = row 25 (packI (unpF b)) := row_congr fun i hi => by
  unfold unpZ packI
  rw [if_pos hi]
set_option maxHeartbeats 6400000 in
set_option maxRecDepth 100000 in
theorem Unpack_any (gb cap : Nat) (b : Nat → Nat) (w : World) (hT : Widths w) (hb : ∀ i, b i < 256) (hBy : Bytes w gb 15 b) (hcap : 15 ≤ cap) : Calls Tryd.prog 13 #[.slice (some ⟨gb, 0, none⟩) 15 cap] w (UnpPost (unpR b) (unpE b) w) := by
  have H := Has.start w
  have hmf : ∀ (fn : Fn) (first cap : Array Value) (w : World), (Instr.makeFunc fn first cap).run Tryd.prog w = .ok (.func fn first cap) w := fun _ _ _ _ => rfl
  have HB := Lib.hid hb
  have HY := Lib.hid hBy
  clear hb hBy
  go_enter Tryd.func13, Tryd.ntmps13
  go_wp2_with (first | ((refine wpList_on (o := ⟨_, .box _ (.tmp 0), _, _, _, _⟩) rfl (fun K hK => ?_)); refine wp_box H _ (.tmp 0) rfl (v := .slice (some ⟨gb, 0, none⟩) 15 cap) rfl ?_; clear H; intro u ga H; refine hK _ _ ?_; clear hK K; try simp only [Value.cells, List.cons_append, List.nil_append] at H) | ((refine wpList_on (o := ⟨some 2, .alloc 44, _, _, _, _⟩) rfl (fun K hK => ?_)); refine wp_alloc H 44 rfl (z := .agg (row 25 fun _ => 0)) (by kernel_rfl) ?_; clear H; intro u g2 H; refine hK _ _ ?_; clear hK K; try simp only [Value.cells] at H) | ((refine wpList_on (o := ⟨_, .load 34 _, _, _, _, _⟩) rfl (fun K hK => ?_)); (try simp only [Act.put, List.setIfInBounds_toArray, List.set_cons_zero, List.set_cons_succ]); refine wp_load_one H 34 _ rfl rfl (by repeat (first | exact List.mem_cons_self | apply List.mem_cons_of_mem | apply List.mem_append_right)) (by kernel_rfl) rfl ?_; refine hK _ _ ?_; clear hK K))
  have CS := Lib.hid (fun (u : World) (H : Has w u [(g2, 44, row 25 fun _ => 0), (ga, 34, #[.slice (some ⟨gb, 0, none⟩) 15 cap])]) => sum_any gb cap b u ((Bytes.has HY.out H).less (by omega)) HB.out)
  refine wp_region_ordB [] [(1, 0)] (fun w' => Has w w' [(g2, 44, row 25 fun _ => 0), (ga, 34, #[.slice (some ⟨gb, 0, none⟩) 15 cap])]) [] [[0, 1, 3, 4, 5, 2, 6]] (by kernel_rfl) (by kernel_rfl) (by kernel_rfl) ?_; replace H := H.drew; generalize World.drew _ = u at *; simp only [List.forall_mem_cons, List.not_mem_nil, false_imp_iff, implies_true, and_true]; (repeat' refine And.intro ?_ ?_)
  have h14 : (14 : Int) ≤ (cap : Int) := by omega
  by_cases h5 : sumN b 14 % 256 = b 14
  · have HE := Lib.hid h5
    have h5' : ((sumN b 14 % 256 : Nat) : Int) = (b 14 : Int) := by omega
    repeat (first | (refine sq_load_one (v := .slice (some ⟨gb, 0, none⟩) 15 cap) (o := ⟨_, .load 34 _, _, _, _, _⟩) 34 _ rfl rfl rfl rfl rfl (H.sub (List.Sublist.refl _)) (by repeat (first | exact List.mem_cons_self | apply List.mem_cons_of_mem | apply List.mem_append_right)) (by kernel_rfl) rfl ?_; simp only [Act.put, List.setIfInBounds_toArray, List.set_cons_zero, List.set_cons_succ]) | (refine sq_load_cell (o := ⟨_, .load 5 _, _, _, _, _⟩) 5 _ rfl rfl rfl rfl rfl (H.sub (List.Sublist.refl _)) (by kernel_rfl) (HY.out 14 (by omega)) ?_; simp only [Act.put, List.setIfInBounds_toArray, List.set_cons_zero, List.set_cons_succ]) | (refine sq_keep (o := ⟨_, .call _, _, _, _, _⟩) rfl rfl rfl (fun K hK => ?_); go_simp; (go_at_call 43; (with_reducible refine (CS.out _ H).mono ?_); rintro e w1 ⟨rfl, rfl⟩); refine hK _ _ (H.sub (by repeat (first | exact List.Sublist.refl _ | exact List.nil_sublist _ | apply List.Sublist.cons_cons | apply List.Sublist.cons | refine List.Sublist.trans ?_ (List.sublist_append_right _ _)))) ?_; clear hK K; try simp only [Act.put, List.setIfInBounds_toArray, List.set_cons_zero, List.set_cons_succ]) | (refine sq_free (o := ⟨_, _, _, _, _, _⟩) (v := ?_) rfl rfl rfl ?_ ?_; rotate_left; (intro w'; go_simp; try with_reducible rfl); simp only [Act.put, List.setIfInBounds_toArray, List.set_cons_zero, List.set_cons_succ]))
    refine sq_nil ?_
    go_wp2_with (first | (refine wpList_on (o := ⟨some 4, .alloc 3, _, _, _, _⟩) rfl (fun K hK => ?_); refine wp_alloc H 3 rfl (z := (.int .i64 0)) (by kernel_rfl) ?_; clear H; intro u gi H; refine hK _ _ ?_; clear hK K; try simp only [Value.cells, List.cons_append, List.nil_append] at H) | ((refine wpList_on (o := ⟨_, .store 3 _ _, _, _, _, _⟩) rfl (fun K hK => ?_)); (try simp only [Act.put, List.setIfInBounds_toArray, List.set_cons_zero, List.set_cons_succ]); refine wp_store_one (l1 := []) H 3 _ _ rfl rfl rfl (by kernel_rfl) (by simp) (by rfl) ?_; clear H; intro u H; refine hK _ _ ?_; clear hK K; try simp only [Value.cells, List.cons_append, List.nil_append] at H) | ((refine wpList_on (o := ⟨some 6, .alloc 44, _, _, _, _⟩) rfl (fun K hK => ?_)); refine wp_alloc H 44 rfl (z := .agg (row 25 fun _ => 0)) (by kernel_rfl) ?_; clear H; intro u g6 H; refine hK _ _ ?_; clear hK K; try simp only [Value.cells] at H) | (go_at_call 45; (with_reducible refine (fields_any g6 _ (hT.has H)).mono ?_); rintro e u ⟨v, tl, rfl, RO, hb⟩; obtain ⟨gf, capf, cs, rfl, rfl, hcapf, hsz, hcs⟩ := RO.some_ (by omega); clear RO; replace H := H.join hb; clear hb; simp only [List.cons_append, List.nil_append] at H))
    have e0 : row 25 (fun _ => (0 : Int)) = row 25 (unpZ b 0) := row_congr fun i _ => by unfold unpZ; rw [if_neg (by omega)]
    clear hmf CS
    have HC := Lib.hid hcs
    clear hcs
    go_loopw [25] (fun c wr => ∃ k : Nat, k ≤ 25 ∧ c = .int .i64 k ∧ Has w wr [(gf, 98, cs), (g6, 44, row 25 (unpZ b k)), (gi, 3, #[.int .i64 (startF k : Nat)]), (g2, 44, row 25 fun _ => 0), (ga, 34, #[.slice (some ⟨gb, 0, none⟩) 15 cap])]) (fun c _ => 25 - (intOf c).toNat)
    case atStart => exact ⟨0, by omega, rfl, by rw [← e0]; exact H⟩
    clear H e0
    case round =>
      obtain ⟨k, hk, rfl, H⟩ := hrel
      by_cases hlt : k < 25
      · have hex := Lib.hid (extract3 (n := 0) HC.out hlt)
        have h3 : k * 3 + 3 ≤ cs.size := by omega
        have hbl := bits_le hlt
        have hsl := start_le hlt
        have cg := Lib.hid (fun (u : World) (x8 xf x6 x2 : Nat × TypeId × Array Value) (H : Has w u [x8, xf, x6, (gi, 3, #[.int .i64 (startF k : Nat)]), x2, (ga, 34, #[.slice (some ⟨gb, 0, none⟩) 15 cap])]) => show Calls Tryd.prog 44 #[.int .i64 (bitsF k : Nat), .pointer (some ⟨ga, 0, none⟩), .pointer (some ⟨gi, 0, none⟩)] u fun e w' => e = .returned (.int .i64 (unpF b k : Nat)) ∧
          Has w w' [x8, xf, x6, (gi, 3, #[.int .i64 (startF (k + 1) : Nat)]), x2, (ga, 34, #[.slice (some ⟨gb, 0, none⟩) 15 cap])] from by
            rw [start_next hlt]
            exact get_any b HB.out (bitsF k) (startF k) (by omega) (by omega) w u gb ga gi cap [x8, xf, x6] x2 HY.out H)
        go_wp2_with (first | ((refine wpList_on (o := ⟨_, .load 98 _, _, _, _, _⟩) rfl (fun K hK => ?_)); (try simp only [Act.put, List.setIfInBounds_toArray, List.set_cons_zero, List.set_cons_succ]); refine wp_load_part (n := 3) H 98 _ rfl rfl (by repeat (first | exact List.mem_cons_self | apply List.mem_cons_of_mem | apply List.mem_append_right)) (by kernel_rfl) h3 hex.out ?_; refine hK _ _ ?_; clear hK K) | (refine wpList_on (o := ⟨some 8, .alloc 98, _, _, _, _⟩) rfl (fun K hK => ?_); refine wp_alloc H 98 rfl (z := (.agg #[.pointer none, .int .i64 0, .int .i64 0])) (by kernel_rfl) ?_; clear H; intro u g8 H; refine hK _ _ ?_; clear hK K; try simp only [Value.cells, List.cons_append, List.nil_append] at H) | ((refine wpList_on (o := ⟨_, .store 98 _ _, _, _, _, _⟩) rfl (fun K hK => ?_)); (try simp only [Act.put, List.setIfInBounds_toArray, List.set_cons_zero, List.set_cons_succ]); refine wp_store_all (l1 := []) H 98 _ _ rfl rfl rfl (by kernel_rfl) rfl (by simp [Value.oneCell', fieldRow]) ?_; clear H; intro u H; refine hK _ _ ?_; clear hK K; try simp only [Value.cells, List.cons_append, List.nil_append] at H))
        refine wp_region_ordB [] [] (fun w' => Has w w' [(g8, 98, fieldRow g6 k)]) [] [[0, 1, 2, 3, 4, 5, 6, 7]] (by kernel_rfl) (by kernel_rfl) (by kernel_rfl) ?_; replace H := H.drew; generalize World.drew _ = u at *; simp only [List.forall_mem_cons, List.not_mem_nil, false_imp_iff, implies_true, and_true]; (repeat' refine And.intro ?_ ?_)
        repeat (first | (refine sq_load_one (v := .pointer (some ⟨g6, k, none⟩)) (o := ⟨_, .load 96 _, _, _, _, _⟩) 96 _ rfl rfl rfl rfl rfl (H.sub (by repeat (first | exact List.Sublist.refl _ | exact List.nil_sublist _ | apply List.Sublist.cons_cons | apply List.Sublist.cons | refine List.Sublist.trans ?_ (List.sublist_append_right _ _)))) (by repeat (first | exact List.mem_cons_self | apply List.mem_cons_of_mem | apply List.mem_append_right)) (by kernel_rfl) rfl ?_; simp only [Act.put, List.setIfInBounds_toArray, List.set_cons_zero, List.set_cons_succ]) | (refine sq_load_one (v := .int .i64 (bitsF k : Nat)) (o := ⟨_, .load 3 _, _, _, _, _⟩) 3 _ rfl rfl rfl rfl rfl (H.sub (by repeat (first | exact List.Sublist.refl _ | exact List.nil_sublist _ | apply List.Sublist.cons_cons | apply List.Sublist.cons | refine List.Sublist.trans ?_ (List.sublist_append_right _ _)))) (by repeat (first | exact List.mem_cons_self | apply List.mem_cons_of_mem | apply List.mem_append_right)) (by kernel_rfl) rfl ?_; simp only [Act.put, List.setIfInBounds_toArray, List.set_cons_zero, List.set_cons_succ]) | (refine sq_keep (o := ⟨_, .call _, _, _, _, _⟩) rfl rfl rfl (fun K hK => ?_); go_simp; (go_at_call 44; (with_reducible refine (cg.out _ _ _ _ _ H).mono ?_); rintro e w1 ⟨rfl, H2⟩; replace H := H2; clear H2); refine hK _ _ (H.sub (by repeat (first | exact List.Sublist.refl _ | exact List.nil_sublist _ | apply List.Sublist.cons_cons | apply List.Sublist.cons | refine List.Sublist.trans ?_ (List.sublist_append_right _ _)))) ?_; clear hK K; try simp only [Act.put, List.setIfInBounds_toArray, List.set_cons_zero, List.set_cons_succ]) | (refine sq_free (o := ⟨_, _, _, _, _, _⟩) (v := ?_) rfl rfl rfl ?_ ?_; rotate_left; (intro w'; go_simp; try with_reducible rfl); simp only [Act.put, List.setIfInBounds_toArray, List.set_cons_zero, List.set_cons_succ]))
        refine sq_eff (o := ⟨_, .store 3 _ _, _, _, _, _⟩) rfl rfl rfl (fun K hK => ?_)
        refine wp_store_row_ (l1 := [_, _]) (v := (unpF b k : Nat)) (i := k) H 3 _ _ rfl rfl rfl (by kernel_rfl) hlt ?_
        clear H
        intro u H
        refine hK _ _ ?_; clear hK K
        simp only [Act.put, List.setIfInBounds_toArray, List.set_cons_zero, List.set_cons_succ]
        simp only [List.cons_append, List.nil_append] at H
        refine sq_nil ?_
        go_wp2
        go_roundw
        case rel => exact ⟨k + 1, by omega, by go_num, by rw [unpZ_next b k]; exact H.tail⟩
        case measure => simp [intOf]; omega
      · obtain rfl : k = 25 := by omega
        rw [unpZ_all] at H
        have cg := Lib.hid (fun (i : Nat) (hi : i ≤ 5) (u : World) (xf x6 x2 : Nat × TypeId × Array Value) (H : Has w u [xf, x6, (gi, 3, #[.int .i64 (106 + i : Nat)]), x2, (ga, 34, #[.slice (some ⟨gb, 0, none⟩) 15 cap])]) => show Calls Tryd.prog 44 #[.int .i64 1, .pointer (some ⟨ga, 0, none⟩), .pointer (some ⟨gi, 0, none⟩)] u fun e w' => e = .returned (.int .i64 (bitB b (106 + i) : Nat)) ∧
          Has w w' [xf, x6, (gi, 3, #[.int .i64 (107 + i : Nat)]), x2, (ga, 34, #[.slice (some ⟨gb, 0, none⟩) 15 cap])] from by
            have h := get_any b HB.out 1 (106 + i) (by omega) (by omega) w u gb ga gi cap [xf, x6] x2 HY.out H
            rw [show valB (bitB b) (106 + i) 1 = bitB b (106 + i) by simp [valB], show 106 + i + 1 = 107 + i by omega] at h
            exact h)
        have ci := Lib.hid (cg.out 0 (by omega))
        go_wp2_with (first | (go_at_call 44; (with_reducible refine (ci.out _ _ _ _ H).mono ?_); rintro e w1 ⟨rfl, H2⟩; replace H := H2; clear H2))
        clear ci
        simp only [Nat.add_zero] at H
        have cl := Lib.hid (fun (i : Nat) (hi : i < 5) (u : World) (xf x6 x2 : Nat × TypeId × Array Value) (H : Has w u [xf, x6, (gi, 3, #[.int .i64 (107 + i : Nat)]), x2, (ga, 34, #[.slice (some ⟨gb, 0, none⟩) 15 cap])]) => show Calls Tryd.prog 44 #[.int .i64 1, .pointer (some ⟨ga, 0, none⟩), .pointer (some ⟨gi, 0, none⟩)] u fun e w' => e = .returned (.int .i64 (bitB b (107 + i) : Nat)) ∧
          Has w w' [xf, x6, (gi, 3, #[.int .i64 (107 + (i + 1) : Nat)]), x2, (ga, 34, #[.slice (some ⟨gb, 0, none⟩) 15 cap])] from by
            have h := cg.out (i + 1) (by omega) u xf x6 x2 (by rw [show 106 + (i + 1) = 107 + i by omega]; exact H)
            rw [show 106 + (i + 1) = 107 + i by omega] at h
            exact h)
        clear cg
        have hz0 : Hid (∀ j, j < 0 → bitB b (107 + j) = 0) := fun j hj => by omega
        go_loopw [] (fun wr => ∃ i : Nat, i ≤ 5 ∧ Hid (∀ j, j < i → bitB b (107 + j) = 0) ∧ Has w wr [(gf, 98, cs), (g6, 44, row 25 (packI (unpF b))), (gi, 3, #[.int .i64 (107 + i : Nat)]), (g2, 44, row 25 fun _ => 0), (ga, 34, #[.slice (some ⟨gb, 0, none⟩) 15 cap])]) (fun wr => 112 - (intOf ((wr.cell? ⟨gi, 0, none⟩).getD undef)).toNat)
        case atStart => exact ⟨0, by omega, hz0, H⟩
        clear H hz0
        case round =>
          obtain ⟨i, hi, HZ, H⟩ := hrel
          have hm0 := Lib.hid ((H.at_ (g := gi) (t := 3) (cs := #[.int .i64 (107 + i : Nat)]) (by repeat (first | exact List.mem_cons_self | apply List.mem_cons_of_mem | apply List.mem_append_right))).cell 0)
          by_cases hlt : i < 5
          · have hy := bitB_lt b (107 + i)
            have cj := Lib.hid (cl.out i hlt)
            generalize hyy : bitB b (107 + i) = y at *
            replace hyy := Lib.hid hyy
            have d0 : decide ((107 : Int) + (i : Int) < 112) = true := lt_yes (by omega)
            obtain rfl | rfl : y = 0 ∨ y = 1 := by omega
            · go_wp2_with (first | ((refine wpList_on (o := ⟨_, .load 3 _, _, _, _, _⟩) rfl (fun K hK => ?_)); (try simp only [Act.put, List.setIfInBounds_toArray, List.set_cons_zero, List.set_cons_succ]); refine wp_load_one H 3 _ rfl rfl (by repeat (first | exact List.mem_cons_self | apply List.mem_cons_of_mem | apply List.mem_append_right)) (by kernel_rfl) rfl ?_; refine hK _ _ ?_; clear hK K) | (go_at_call 44; (with_reducible refine (cj.out _ _ _ _ H).mono ?_); rintro e w1 ⟨rfl, H2⟩; replace H := H2; clear H2))
              have hm1 := (H.at_ (g := gi) (t := 3) (cs := #[.int .i64 (107 + (i + 1) : Nat)]) (by repeat (first | exact List.mem_cons_self | apply List.mem_cons_of_mem | apply List.mem_append_right))).cell 0
              refine ⟨⟨i + 1, by omega, fun j hj => ?_, H⟩, ?_⟩
              · by_cases e : j = i
                · subst e; exact hyy.out
                · exact HZ.out j (by omega)
              · rw [hm1, hm0.out]
                simp [intOf]
                omega
            · go_wp2_with (first | ((refine wpList_on (o := ⟨_, .load 3 _, _, _, _, _⟩) rfl (fun K hK => ?_)); (try simp only [Act.put, List.setIfInBounds_toArray, List.set_cons_zero, List.set_cons_succ]); refine wp_load_one H 3 _ rfl rfl (by repeat (first | exact List.mem_cons_self | apply List.mem_cons_of_mem | apply List.mem_append_right)) (by kernel_rfl) rfl ?_; refine hK _ _ ?_; clear hK K) | (go_at_call 44; (with_reducible refine (cj.out _ _ _ _ H).mono ?_); rintro e w1 ⟨rfl, H2⟩; replace H := H2; clear H2) | ((refine wpList_on (o := ⟨_, .store 44 _ _, _, _, _, _⟩) rfl (fun K hK => ?_)); refine wp_store_all (cs' := row 25 fun _ => 0) (l1 := [_, _, _]) H 44 _ _ rfl rfl rfl (by kernel_rfl) (by simp [row_size]) (row_one _ _) ?_; clear H; intro u H; refine hK _ _ ?_; clear hK K))
              have hE := unpE_rest HE.out (restZ_no hlt hyy.out)
              refine bodyPost_ret (results_has rfl _ H rfl (by repeat (first | exact List.mem_cons_self | apply List.mem_cons_of_mem | apply List.mem_append_right)) (by kernel_rfl)) rfl ⟨(by rw [unpR_zero hE (by omega), hE]; rfl), H.below⟩
          · obtain rfl : i = 5 := by omega
            have hz := restZ_yes HZ.out
            cases hg : goodB (packI (unpF b))
            · have hE := Lib.hid (unpE_good HE.out hz hg)
              go_wp2_with (first | ((refine wpList_on (o := ⟨_, .load 3 _, _, _, _, _⟩) rfl (fun K hK => ?_)); (try simp only [Act.put, List.setIfInBounds_toArray, List.set_cons_zero, List.set_cons_succ]); refine wp_load_one H 3 _ rfl rfl (by repeat (first | exact List.mem_cons_self | apply List.mem_cons_of_mem | apply List.mem_append_right)) (by kernel_rfl) rfl ?_; refine hK _ _ ?_; clear hK K) | ((refine wpList_on (o := ⟨_, .load 44 _, _, _, _, _⟩) rfl (fun K hK => ?_)); (try simp only [Act.put, List.setIfInBounds_toArray, List.set_cons_zero, List.set_cons_succ]); refine wp_load_all H 44 _ rfl rfl (by repeat (first | exact List.mem_cons_self | apply List.mem_cons_of_mem | apply List.mem_append_right)) (by kernel_rfl) ?_; refine hK _ _ ?_; clear hK K) | (go_at_call 46; (with_reducible refine (PkGood_any _ _ (hT.has H)).mono ?_); rintro e w1 ⟨rfl, hb⟩; replace H := H.callee hb; clear hb) | ((refine wpList_on (o := ⟨_, .store 44 _ _, _, _, _, _⟩) rfl (fun K hK => ?_)); refine wp_store_all (cs' := row 25 fun _ => 0) (l1 := [_, _, _]) H 44 _ _ rfl rfl rfl (by kernel_rfl) (by simp [row_size]) (row_one _ _) ?_; clear H; intro u H; refine hK _ _ ?_; clear hK K; simp only [List.cons_append, List.nil_append] at H))
              refine bodyPost_ret (results_has rfl _ H rfl (by repeat (first | exact List.mem_cons_self | apply List.mem_cons_of_mem | apply List.mem_append_right)) (by kernel_rfl)) rfl ⟨(by rw [unpR_zero hE.out (by omega), hE.out]; rfl), H.below⟩
            · have g0 := goodB_iff.1 hg
              have g1 := g0 0 (by omega)
              have g2' := g0 9 (by omega)
              have g3 := g0 17 (by omega)
              have cq := fun w' : World => Parity_any (packI (unpF b)) w' (by simp [mostF, mostL] at g1; omega) (by simp [mostF, mostL] at g2'; omega) (by simp [mostF, mostL] at g3; omega)
              have CQ := Lib.hid cq
              clear g0 g1 g2' g3 cq
              have h2 := parU_lt (packI (unpF b)) 3
              have h3 := bitB_lt b 106
              by_cases hp : bitB b 106 = parP (unpF b)
              · have hE := Lib.hid (unpE_yes HE.out hz hg hp)
                have d : (((bitB b 106 : Nat) : Int) == ((parU (packI (unpF b)) 3 : Nat) : Int)) = true := by rw [hp]; simp [parP]
                go_wp2_with (first | ((refine wpList_on (o := ⟨_, .load 3 _, _, _, _, _⟩) rfl (fun K hK => ?_)); (try simp only [Act.put, List.setIfInBounds_toArray, List.set_cons_zero, List.set_cons_succ]); refine wp_load_one H 3 _ rfl rfl (by repeat (first | exact List.mem_cons_self | apply List.mem_cons_of_mem | apply List.mem_append_right)) (by kernel_rfl) rfl ?_; refine hK _ _ ?_; clear hK K) | ((refine wpList_on (o := ⟨_, .load 44 _, _, _, _, _⟩) rfl (fun K hK => ?_)); (try simp only [Act.put, List.setIfInBounds_toArray, List.set_cons_zero, List.set_cons_succ]); refine wp_load_all H 44 _ rfl rfl (by repeat (first | exact List.mem_cons_self | apply List.mem_cons_of_mem | apply List.mem_append_right)) (by kernel_rfl) ?_; refine hK _ _ ?_; clear hK K) | (go_at_call 46; (with_reducible refine (PkGood_any _ _ (hT.has H)).mono ?_); rintro e w1 ⟨rfl, hb⟩; replace H := H.callee hb; clear hb) | (go_at_call 47; (with_reducible refine (CQ.out _).mono ?_); rintro e w1 ⟨rfl, hb⟩; replace H := H.callee hb; clear hb) | ((refine wpList_on (o := ⟨_, .store 44 _ _, _, _, _, _⟩) rfl (fun K hK => ?_)); refine wp_store_all (cs' := row 25 (packI (unpF b))) (l1 := [_, _, _]) H 44 _ _ rfl rfl rfl (by kernel_rfl) (by simp [row_size]) (row_one _ _) ?_; clear H; intro u H; refine hK _ _ ?_; clear hK K; simp only [List.cons_append, List.nil_append] at H))
                refine bodyPost_ret (results_has rfl _ H rfl (by repeat (first | exact List.mem_cons_self | apply List.mem_cons_of_mem | apply List.mem_append_right)) (by kernel_rfl)) rfl ⟨(by rw [unpR_yes hE.out, hE.out]; rfl), H.below⟩
              · have hE := Lib.hid (unpE_par HE.out hz hg hp)
                have hp' : ((bitB b 106 : Nat) : Int) ≠ ((parU (packI (unpF b)) 3 : Nat) : Int) := fun e => hp (by unfold parP; omega)
                have d : (((bitB b 106 : Nat) : Int) == ((parU (packI (unpF b)) 3 : Nat) : Int)) = false := beq_eq_false_iff_ne.2 hp'
                go_wp2_with (first | ((refine wpList_on (o := ⟨_, .load 3 _, _, _, _, _⟩) rfl (fun K hK => ?_)); (try simp only [Act.put, List.setIfInBounds_toArray, List.set_cons_zero, List.set_cons_succ]); refine wp_load_one H 3 _ rfl rfl (by repeat (first | exact List.mem_cons_self | apply List.mem_cons_of_mem | apply List.mem_append_right)) (by kernel_rfl) rfl ?_; refine hK _ _ ?_; clear hK K) | ((refine wpList_on (o := ⟨_, .load 44 _, _, _, _, _⟩) rfl (fun K hK => ?_)); (try simp only [Act.put, List.setIfInBounds_toArray, List.set_cons_zero, List.set_cons_succ]); refine wp_load_all H 44 _ rfl rfl (by repeat (first | exact List.mem_cons_self | apply List.mem_cons_of_mem | apply List.mem_append_right)) (by kernel_rfl) ?_; refine hK _ _ ?_; clear hK K) | (go_at_call 46; (with_reducible refine (PkGood_any _ _ (hT.has H)).mono ?_); rintro e w1 ⟨rfl, hb⟩; replace H := H.callee hb; clear hb) | (go_at_call 47; (with_reducible refine (CQ.out _).mono ?_); rintro e w1 ⟨rfl, hb⟩; replace H := H.callee hb; clear hb) | ((refine wpList_on (o := ⟨_, .store 44 _ _, _, _, _, _⟩) rfl (fun K hK => ?_)); refine wp_store_all (cs' := row 25 fun _ => 0) (l1 := [_, _, _]) H 44 _ _ rfl rfl rfl (by kernel_rfl) (by simp [row_size]) (row_one _ _) ?_; clear H; intro u H; refine hK _ _ ?_; clear hK K; simp only [List.cons_append, List.nil_append] at H))
                refine bodyPost_ret (results_has rfl _ H rfl (by repeat (first | exact List.mem_cons_self | apply List.mem_cons_of_mem | apply List.mem_append_right)) (by kernel_rfl)) rfl ⟨(by rw [unpR_zero hE.out (by omega), hE.out]; rfl), H.below⟩
  · have hE := Lib.hid (unpE_sum h5)
    have h5' : ((sumN b 14 % 256 : Nat) : Int) ≠ (b 14 : Int) := by omega
    have d : (((sumN b 14 % 256 : Nat) : Int) == (b 14 : Int)) = false := by simp; omega
    repeat (first | (refine sq_load_one (v := .slice (some ⟨gb, 0, none⟩) 15 cap) (o := ⟨_, .load 34 _, _, _, _, _⟩) 34 _ rfl rfl rfl rfl rfl (H.sub (List.Sublist.refl _)) (by repeat (first | exact List.mem_cons_self | apply List.mem_cons_of_mem | apply List.mem_append_right)) (by kernel_rfl) rfl ?_; simp only [Act.put, List.setIfInBounds_toArray, List.set_cons_zero, List.set_cons_succ]) | (refine sq_load_cell (o := ⟨_, .load 5 _, _, _, _, _⟩) 5 _ rfl rfl rfl rfl rfl (H.sub (List.Sublist.refl _)) (by kernel_rfl) (HY.out 14 (by omega)) ?_; simp only [Act.put, List.setIfInBounds_toArray, List.set_cons_zero, List.set_cons_succ]) | (refine sq_keep (o := ⟨_, .call _, _, _, _, _⟩) rfl rfl rfl (fun K hK => ?_); go_simp; (go_at_call 43; (with_reducible refine (CS.out _ H).mono ?_); rintro e w1 ⟨rfl, rfl⟩); refine hK _ _ (H.sub (by repeat (first | exact List.Sublist.refl _ | exact List.nil_sublist _ | apply List.Sublist.cons_cons | apply List.Sublist.cons | refine List.Sublist.trans ?_ (List.sublist_append_right _ _)))) ?_; clear hK K; try simp only [Act.put, List.setIfInBounds_toArray, List.set_cons_zero, List.set_cons_succ]) | (refine sq_free (o := ⟨_, _, _, _, _, _⟩) (v := ?_) rfl rfl rfl ?_ ?_; rotate_left; (intro w'; go_simp; try with_reducible rfl); simp only [Act.put, List.setIfInBounds_toArray, List.set_cons_zero, List.set_cons_succ]))
    refine sq_nil ?_
    go_wp2_with (first | ((refine wpList_on (o := ⟨_, .store 44 _ _, _, _, _, _⟩) rfl (fun K hK => ?_)); refine wp_store_all (cs' := row 25 fun _ => 0) (l1 := []) H 44 _ _ rfl rfl rfl (by kernel_rfl) (by simp [row_size]) (row_one _ _) ?_; clear H; intro u H; refine hK _ _ ?_; clear hK K; simp only [List.cons_append, List.nil_append] at H))
    refine bodyPost_ret (results_has rfl _ H rfl (by repeat (first | exact List.mem_cons_self | apply List.mem_cons_of_mem | apply List.mem_append_right)) (by kernel_rfl)) rfl ⟨(by rw [unpR_zero hE.out (by omega), hE.out]; rfl), H.below⟩
end Go.Proofs.YtcoicmbjoaonoaaDoor
/-
  Packing and unpacking, plain laws: what is packed is unpacked as it was; what is unpacked is packed so; one byte turned is refused. No statement is proved here.
-/
namespace Go.Proofs.YtcoicmbjoaonoaaDoor
set_option linter.unusedVariables false
set_option linter.unusedSimpArgs false
open Go.RowKit
set_option maxRecDepth 100000
theorem packB_lt (p : Nat → Nat) (i : Nat) : packB p (parP p) i < 256 := by
  unfold packB
  split
  · exact byteN_lt (bitP_lt (parP_lt p)) _ _
  · split <;> omega
theorem packB_low (p : Nat → Nat) {j : Nat} (h : j < 14) : packB p (parP p) j = byteN (bitP p (parP p)) 112 j := by unfold packB; rw [if_pos h]
theorem packB_sum (p : Nat → Nat) : sumN (packB p (parP p)) 14 % 256 = packB p (parP p) 14 := by
  rw [sumN_congr (c := byteN (bitP p (parP p)) 112) 14 (fun i hi => packB_low p hi)]
  unfold packB
  rw [if_neg (by omega), if_pos rfl]
theorem packB_bit (p : Nat → Nat) {i : Nat} (hi : i < 112) : bitB (packB p (parP p)) i = bitP p (parP p) i :=
  bits_of_byte (bitP_lt (parP_lt p)) (by rw [packB_low p (by omega), byteN_all (by omega)])
theorem packB_unp {p : Nat → Nat} (hp : ∀ j, j < 25 → p j ≤ mostF j) {j : Nat} (hj : j < 25) : unpF (packB p (parP p)) j = p j := by
  unfold unpF
  rw [valB_congr (C := bitP p (parP p)) _ (fun m hm => packB_bit p (by have := start_le hj; omega))]
  exact field_back hj (hp j hj)
theorem goodB_congr {q r : Nat → Int} (h : ∀ j, j < 25 → q j = r j) : goodB q = goodB r := by
  cases e : goodB r
  · cases e2 : goodB q
    · rfl
    · rw [goodB_iff] at e2
      have : goodB r = true := goodB_iff.2 fun j hj => by rw [← h j hj]; exact e2 j hj
      rw [e] at this; cases this
  · rw [goodB_iff] at e ⊢
    exact fun j hj => by rw [h j hj]; exact e j hj
theorem packI_congr {p r : Nat → Nat} (h : ∀ j, j < 25 → p j = r j) : ∀ j, j < 25 → packI p j = packI r j := fun j hj => by unfold packI; rw [h j hj]
theorem pack_code {p : Nat → Nat} (hp : ∀ j, j < 25 → p j ≤ mostF j) : unpE (packB p (parP p)) = 0 := by
  have h := fun j hj => packB_unp hp (j := j) hj
  refine unpE_yes (packB_sum p) (restZ_yes fun i hi => ?_) ?_ ?_
  · rw [packB_bit p (by omega)]
    unfold bitP
    rw [if_neg (by omega), if_neg (by omega)]
  · rw [goodB_congr (packI_congr h)]; exact packI_good hp
  · rw [packB_bit p (by omega), par_back]
    exact (parU_congr (packI_congr h) 3).symm
theorem pack_back {p : Nat → Nat} (hp : ∀ j, j < 25 → p j ≤ mostF j) : row 25 (unpR (packB p (parP p))) = row 25 (packI p) := by
  rw [unpR_yes (pack_code hp)]
  exact row_congr (packI_congr fun j hj => packB_unp hp hj)
/-- What is unpacked. -/
theorem unp_parts {b : Nat → Nat} (h : unpE b = 0) : sumN b 14 % 256 = b 14 ∧ restZ b = true ∧ goodB (packI (unpF b)) = true ∧ bitB b 106 = parP (unpF b) := by
  unfold unpE at h
  by_cases h1 : sumN b 14 % 256 = b 14
  · rw [if_pos h1] at h
    by_cases h2 : restZ b = true
    · rw [if_pos h2] at h
      by_cases h3 : goodB (packI (unpF b)) = true
      · rw [if_pos h3] at h
        by_cases h4 : bitB b 106 = parP (unpF b)
        · exact ⟨h1, h2, h3, h4⟩
        · rw [if_neg h4] at h; omega
      · rw [if_neg h3] at h; omega
    · rw [if_neg h2] at h; omega
  · rw [if_neg h1] at h; omega
theorem unp_good {b : Nat → Nat} (h : unpE b = 0) : ∀ j, j < 25 → unpF b j ≤ mostF j := fun j hj => by
  have := (goodB_iff.1 (unp_parts h).2.2.1 j hj).2
  unfold packI at this
  omega
theorem pack_only {b : Nat → Nat} (hb : ∀ i, b i < 256) (h : unpE b = 0) {j : Nat} (hj : j < 15) : packB (unpF b) (parP (unpF b)) j = b j := by
  obtain ⟨h1, h2, h3, h4⟩ := unp_parts h
  have hz : ∀ i, 107 ≤ i → i < 112 → bitB b i = 0 := fun i hi hi2 => by
    have := List.all_eq_true.1 h2 (i - 107) (List.mem_range.2 (by omega))
    rw [show 107 + (i - 107) = i by omega] at this
    simpa using this
  have hbit := bits_back (bitB_lt b) (unpF b) (fun j _ => rfl) hz
  rw [h4] at hbit
  have low : ∀ k, k < 14 → packB (unpF b) (parP (unpF b)) k = b k := fun k hk => by
    rw [packB_low _ hk, byteN_all (by omega), valB_congr (C := bitB b) 8 (fun m hm => hbit _ (by omega))]
    exact byte_of_bits (hb k)
  by_cases e : j = 14
  · subst e
    rw [← packB_sum, sumN_congr 14 low, h1]
  · exact low j (by omega)
theorem pack_turned (p : Nat → Nat) {k x : Nat} (hk : k < 15) (hx : x < 256) (hne : x ≠ packB p (parP p) k) : unpE (fun i => if i = k then x else packB p (parP p) i) = 5 := by
  refine unpE_sum ?_
  by_cases e : k = 14
  · subst e
    rw [if_pos rfl, sumN_congr (c := packB p (parP p)) 14 (fun i hi => by rw [if_neg (by omega)]), packB_sum]
    exact fun h => hne h.symm
  · rw [if_neg (by omega), ← packB_sum]
    exact sumN_turned (packB_lt p) hx hne 14 (by omega)
/-- A packet of the first kind. -/
def kindN (c : Nat) (j : Nat) : Nat := if j = 0 then c else 0
theorem kindN_le {c : Nat} (h : c ≤ 2) : ∀ j, j < 25 → kindN c j ≤ mostF j := fun j _ => by
  unfold kindN
  split
  · rename_i e; subst e; exact h
  · omega
theorem kind_64 : packB (kindN 1) (parP (kindN 1)) 0 = 64 := by
  rw [packB_low _ (by omega), byteN_all (by omega), valB_congr (C := bitP (kindN 1) 0) 8 (fun m hm => by unfold bitP; rw [if_pos (by omega), if_pos (by omega)])]
  decide
theorem kind_ok : goodB (packI (kindN 0)) = true := packI_good (kindN_le (by omega))
theorem kind_no : goodB (packI (kindN 3)) = false := goodB_no (k := 0) (by omega) (by unfold packI kindN mostF mostL; simp)
theorem xor_ne (a : Nat) {m : Nat} (hm : 0 < m) : a ^^^ m ≠ a := fun h => by
  have h1 : a ^^^ (a ^^^ m) = a ^^^ a := by rw [h]
  rw [← Nat.xor_assoc, Nat.xor_self, Nat.zero_xor] at h1
  omega
end Go.Proofs.YtcoicmbjoaonoaaDoor
/-
  index walked. No statement is proved here.
-/
namespace Go.Proofs.YtcoicmbjoaonoaaDoor
set_option linter.unusedVariables false
set_option linter.unusedSimpArgs false
open Go.RowKit
set_option maxRecDepth 100000
def indexI (x : Nat → Int) (i : Nat) : Int := x i % 10
theorem indexI_bd (x : Nat → Int) (i : Nat) : 0 ≤ indexI x i ∧ indexI x i ≤ 9 := by unfold indexI; omega
set_option maxHeartbeats 1600000 in
theorem index_any (x : Nat → Int) (w : World) :
    Calls Tryd.prog 54 #[.agg (row 4 x)] w fun e w' => e = .returned (.agg (row 4 (indexI x))) ∧ Below w.heap.size w w' := by
  have H := Has.start w
  go_enter Tryd.func54, Tryd.ntmps54
  go_wp2_with (first | ((refine wpList_on (o := ⟨_, .box _ (.tmp 0), _, _, _, _⟩) rfl (fun K hK => ?_)); (try simp only [Act.put, List.setIfInBounds_toArray, List.set_cons_zero, List.set_cons_succ]); refine wp_box H _ (.tmp 0) rfl (v := .agg _) rfl ?_; clear H; intro u gp H; refine hK _ _ ?_; clear hK K; try simp only [Value.cells, List.cons_append, List.nil_append] at H) | (refine wpList_on (o := ⟨some 2, .alloc 39, _, _, _, _⟩) rfl (fun K hK => ?_); refine wp_alloc H 39 rfl (z := (.agg (row 4 fun _ => 0))) (by kernel_rfl) ?_; clear H; intro u gr H; refine hK _ _ ?_; clear hK K; try simp only [Value.cells, List.cons_append, List.nil_append] at H))
  go_loopw [4] (fun c wr => ∃ k : Nat, k ≤ 4 ∧ c = .int .i64 k ∧ Has w wr [(gr, 39, row 4 fun _ => 0), (gp, 39, row 4 fun i => if i < k then indexI x i else x i)]) (fun c _ => 4 - (intOf c).toNat)
  case atStart => exact ⟨0, by omega, rfl, H⟩
  clear H
  case round =>
    obtain ⟨k, hk, rfl, H⟩ := hrel
    by_cases hlt : k < 4
    · have HE : Hid ((fun i => if i < k + 1 then indexI x i else x i) = fun j => if j = k then indexI x k else if j < k then indexI x j else x j) := by
        show (fun i => if i < k + 1 then indexI x i else x i) = _
        funext i
        by_cases e : i = k
        · subst e; simp
        · have : i < k + 1 ↔ i < k := by omega
          simp [e, this]
      have c1 : ∀ w : World, Calls Tryd.prog 53 #[.int .i64 (x k), .int .i64 10] w fun e w' => e = .returned (.int .i64 (indexI x k)) ∧ w = w' := fun w => spot_any _ _ w (by omega) (by omega)
      have C1 := Lib.hid c1
      have e0 : (if k < k then indexI x k else x k) = x k := by simp
      clear c1
      go_wp2_with (first | ((refine wpList_on (o := ⟨_, .load 3 _, _, _, _, _⟩) rfl (fun K hK => ?_)); (try simp only [Act.put, List.setIfInBounds_toArray, List.set_cons_zero, List.set_cons_succ]); refine wp_load_one H 3 _ rfl rfl (by repeat (first | exact List.mem_cons_self | apply List.mem_cons_of_mem | apply List.mem_append_right)) (by kernel_rfl) (row_get _ (by omega)) ?_; refine hK _ _ ?_; clear hK K) | (go_at_call 53; (with_reducible refine (C1.out _).mono ?_); rintro e w1 ⟨rfl, rfl⟩) | ((refine wpList_on (o := ⟨_, .store 3 _ _, _, _, _, _⟩) rfl (fun K hK => ?_)); (try simp only [Act.put, List.setIfInBounds_toArray, List.set_cons_zero, List.set_cons_succ]); refine wp_store_row_ (l1 := [_]) H 3 _ _ rfl rfl rfl (by kernel_rfl) (by omega) ?_; clear H; intro u H; refine hK _ _ ?_; clear hK K; try simp only [Value.cells, List.cons_append, List.nil_append] at H))
      go_roundw
      case rel => exact ⟨k + 1, by omega, by go_num, by rw [HE.out]; simpa using H⟩
      case measure => simp [intOf]; omega
    · obtain rfl : k = 4 := by omega
      have HE : Hid (row 4 (fun i => if i < 4 then indexI x i else x i) = row 4 (indexI x)) := row_congr fun i hi => if_pos hi
      go_wp2_with (first | ((refine wpList_on (o := ⟨_, .load 39 _, _, _, _, _⟩) rfl (fun K hK => ?_)); (try simp only [Act.put, List.setIfInBounds_toArray, List.set_cons_zero, List.set_cons_succ]); refine wp_load_all H 39 _ rfl rfl (by repeat (first | exact List.mem_cons_self | apply List.mem_cons_of_mem | apply List.mem_append_right)) (by kernel_rfl) ?_; refine hK _ _ ?_; clear hK K) | ((refine wpList_on (o := ⟨_, .store 39 _ _, _, _, _, _⟩) rfl (fun K hK => ?_)); (try simp only [Act.put, List.setIfInBounds_toArray, List.set_cons_zero, List.set_cons_succ]); refine wp_store_all (l1 := []) H 39 _ _ rfl rfl rfl (by kernel_rfl) (by simp [row_size]) (row_one _ _) ?_; clear H; intro u H; refine hK _ _ ?_; clear hK K; try simp only [Value.cells, List.cons_append, List.nil_append] at H))
      refine bodyPost_ret (results_one rfl _ H rfl (by repeat (first | exact List.mem_cons_self | apply List.mem_cons_of_mem | apply List.mem_append_right)) (by kernel_rfl)) rfl ⟨by rw [HE.out], H.below⟩
end Go.Proofs.YtcoicmbjoaonoaaDoor
