/-
  Several texts of this claim, one behind the other: Search, AllWalk, FewWalk, SearchAll. No statement is proved here.
-/
import Derived.Test.YtcoicmbjoaonoaaDoorZaw
import Derived.Test.YtcoicmbjoaonoaaDoorZao
/-
  pulses: signs, and the inner function of search walked. No statement is proved here.
-/
namespace Go.Proofs.YtcoicmbjoaonoaaDoor
set_option linter.unusedVariables false
set_option linter.unusedSimpArgs false
open Go.RowKit
set_option maxRecDepth 100000
set_option maxHeartbeats 3200000 in
theorem signs_any (d x : Nat → Int) (P : Option Addr) (cap g o : Nat) (w : World) (hx : ∀ i, i < 4 → 0 ≤ x i ∧ x i ≤ 9) (hR : Reads w P 40 g o d) :
    Calls Tryd.prog 99 #[.slice P 40 cap, .agg (row 4 x)] w fun e w' => ∃ s : Int, 0 ≤ s ∧ s ≤ 15 ∧ e = .returned (.int .i64 s) ∧ Below w.heap.size w w' := by
  obtain rfl := hR.ptr (by omega)
  have H := Has.start w
  have HX := Lib.hid hx
  clear hx
  go_enter Tryd.func99, Tryd.ntmps99
  go_wp2_with (first | ((refine wpList_on (o := ⟨_, .box _ (.tmp 1), _, _, _, _⟩) rfl (fun K hK => ?_)); (try simp only [Act.put, List.setIfInBounds_toArray, List.set_cons_zero, List.set_cons_succ]); refine wp_box H _ (.tmp 1) rfl (v := .agg _) rfl ?_; clear H; intro u gx H; refine hK _ _ ?_; clear hK K; try simp only [Value.cells, List.cons_append, List.nil_append] at H) | ((refine wpList_on (o := ⟨_, .load 39 _, _, _, _, _⟩) rfl (fun K hK => ?_)); (try simp only [Act.put, List.setIfInBounds_toArray, List.set_cons_zero, List.set_cons_succ]); refine wp_load_all H 39 _ rfl rfl (by repeat (first | exact List.mem_cons_self | apply List.mem_cons_of_mem | apply List.mem_append_right)) (by kernel_rfl) ?_; refine hK _ _ ?_; clear hK K))
  go_loopw [5, 9] (fun s v wr => ∃ (i : Nat) (m : Nat), i ≤ 4 ∧ m < 2 ^ i ∧ v = .int .i64 i ∧ s = .int .i64 m ∧ Has w wr [(gx, 39, row 4 x)]) (fun _ v _ => 4 - (intOf v).toNat)
  case atStart => exact ⟨0, 0, by omega, by omega, rfl, rfl, H⟩
  clear H
  case round =>
    obtain ⟨i, m, hi, hm, rfl, rfl, H⟩ := hrel
    by_cases hlt : i < 4
    · have q1 : (i : Int) < 4 := by omega
      have hix := fun w => run_index_row (P := Tryd.prog) (n := 4) (i := i) Tryd.underlying39 Tryd.underlying3 (by kernel_rfl) (by kernel_rfl) x hlt w
      obtain ⟨x0, x1⟩ := HX.out i hlt
      obtain ⟨a0, a1⟩ := atN_lt HX.out i hlt
      have hm16 : m < 16 := Nat.lt_of_lt_of_le hm (show 2 ^ i ≤ 2 ^ 4 from Nat.pow_le_pow_right (by omega) (by omega))
      have hm2 : Hid (m < 2 ^ (i + 1)) := Nat.lt_of_lt_of_le hm (Nat.pow_le_pow_right (by omega) (by omega))
      have ho : Hid (m ||| 2 ^ i < 2 ^ (i + 1)) := Nat.or_lt_two_pow hm2.out (Nat.pow_lt_pow_right (by omega) (by omega))
      obtain ⟨p, hp⟩ : ∃ p, p = 2 ^ i := ⟨_, rfl⟩
      have hp8 : p ≤ 8 := by rw [hp]; exact (show 2 ^ i ≤ 2 ^ 3 from Nat.pow_le_pow_right (by omega) (by omega))
      rw [← hp] at ho
      have e1 : ((2 : Int) ^ i) = (p : Int) := by rw [hp]; simp
      have e2 := bits_or_nat m p (by omega) (by omega)
      have e3 : IntKind.u64.wrap (i : Int) = i := by rw [IntKind.wrap_u64]; omega
      have e4 : IntKind.i64.wrap (p : Int) = p := by rw [IntKind.wrap_i64]; omega
      clear hm hp
      generalize atN x i = A at *
      have q2 : (A : Int) < 40 := by omega
      have q3 : (0 : Int) ≤ (A : Int) := by omega
      have R1 := Reads.has hR H
      by_cases h0 : 0 ≤ d A
      · have d1 := le_yes h0
        go_wp2_with (first | ((refine wpList_on (o := ⟨_, .load 3 _, _, _, _, _⟩) rfl (fun K hK => ?_)); refine wp_load_num R1 3 _ rfl rfl (by kernel_rfl) a0 ?_; refine hK _ _ ?_; clear hK K))
        go_roundw
        case rel => exact ⟨i + 1, m ||| p, by omega, ho.out, by go_num, rfl, H⟩
        case measure => simp [intOf]; omega
      · have d1 := le_no (show d A < 0 by omega)
        go_wp2_with (first | ((refine wpList_on (o := ⟨_, .load 3 _, _, _, _, _⟩) rfl (fun K hK => ?_)); refine wp_load_num R1 3 _ rfl rfl (by kernel_rfl) a0 ?_; refine hK _ _ ?_; clear hK K))
        go_roundw
        case rel => exact ⟨i + 1, m, by omega, hm2.out, by go_num, rfl, H⟩
        case measure => simp [intOf]; omega
    · obtain rfl : i = 4 := by omega
      go_wp2
      go_ret
      exact ⟨m, by omega, by omega, rfl, H.below⟩
def sC (d x : Nat → Int) : Int := scC d x 4
def sE (d r x : Nat → Int) : Int := scE d (tabF r) x 4
theorem sC_bd {d x : Nat → Int} (hd : ∀ i, i < 40 → -1099511627776 ≤ d i ∧ d i ≤ 1099511627776) (hx : ∀ i, i < 4 → 0 ≤ x i ∧ x i ≤ 9) : sC d x ≤ 4398046511104 := by
  have := (scC_bd hd hx 4 (by omega)).2
  unfold sC
  omega
theorem sE_bd {d r x : Nat → Int} (hr : ∀ i, i < 40 → In16 (r i)) (hx : ∀ i, i < 4 → 0 ≤ x i ∧ x i ≤ 9) : sE d r x ≤ 687194767360 := by
  have := (scE_bd (d := d) (fun i hi => tabF_bd hr i hi) hx 4 (by omega)).2
  unfold sE
  omega
/-- The sums are small. -/
def StB (s : St) : Prop := s.bc ≤ 4398046511104 ∧ s.be ≤ 687194767360
theorem stB_0 : StB st0 := ⟨show (0 : Int) ≤ 4398046511104 by omega, show (0 : Int) ≤ 687194767360 by omega⟩
theorem stB_step {d r x : Nat → Int} {s : St} (hd : ∀ i, i < 40 → -1099511627776 ≤ d i ∧ d i ≤ 1099511627776) (hr : ∀ i, i < 40 → In16 (r i)) (hx : ∀ i, i < 4 → 0 ≤ x i ∧ x i ≤ 9) (h : StB s) : StB (bstep (sC d) (sE d r) s x) := by
  unfold bstep
  split
  · exact ⟨sC_bd hd hx, sE_bd hr hx⟩
  · exact h
theorem runS_bd {d r : Nat → Int} {xs : Nat → Nat → Int} (hd : ∀ i, i < 40 → -1099511627776 ≤ d i ∧ d i ≤ 1099511627776) (hr : ∀ i, i < 40 → In16 (r i)) : ∀ n, (∀ k, k < n → ∀ i, i < 4 → 0 ≤ xs k i ∧ xs k i ≤ 9) → StB (runS (sC d) (sE d r) xs n)
  | 0, _ => stB_0
  | n + 1, h => stB_step hd hr (h n (by omega)) (runS_bd hd hr n fun k hk => h k (by omega))
/-- What a search has made. -/
def SB (g15 g14 g13 g12 g11 gT g3 : Nat) (b6 : Nat × TypeId × Array Value) (v : Value) (r : Nat → Int) (s : St) : List (Nat × TypeId × Array Value) :=
  [(g15, 3, #[.int .i64 s.be]), (g14, 3, #[.int .i64 s.bc]), (g13, 4, #[.bool s.first]), (g12, 39, row 4 s.at_), (g11, 151, #[.pointer (some ⟨gT, 0, none⟩)]), (gT, 160, row 1600 (tabF r)), b6, (g3, 35, #[v])]
set_option maxHeartbeats 6400000 in
set_option maxRecDepth 100000 in
theorem best_any (d r x : Nat → Int) (P : Option Addr) (cap g o : Nat) (w0 u : World) (hd : ∀ i, i < 40 → -1099511627776 ≤ d i ∧ d i ≤ 1099511627776) (hr : ∀ i, i < 40 → In16 (r i)) (hx : ∀ i, i < 4 → 0 ≤ x i ∧ x i ≤ 9) (s : St) (hs : StB s) (hR : Reads w0 P 40 g o d)
    (g15 g14 g13 g12 g11 gT g3 : Nat) (b0 b6 : Nat × TypeId × Array Value) (H : Has w0 u (b0 :: SB g15 g14 g13 g12 g11 gT g3 b6 (.slice P 40 cap) r s)) :
    Calls Tryd.prog 107 #[.agg (row 4 x), .pointer (some ⟨g3, 0, none⟩), .pointer (some ⟨g11, 0, none⟩), .pointer (some ⟨g13, 0, none⟩), .pointer (some ⟨g14, 0, none⟩), .pointer (some ⟨g15, 0, none⟩), .pointer (some ⟨g12, 0, none⟩)] u fun e w' => e = .returned (.tuple #[]) ∧
      Has w0 w' (b0 :: SB g15 g14 g13 g12 g11 gT g3 b6 (.slice P 40 cap) r (bstep (sC d) (sE d r) s x)) := by
  have c2 := fun (u : World) (h1 : Reads u P 40 g o d) (h2 : Reads u (some ⟨gT, 0, none⟩) 1600 gT 0 (tabF r)) => score_any d (tabF r) x P cap g o gT u hd (fun i hi => tabF_bd hr i hi) hx h1 h2
  have cb : ∀ w : World, Calls Tryd.prog 95 #[.int .i64 (scC d x 4), .int .i64 (scE d (tabF r) x 4), .int .i64 s.bc, .int .i64 s.be] w fun e w' => e = .returned (.bool (betterB (sC d x) (sE d r x) s.bc s.be)) ∧ Below w.heap.size w w' := fun w => by
    have h1 := sC_bd hd hx
    have h2 := sE_bd (d := d) hr hx
    obtain ⟨h3, h4⟩ := hs
    exact Better_any (sC d x) (sE d r x) s.bc s.be w (by omega) (by omega) (by omega) (by omega)
  have C2 := Lib.hid c2
  have CB := Lib.hid cb
  clear c2 cb hd hr hx hs
  obtain ⟨first, bc, be, f⟩ := s
  unfold SB at H ⊢
  dsimp only at H CB
  cases first
  · cases hb : betterB (sC d x) (sE d r x) bc be
    · have hst : bstep (sC d) (sE d r) ⟨false, bc, be, f⟩ x = ⟨false, bc, be, f⟩ := if_neg (by simp [hb])
      rw [hst]
      rw [hb] at CB
      go_enter Tryd.func107, Tryd.ntmps107
      go_wp2_with (first | ((refine wpList_on (o := ⟨_, .box _ (.tmp 0), _, _, _, _⟩) rfl (fun K hK => ?_)); (try simp only [Act.put, List.setIfInBounds_toArray, List.set_cons_zero, List.set_cons_succ]); refine wp_box H _ (.tmp 0) rfl (v := .agg _) rfl ?_; clear H; intro u gx H; refine hK _ _ ?_; clear hK K; try simp only [Value.cells, List.cons_append, List.nil_append] at H) | ((refine wpList_on (o := ⟨_, .load 35 _, _, _, _, _⟩) rfl (fun K hK => ?_)); (try simp only [Act.put, List.setIfInBounds_toArray, List.set_cons_zero, List.set_cons_succ]); refine wp_load_one H 35 _ rfl rfl (by repeat (first | exact List.mem_cons_self | apply List.mem_cons_of_mem | apply List.mem_append_right)) (by kernel_rfl) rfl ?_; refine hK _ _ ?_; clear hK K) | ((refine wpList_on (o := ⟨_, .load 151 _, _, _, _, _⟩) rfl (fun K hK => ?_)); (try simp only [Act.put, List.setIfInBounds_toArray, List.set_cons_zero, List.set_cons_succ]); refine wp_load_one H 151 _ rfl rfl (by repeat (first | exact List.mem_cons_self | apply List.mem_cons_of_mem | apply List.mem_append_right)) (by kernel_rfl) rfl ?_; refine hK _ _ ?_; clear hK K) | ((refine wpList_on (o := ⟨_, .load 39 _, _, _, _, _⟩) rfl (fun K hK => ?_)); (try simp only [Act.put, List.setIfInBounds_toArray, List.set_cons_zero, List.set_cons_succ]); refine wp_load_all H 39 _ rfl rfl (by repeat (first | exact List.mem_cons_self | apply List.mem_cons_of_mem | apply List.mem_append_right)) (by kernel_rfl) ?_; refine hK _ _ ?_; clear hK K) | (go_at_call 108; (with_reducible refine (C2.out _ (Reads.has hR H) (Reads.ofRow H (by repeat (first | exact List.mem_cons_self | apply List.mem_cons_of_mem | apply List.mem_append_right)) (Nat.le_refl _))).mono ?_); rintro e w1 ⟨rfl, hb⟩; replace H := H.callee hb; clear hb) | ((refine wpList_on (o := ⟨_, .load 4 _, _, _, _, _⟩) rfl (fun K hK => ?_)); (try simp only [Act.put, List.setIfInBounds_toArray, List.set_cons_zero, List.set_cons_succ]); refine wp_load_one H 4 _ rfl rfl (by repeat (first | exact List.mem_cons_self | apply List.mem_cons_of_mem | apply List.mem_append_right)) (by kernel_rfl) rfl ?_; refine hK _ _ ?_; clear hK K) | ((refine wpList_on (o := ⟨_, .load 3 _, _, _, _, _⟩) rfl (fun K hK => ?_)); (try simp only [Act.put, List.setIfInBounds_toArray, List.set_cons_zero, List.set_cons_succ]); refine wp_load_one H 3 _ rfl rfl (by repeat (first | exact List.mem_cons_self | apply List.mem_cons_of_mem | apply List.mem_append_right)) (by kernel_rfl) rfl ?_; refine hK _ _ ?_; clear hK K) | (go_at_call 95; (with_reducible refine (CB.out _).mono ?_); rintro e w1 ⟨rfl, hb⟩; replace H := H.callee hb; clear hb))
      refine bodyPost_end (results_none rfl _ _ _) rfl ?_
      exact ⟨rfl, H.tail⟩
    · have hst : bstep (sC d) (sE d r) ⟨false, bc, be, f⟩ x = ⟨false, sC d x, sE d r x, x⟩ := if_pos (by simp [hb])
      rw [hst]
      rw [hb] at CB
      go_enter Tryd.func107, Tryd.ntmps107
      go_wp2_with (first | ((refine wpList_on (o := ⟨_, .box _ (.tmp 0), _, _, _, _⟩) rfl (fun K hK => ?_)); (try simp only [Act.put, List.setIfInBounds_toArray, List.set_cons_zero, List.set_cons_succ]); refine wp_box H _ (.tmp 0) rfl (v := .agg _) rfl ?_; clear H; intro u gx H; refine hK _ _ ?_; clear hK K; try simp only [Value.cells, List.cons_append, List.nil_append] at H) | ((refine wpList_on (o := ⟨_, .load 35 _, _, _, _, _⟩) rfl (fun K hK => ?_)); (try simp only [Act.put, List.setIfInBounds_toArray, List.set_cons_zero, List.set_cons_succ]); refine wp_load_one H 35 _ rfl rfl (by repeat (first | exact List.mem_cons_self | apply List.mem_cons_of_mem | apply List.mem_append_right)) (by kernel_rfl) rfl ?_; refine hK _ _ ?_; clear hK K) | ((refine wpList_on (o := ⟨_, .load 151 _, _, _, _, _⟩) rfl (fun K hK => ?_)); (try simp only [Act.put, List.setIfInBounds_toArray, List.set_cons_zero, List.set_cons_succ]); refine wp_load_one H 151 _ rfl rfl (by repeat (first | exact List.mem_cons_self | apply List.mem_cons_of_mem | apply List.mem_append_right)) (by kernel_rfl) rfl ?_; refine hK _ _ ?_; clear hK K) | ((refine wpList_on (o := ⟨_, .load 39 _, _, _, _, _⟩) rfl (fun K hK => ?_)); (try simp only [Act.put, List.setIfInBounds_toArray, List.set_cons_zero, List.set_cons_succ]); refine wp_load_all H 39 _ rfl rfl (by repeat (first | exact List.mem_cons_self | apply List.mem_cons_of_mem | apply List.mem_append_right)) (by kernel_rfl) ?_; refine hK _ _ ?_; clear hK K) | (go_at_call 108; (with_reducible refine (C2.out _ (Reads.has hR H) (Reads.ofRow H (by repeat (first | exact List.mem_cons_self | apply List.mem_cons_of_mem | apply List.mem_append_right)) (Nat.le_refl _))).mono ?_); rintro e w1 ⟨rfl, hb⟩; replace H := H.callee hb; clear hb) | ((refine wpList_on (o := ⟨_, .load 4 _, _, _, _, _⟩) rfl (fun K hK => ?_)); (try simp only [Act.put, List.setIfInBounds_toArray, List.set_cons_zero, List.set_cons_succ]); refine wp_load_one H 4 _ rfl rfl (by repeat (first | exact List.mem_cons_self | apply List.mem_cons_of_mem | apply List.mem_append_right)) (by kernel_rfl) rfl ?_; refine hK _ _ ?_; clear hK K) | ((refine wpList_on (o := ⟨_, .load 3 _, _, _, _, _⟩) rfl (fun K hK => ?_)); (try simp only [Act.put, List.setIfInBounds_toArray, List.set_cons_zero, List.set_cons_succ]); refine wp_load_one H 3 _ rfl rfl (by repeat (first | exact List.mem_cons_self | apply List.mem_cons_of_mem | apply List.mem_append_right)) (by kernel_rfl) rfl ?_; refine hK _ _ ?_; clear hK K) | (go_at_call 95; (with_reducible refine (CB.out _).mono ?_); rintro e w1 ⟨rfl, hb⟩; replace H := H.callee hb; clear hb) | ((refine wpList_on (o := ⟨_, .store 39 _ _, _, _, _, _⟩) rfl (fun K hK => ?_)); (try simp only [Act.put, List.setIfInBounds_toArray, List.set_cons_zero, List.set_cons_succ]); refine wp_store_all (l1 := [_, _, _, _, _]) H 39 _ _ rfl rfl rfl (by kernel_rfl) (by simp [row_size]) (row_one _ _) ?_; clear H; intro u H; refine hK _ _ ?_; clear hK K; try simp only [Value.cells, List.cons_append, List.nil_append] at H) | ((refine wpList_on (o := ⟨_, .store 3 _ _, _, _, _, _⟩) rfl (fun K hK => ?_)); (try simp only [Act.put, List.setIfInBounds_toArray, List.set_cons_zero, List.set_cons_succ]); refine wp_store_one (l1 := [_, _, _]) H 3 _ _ rfl rfl rfl (by kernel_rfl) (by simp) (by rfl) ?_; clear H; intro u H; refine hK _ _ ?_; clear hK K; try simp only [Value.cells, List.cons_append, List.nil_append] at H) | ((refine wpList_on (o := ⟨_, .store 3 _ _, _, _, _, _⟩) rfl (fun K hK => ?_)); (try simp only [Act.put, List.setIfInBounds_toArray, List.set_cons_zero, List.set_cons_succ]); refine wp_store_one (l1 := [_, _]) H 3 _ _ rfl rfl rfl (by kernel_rfl) (by simp) (by rfl) ?_; clear H; intro u H; refine hK _ _ ?_; clear hK K; try simp only [Value.cells, List.cons_append, List.nil_append] at H) | ((refine wpList_on (o := ⟨_, .store 4 _ _, _, _, _, _⟩) rfl (fun K hK => ?_)); (try simp only [Act.put, List.setIfInBounds_toArray, List.set_cons_zero, List.set_cons_succ]); refine wp_store_one (l1 := [_, _, _, _]) H 4 _ _ rfl rfl rfl (by kernel_rfl) (by simp) (by rfl) ?_; clear H; intro u H; refine hK _ _ ?_; clear hK K; try simp only [Value.cells, List.cons_append, List.nil_append] at H))
      refine bodyPost_end (results_none rfl _ _ _) rfl ?_
      exact ⟨rfl, H.tail⟩
  · have hst : bstep (sC d) (sE d r) ⟨true, bc, be, f⟩ x = ⟨false, sC d x, sE d r x, x⟩ := if_pos (by simp)
    rw [hst]
    go_enter Tryd.func107, Tryd.ntmps107
    go_wp2_with (first | ((refine wpList_on (o := ⟨_, .box _ (.tmp 0), _, _, _, _⟩) rfl (fun K hK => ?_)); (try simp only [Act.put, List.setIfInBounds_toArray, List.set_cons_zero, List.set_cons_succ]); refine wp_box H _ (.tmp 0) rfl (v := .agg _) rfl ?_; clear H; intro u gx H; refine hK _ _ ?_; clear hK K; try simp only [Value.cells, List.cons_append, List.nil_append] at H) | ((refine wpList_on (o := ⟨_, .load 35 _, _, _, _, _⟩) rfl (fun K hK => ?_)); (try simp only [Act.put, List.setIfInBounds_toArray, List.set_cons_zero, List.set_cons_succ]); refine wp_load_one H 35 _ rfl rfl (by repeat (first | exact List.mem_cons_self | apply List.mem_cons_of_mem | apply List.mem_append_right)) (by kernel_rfl) rfl ?_; refine hK _ _ ?_; clear hK K) | ((refine wpList_on (o := ⟨_, .load 151 _, _, _, _, _⟩) rfl (fun K hK => ?_)); (try simp only [Act.put, List.setIfInBounds_toArray, List.set_cons_zero, List.set_cons_succ]); refine wp_load_one H 151 _ rfl rfl (by repeat (first | exact List.mem_cons_self | apply List.mem_cons_of_mem | apply List.mem_append_right)) (by kernel_rfl) rfl ?_; refine hK _ _ ?_; clear hK K) | ((refine wpList_on (o := ⟨_, .load 39 _, _, _, _, _⟩) rfl (fun K hK => ?_)); (try simp only [Act.put, List.setIfInBounds_toArray, List.set_cons_zero, List.set_cons_succ]); refine wp_load_all H 39 _ rfl rfl (by repeat (first | exact List.mem_cons_self | apply List.mem_cons_of_mem | apply List.mem_append_right)) (by kernel_rfl) ?_; refine hK _ _ ?_; clear hK K) | (go_at_call 108; (with_reducible refine (C2.out _ (Reads.has hR H) (Reads.ofRow H (by repeat (first | exact List.mem_cons_self | apply List.mem_cons_of_mem | apply List.mem_append_right)) (Nat.le_refl _))).mono ?_); rintro e w1 ⟨rfl, hb⟩; replace H := H.callee hb; clear hb) | ((refine wpList_on (o := ⟨_, .load 4 _, _, _, _, _⟩) rfl (fun K hK => ?_)); (try simp only [Act.put, List.setIfInBounds_toArray, List.set_cons_zero, List.set_cons_succ]); refine wp_load_one H 4 _ rfl rfl (by repeat (first | exact List.mem_cons_self | apply List.mem_cons_of_mem | apply List.mem_append_right)) (by kernel_rfl) rfl ?_; refine hK _ _ ?_; clear hK K) | ((refine wpList_on (o := ⟨_, .load 3 _, _, _, _, _⟩) rfl (fun K hK => ?_)); (try simp only [Act.put, List.setIfInBounds_toArray, List.set_cons_zero, List.set_cons_succ]); refine wp_load_one H 3 _ rfl rfl (by repeat (first | exact List.mem_cons_self | apply List.mem_cons_of_mem | apply List.mem_append_right)) (by kernel_rfl) rfl ?_; refine hK _ _ ?_; clear hK K) | (go_at_call 95; (with_reducible refine (CB.out _).mono ?_); rintro e w1 ⟨rfl, hb⟩; replace H := H.callee hb; clear hb) | ((refine wpList_on (o := ⟨_, .store 39 _ _, _, _, _, _⟩) rfl (fun K hK => ?_)); (try simp only [Act.put, List.setIfInBounds_toArray, List.set_cons_zero, List.set_cons_succ]); refine wp_store_all (l1 := [_, _, _, _, _]) H 39 _ _ rfl rfl rfl (by kernel_rfl) (by simp [row_size]) (row_one _ _) ?_; clear H; intro u H; refine hK _ _ ?_; clear hK K; try simp only [Value.cells, List.cons_append, List.nil_append] at H) | ((refine wpList_on (o := ⟨_, .store 3 _ _, _, _, _, _⟩) rfl (fun K hK => ?_)); (try simp only [Act.put, List.setIfInBounds_toArray, List.set_cons_zero, List.set_cons_succ]); refine wp_store_one (l1 := [_, _, _]) H 3 _ _ rfl rfl rfl (by kernel_rfl) (by simp) (by rfl) ?_; clear H; intro u H; refine hK _ _ ?_; clear hK K; try simp only [Value.cells, List.cons_append, List.nil_append] at H) | ((refine wpList_on (o := ⟨_, .store 3 _ _, _, _, _, _⟩) rfl (fun K hK => ?_)); (try simp only [Act.put, List.setIfInBounds_toArray, List.set_cons_zero, List.set_cons_succ]); refine wp_store_one (l1 := [_, _]) H 3 _ _ rfl rfl rfl (by kernel_rfl) (by simp) (by rfl) ?_; clear H; intro u H; refine hK _ _ ?_; clear hK K; try simp only [Value.cells, List.cons_append, List.nil_append] at H) | ((refine wpList_on (o := ⟨_, .store 4 _ _, _, _, _, _⟩) rfl (fun K hK => ?_)); (try simp only [Act.put, List.setIfInBounds_toArray, List.set_cons_zero, List.set_cons_succ]); refine wp_store_one (l1 := [_, _, _, _]) H 4 _ _ rfl rfl rfl (by kernel_rfl) (by simp) (by rfl) ?_; clear H; intro u H; refine hK _ _ ?_; clear hK K; try simp only [Value.cells, List.cons_append, List.nil_append] at H))
    refine bodyPost_end (results_none rfl _ _ _) rfl ?_
    exact ⟨rfl, H.tail⟩
end Go.Proofs.YtcoicmbjoaonoaaDoor
/-
  pulses: All's and Few's inner functions walked. No statement is proved here.
-/
namespace Go.Proofs.YtcoicmbjoaonoaaDoor
set_option linter.unusedVariables false
set_option linter.unusedSimpArgs false
open Go.RowKit
set_option maxRecDepth 100000
theorem wp_load_all_old {P : Program} {o : Oper} {a : Act} {K : Act → World → Prop} {Q : Exit → Act → World → Prop} {w0 u : World} {bs : List (Nat × TypeId × Array Value)} {g : Nat} {t : TypeId} {cs : Array Value} (H : Has w0 u bs) (hA : At w0 g t cs) (ty : TypeId) (x : Operand) (ho : o.op = .load ty x) (hx : a.eval x = .pointer (some ⟨g, 0, none⟩)) (ha : aggOf P ty cs.size = true)
    (h : K (a.put o.dst (.agg cs)) u) : o.wp P a u K Q := by
  obtain ⟨d, h1, h2, h3⟩ := aggOf_parts ha
  exact wp_load_row ty x ho g hx t cs (0, 0) d (hA.below H.below hA.lt) h1 (by cases d <;> simp_all) h3 h
end Go.Proofs.YtcoicmbjoaonoaaDoor
/-
  pulses: Few's inner function walked. No statement is proved here.
-/
namespace Go.Proofs.YtcoicmbjoaonoaaDoor
set_option linter.unusedVariables false
set_option linter.unusedSimpArgs false
open Go.RowKit
set_option maxRecDepth 100000
theorem onT_next (now : Nat → Int) (t k : Nat) : row 4 (onT now t (k + 1)) = row 4 fun j => if j = t then ((k + 1 : Nat) : Int) else onT now t k j := row_congr fun i _ => by
  unfold onT
  by_cases e : i = t
  · rw [if_pos e, if_pos e]
  · rw [if_neg e, if_neg e, if_neg e]
theorem onT_first (now : Nat → Int) (t : Nat) : (row 4 fun j => if j = t then (0 : Int) else now j) = row 4 (onT now t 0) := rfl
theorem onT_at (now : Nat → Int) (t k : Nat) : onT now t k t = k := if_pos rfl
set_option maxHeartbeats 3200000 in
set_option maxRecDepth 100000 in
theorem fewWalk_any (d r : Nat → Int) (P : Option Addr) (cap g o : Nat) (w0 u : World) (hd : ∀ i, i < 40 → -1099511627776 ≤ d i ∧ d i ≤ 1099511627776) (hr : ∀ i, i < 40 → In16 (r i)) (hR : Reads w0 P 40 g o d) (now : Nat → Int) (t g7 g8 : Nat) (hnow : ∀ i, i < 4 → 0 ≤ now i ∧ now i ≤ 9) (ht : t < 4) (hA : At w0 g7 39 (row 4 now)) (hB : At w0 g8 3 #[.int .i64 (t : Nat)]) (g15 g14 g13 g12 g11 gT g3 : Nat) (b6 : Nat × TypeId × Array Value) (H : Has w0 u (SB g15 g14 g13 g12 g11 gT g3 b6 (.slice P 40 cap) r st0)) :
    Calls Tryd.prog 98 #[(.func (.func 107) #[] #[.pointer (some ⟨g3, 0, none⟩), .pointer (some ⟨g11, 0, none⟩), .pointer (some ⟨g13, 0, none⟩), .pointer (some ⟨g14, 0, none⟩), .pointer (some ⟨g15, 0, none⟩), .pointer (some ⟨g12, 0, none⟩)]), .pointer (some ⟨g7, 0, none⟩), .pointer (some ⟨g8, 0, none⟩)] u fun e w' => e = .returned (.tuple #[]) ∧ Has w0 w' (SB g15 g14 g13 g12 g11 gT g3 b6 (.slice P 40 cap) r (runS (sC d) (sE d r) (onT now t) 10)) := by
  have cb := Lib.hid (fun (n : Nat) (hn : n < 10) (u : World) (b0 : Nat × TypeId × Array Value) (H : Has w0 u (b0 :: SB g15 g14 g13 g12 g11 gT g3 b6 (.slice P 40 cap) r (runS (sC d) (sE d r) (onT now t) n))) => best_any d r (onT now t n) P cap g o w0 u hd hr (onT_in hnow t n hn) (runS (sC d) (sE d r) (onT now t) n) (runS_bd hd hr n fun k hk => onT_in hnow t k (by omega)) hR g15 g14 g13 g12 g11 gT g3 b0 b6 H)
  clear hd hr hR
  have HN : Hid (∀ n, bstep (sC d) (sE d r) (runS (sC d) (sE d r) (onT now t) n) (onT now t n) = runS (sC d) (sE d r) (onT now t) (n + 1)) := fun n => rfl
  have hc8 := hB.cell 0
  have H0 : Has w0 u (SB g15 g14 g13 g12 g11 gT g3 b6 (.slice P 40 cap) r (runS (sC d) (sE d r) (onT now t) 0)) := H
  clear H
  generalize hS : runS (sC d) (sE d r) (onT now t) = S at *
  clear hS
  have H := H0
  clear H0
  have C8 : Hid (w0.cell? ⟨g8, 0, none⟩ = some (.int .i64 (t : Nat))) := hc8
  have HA := Lib.hid hA
  have q1 : (t : Int) < 4 := by omega
  have q2 : (0 : Int) ≤ (t : Int) := by omega
  clear hc8 hA hB hnow
  go_enter Tryd.func98, Tryd.ntmps98
  go_wp2_with (first | ((refine wpList_on (o := ⟨_, .load 39 (.tmp 1), _, _, _, _⟩) rfl (fun K hK => ?_)); refine wp_load_all_old H HA.out 39 _ rfl rfl (by kernel_rfl) ?_; refine hK _ _ ?_; clear hK K) | (refine wpList_on (o := ⟨some 4, .alloc 39, _, _, _, _⟩) rfl (fun K hK => ?_); refine wp_alloc H 39 rfl (z := (.agg (row 4 fun _ => 0))) (by kernel_rfl) ?_; clear H; intro u g4 H; refine hK _ _ ?_; clear hK K; try simp only [Value.cells, List.cons_append, List.nil_append] at H) | ((refine wpList_on (o := ⟨_, .store 39 _ _, _, _, _, _⟩) rfl (fun K hK => ?_)); (try simp only [Act.put, List.setIfInBounds_toArray, List.set_cons_zero, List.set_cons_succ]); refine wp_store_all (l1 := []) H 39 _ _ rfl rfl rfl (by kernel_rfl) (by simp [row_size]) (row_one _ _) ?_; clear H; intro u H; refine hK _ _ ?_; clear hK K; try simp only [Value.cells, List.cons_append, List.nil_append] at H) | ((refine wpList_on (o := ⟨_, .load 3 (.tmp 2), _, _, _, _⟩) rfl (fun K hK => ?_)); refine wp_load_old H 3 _ rfl rfl (by kernel_rfl) C8.out ?_; refine hK _ _ ?_; clear hK K) | ((refine wpList_on (o := ⟨_, .store 3 _ _, _, _, _, _⟩) rfl (fun K hK => ?_)); (try simp only [Act.put, List.setIfInBounds_toArray, List.set_cons_zero, List.set_cons_succ]); refine wp_store_row_ (l1 := []) H 3 _ _ rfl rfl rfl (by kernel_rfl) ht ?_; clear H; intro u H; refine hK _ _ ?_; clear hK K; try simp only [Value.cells, List.cons_append, List.nil_append] at H))
  rw [onT_first] at H
  simp only [Act.put]
  go_loopw [] (fun wr => ∃ k : Nat, k ≤ 10 ∧ Has w0 wr ((g4, 39, row 4 (onT now t k)) :: SB g15 g14 g13 g12 g11 gT g3 b6 (.slice P 40 cap) r (S k))) (fun wr => 10 - (intOf ((wr.cell? ⟨g4, t, none⟩).getD undef)).toNat)
  case atStart => exact ⟨0, by omega, H⟩
  clear H
  case round =>
    obtain ⟨k, hk, H⟩ := hrel
    have hm0 : Hid (wr.cell? ⟨g4, t, none⟩ = some (.int .i64 (k : Nat))) := Lib.hid (by rw [(H.at_ (g := g4) (t := 39) (cs := row 4 (onT now t k)) List.mem_cons_self).cell t, row_get _ ht, onT_at])
    by_cases hlt : k < 10
    · have q3 : (k : Int) < 10 := by omega
      have hnx := Lib.hid (HN.out k)
      have cn := Lib.hid (cb.out k hlt)
      have hrow := Lib.hid (onT_next now t k)
      go_wp2_with (first | ((refine wpList_on (o := ⟨_, .load 39 _, _, _, _, _⟩) rfl (fun K hK => ?_)); (try simp only [Act.put, List.setIfInBounds_toArray, List.set_cons_zero, List.set_cons_succ]); refine wp_load_all H 39 _ rfl rfl (by repeat (first | exact List.mem_cons_self | apply List.mem_cons_of_mem | apply List.mem_append_right)) (by kernel_rfl) ?_; refine hK _ _ ?_; clear hK K) | (go_at_call 107; (with_reducible refine (cn.out _ _ H).mono ?_); rintro e w1 ⟨rfl, H2⟩; rw [hnx.out] at H2; replace H := H2; clear H2) | ((refine wpList_on (o := ⟨_, .load 3 (.tmp 2), _, _, _, _⟩) rfl (fun K hK => ?_)); refine wp_load_old H 3 _ rfl rfl (by kernel_rfl) C8.out ?_; refine hK _ _ ?_; clear hK K) | ((refine wpList_on (o := ⟨_, .load 3 _, _, _, _, _⟩) rfl (fun K hK => ?_)); refine wp_load_one (v := .int .i64 (k : Nat)) H 3 _ rfl rfl List.mem_cons_self (by kernel_rfl) (by rw [row_get _ ht, onT_at]) ?_; refine hK _ _ ?_; clear hK K) | ((refine wpList_on (o := ⟨_, .store 3 _ _, _, _, _, _⟩) rfl (fun K hK => ?_)); (try simp only [Act.put, List.setIfInBounds_toArray, List.set_cons_zero, List.set_cons_succ]); refine wp_store_row_ (l1 := []) H 3 _ _ rfl rfl rfl (by kernel_rfl) ht ?_; clear H; intro u H; refine hK _ _ ?_; clear hK K; try simp only [Value.cells, List.cons_append, List.nil_append] at H))
      simp only [Act.put]
      have hH : Has w0 u ((g4, 39, row 4 (onT now t (k + 1))) :: SB g15 g14 g13 g12 g11 gT g3 b6 (.slice P 40 cap) r (S (k + 1))) := by rw [hrow.out]; exact H
      have hm1 : u.cell? ⟨g4, t, none⟩ = some (.int .i64 ((k + 1 : Nat) : Int)) := by rw [(hH.at_ (g := g4) (t := 39) (cs := row 4 (onT now t (k + 1))) List.mem_cons_self).cell t, row_get _ ht, onT_at]
      go_roundw
      case rel => exact ⟨k + 1, by omega, hH⟩
      case measure =>
        rw [hm1, hm0.out]
        simp [intOf]
        omega
    · obtain rfl : k = 10 := by omega
      go_wp2_with (first | ((refine wpList_on (o := ⟨_, .load 3 (.tmp 2), _, _, _, _⟩) rfl (fun K hK => ?_)); refine wp_load_old H 3 _ rfl rfl (by kernel_rfl) C8.out ?_; refine hK _ _ ?_; clear hK K) | ((refine wpList_on (o := ⟨_, .load 3 _, _, _, _, _⟩) rfl (fun K hK => ?_)); refine wp_load_one (v := .int .i64 (10 : Nat)) H 3 _ rfl rfl List.mem_cons_self (by kernel_rfl) (by rw [row_get _ ht, onT_at]) ?_; refine hK _ _ ?_; clear hK K))
      refine bodyPost_end (results_none rfl _ _ _) rfl ?_
      exact ⟨rfl, H.tail⟩
end Go.Proofs.YtcoicmbjoaonoaaDoor
/-
  pulses.search walked, at All's and at Few's inner functions. No statement is proved here.
-/
namespace Go.Proofs.YtcoicmbjoaonoaaDoor
set_option linter.unusedVariables false
set_option linter.unusedSimpArgs false
open Go.RowKit
set_option maxRecDepth 100000

set_option maxHeartbeats 6400000 in
set_option maxRecDepth 100000 in
theorem search_few (d r : Nat → Int) {v v' : Value} {w : World} (hd : ∀ i, i < 40 → -1099511627776 ≤ d i ∧ d i ≤ 1099511627776) (hr : ∀ i, i < 40 → In16 (r i)) (L : Lies w v 40 d) (L' : Lies w v' 40 r) (now : Nat → Int) (t g7 g8 : Nat) (hnow : ∀ i, i < 4 → 0 ≤ now i ∧ now i ≤ 9) (ht : t < 4) (hA : At w g7 39 (row 4 now)) (hB : At w g8 3 #[.int .i64 (t : Nat)]) :
    Calls Tryd.prog 97 #[v, v', .func (.func 98) #[] #[.pointer (some ⟨g7, 0, none⟩), .pointer (some ⟨g8, 0, none⟩)]] w fun e w' => ∃ s : Int, 0 ≤ s ∧ s ≤ 15 ∧ e = .returned (.tuple #[.agg (row 4 (runS (sC d) (sE d r) (onT now t) 10).at_), .int .i64 s, .int .i64 0]) ∧ Below w.heap.size w w' := by
  obtain ⟨P, cap, g, o, rfl, R⟩ := L
  have c1 := fun (u : World) (hb : Below w.heap.size w u) => energies_any r (w := u) hr (L'.below hb)
  obtain ⟨P', cap', g', o', rfl, R'⟩ := L'
  have H := Has.start w
  have hmf : ∀ (fn : Fn) (first cap : Array Value) (w : World), (Instr.makeFunc fn first cap).run Tryd.prog w = .ok (.func fn first cap) w := fun _ _ _ _ => rfl
  have C1 := Lib.hid c1
  have HV : Hid (∀ i, i < 4 → 0 ≤ (runS (sC d) (sE d r) (onT now t) 10).at_ i ∧ (runS (sC d) (sE d r) (onT now t) 10).at_ i ≤ 9) := by
    obtain ⟨⟨k, hk, e⟩, _⟩ := runS_best (sC d) (sE d r) ((onT now t)) (n := 10) (by omega)
    rw [e]
    exact fun i hi => onT_in hnow t k hk i hi
  have CW := Lib.hid (fun (u : World) (g15 g14 g13 g12 g11 gT g3 : Nat) (b6 : Nat × TypeId × Array Value) (H : Has w u (SB g15 g14 g13 g12 g11 gT g3 b6 (.slice P 40 cap) r st0)) => fewWalk_any d r P cap g o w u hd hr R now t g7 g8 hnow ht hA hB g15 g14 g13 g12 g11 gT g3 b6 H)
  have CS := Lib.hid (fun (u : World) (h : Reads u P 40 g o d) => signs_any d (runS (sC d) (sE d r) (onT now t) 10).at_ P cap g o u HV.out h)
  have HD := Lib.hid hd
  obtain rfl := R.ptr (by omega)
  clear hd hr c1 HV
  generalize runS (sC d) (sE d r) (onT now t) 10 = SN at *
  go_enter Tryd.func97, Tryd.ntmps97
  go_wp2_with (first | ((refine wpList_on (o := ⟨_, .box _ (.tmp 0), _, _, _, _⟩) rfl (fun K hK => ?_)); refine wp_box H _ (.tmp 0) rfl (v := .slice (some ⟨g, o, none⟩) 40 cap) rfl ?_; clear H; intro u g3 H; refine hK _ _ ?_; clear hK K; try simp only [Value.cells, List.cons_append, List.nil_append] at H) | (refine wpList_on (o := ⟨some 6, .alloc 39, _, _, _, _⟩) rfl (fun K hK => ?_); refine wp_alloc H 39 rfl (z := (.agg (row 4 fun _ => 0))) (by kernel_rfl) ?_; clear H; intro u g6 H; refine hK _ _ ?_; clear hK K; try simp only [Value.cells, List.cons_append, List.nil_append] at H) | ((refine wpList_on (o := ⟨_, .load 35 _, _, _, _, _⟩) rfl (fun K hK => ?_)); (try simp only [Act.put, List.setIfInBounds_toArray, List.set_cons_zero, List.set_cons_succ]); refine wp_load_one H 35 _ rfl rfl (by repeat (first | exact List.mem_cons_self | apply List.mem_cons_of_mem | apply List.mem_append_right)) (by kernel_rfl) rfl ?_; refine hK _ _ ?_; clear hK K))
  go_loopw [27] (fun c wr => ∃ k : Nat, k ≤ 40 ∧ c = .int .i64 k ∧ Has w wr [(g6, 39, row 4 fun _ => 0), (g3, 35, #[.slice (some ⟨g, o, none⟩) 40 cap])]) (fun c _ => 40 - (intOf c).toNat)
  case atStart => exact ⟨0, by omega, rfl, H⟩
  clear H
  case round =>
    obtain ⟨k, hk, rfl, H⟩ := hrel
    by_cases hlt : k < 40
    · have q1 : (k : Int) < 40 := by omega
      obtain ⟨d0, d1⟩ := HD.out k hlt
      have e1 := lt_no d0
      have e2 := lt_no d1
      have R1 := Reads.has R H
      go_wp2_with (first | ((refine wpList_on (o := ⟨_, .load 3 _, _, _, _, _⟩) rfl (fun K hK => ?_)); refine wp_load_num R1 3 _ rfl rfl (by kernel_rfl) hlt ?_; refine hK _ _ ?_; clear hK K))
      go_roundw
      case rel => exact ⟨k + 1, by omega, by go_num, H⟩
      case measure => simp [intOf]; omega
    · obtain rfl : k = 40 := by omega
      go_wp2_with (first | (go_at_call 98; (have H9 : Has w _ (SB g15 g14 g13 g12 g11 gT g3 (g6, 39, row 4 fun _ => 0) (.slice (some ⟨g, o, none⟩) 40 cap) r st0) := H); (with_reducible refine (CW.out _ g15 g14 g13 g12 g11 gT g3 _ H9).mono ?_); rintro e w1 ⟨rfl, H2⟩; replace H := H2; clear H2 H9) | ((refine wpList_on (o := ⟨_, .load 35 _, _, _, _, _⟩) rfl (fun K hK => ?_)); (try simp only [Act.put, List.setIfInBounds_toArray, List.set_cons_zero, List.set_cons_succ]); refine wp_load_one H 35 _ rfl rfl (by repeat (first | exact List.mem_cons_self | apply List.mem_cons_of_mem | apply List.mem_append_right)) (by kernel_rfl) rfl ?_; refine hK _ _ ?_; clear hK K) | (go_at_call 106; (with_reducible refine (C1.out _ H.below).mono ?_); rintro e w1 ⟨gT, rfl, hb⟩; replace H := H.join hb; clear hb; simp only [List.cons_append, List.nil_append] at H) | (refine wpList_on (o := ⟨some 11, .alloc 151, _, _, _, _⟩) rfl (fun K hK => ?_); refine wp_alloc H 151 rfl (z := (.pointer none)) (by kernel_rfl) ?_; clear H; intro u g11 H; refine hK _ _ ?_; clear hK K; try simp only [Value.cells, List.cons_append, List.nil_append] at H) | (refine wpList_on (o := ⟨some 12, .alloc 39, _, _, _, _⟩) rfl (fun K hK => ?_); refine wp_alloc H 39 rfl (z := (.agg (row 4 fun _ => 0))) (by kernel_rfl) ?_; clear H; intro u g12 H; refine hK _ _ ?_; clear hK K; try simp only [Value.cells, List.cons_append, List.nil_append] at H) | (refine wpList_on (o := ⟨some 13, .alloc 4, _, _, _, _⟩) rfl (fun K hK => ?_); refine wp_alloc H 4 rfl (z := (.bool false)) (by kernel_rfl) ?_; clear H; intro u g13 H; refine hK _ _ ?_; clear hK K; try simp only [Value.cells, List.cons_append, List.nil_append] at H) | (refine wpList_on (o := ⟨some 14, .alloc 3, _, _, _, _⟩) rfl (fun K hK => ?_); refine wp_alloc H 3 rfl (z := (.int .i64 0)) (by kernel_rfl) ?_; clear H; intro u g14 H; refine hK _ _ ?_; clear hK K; try simp only [Value.cells, List.cons_append, List.nil_append] at H) | (refine wpList_on (o := ⟨some 15, .alloc 3, _, _, _, _⟩) rfl (fun K hK => ?_); refine wp_alloc H 3 rfl (z := (.int .i64 0)) (by kernel_rfl) ?_; clear H; intro u g15 H; refine hK _ _ ?_; clear hK K; try simp only [Value.cells, List.cons_append, List.nil_append] at H) | ((refine wpList_on (o := ⟨_, .store 151 _ _, _, _, _, _⟩) rfl (fun K hK => ?_)); simp only [Act.put, List.setIfInBounds_toArray, List.set_cons_zero, List.set_cons_succ]; refine wp_store_one (l1 := []) (g := g11) (t := 151) (cs := #[.pointer none]) (v := .pointer (some ⟨gT, 0, none⟩)) (i := 0) H 151 _ _ rfl rfl rfl (by kernel_rfl) (by decide) rfl ?_; clear H; intro u H; refine hK _ _ ?_; clear hK K; simp only [List.cons_append, List.nil_append] at H) | ((refine wpList_on (o := ⟨_, .store 4 _ _, _, _, _, _⟩) rfl (fun K hK => ?_)); simp only [Act.put, List.setIfInBounds_toArray, List.set_cons_zero, List.set_cons_succ]; refine wp_store_one (l1 := [_, _]) (g := g13) (t := 4) (cs := #[.bool false]) (v := .bool true) (i := 0) H 4 _ _ rfl rfl rfl (by kernel_rfl) (by decide) rfl ?_; clear H; intro u H; refine hK _ _ ?_; clear hK K; simp only [List.cons_append, List.nil_append] at H) | ((refine wpList_on (o := ⟨_, .store 3 _ _, _, _, _, _⟩) rfl (fun K hK => ?_)); simp only [Act.put, List.setIfInBounds_toArray, List.set_cons_zero, List.set_cons_succ]; refine wp_store_one (l1 := [_]) (g := g14) (t := 3) (cs := #[.int .i64 0]) (v := .int .i64 0) (i := 0) H 3 _ _ rfl rfl rfl (by kernel_rfl) (by decide) rfl ?_; clear H; intro u H; refine hK _ _ ?_; clear hK K; simp only [List.cons_append, List.nil_append] at H) | ((refine wpList_on (o := ⟨_, .store 3 _ _, _, _, _, _⟩) rfl (fun K hK => ?_)); simp only [Act.put, List.setIfInBounds_toArray, List.set_cons_zero, List.set_cons_succ]; refine wp_store_one (l1 := []) (g := g15) (t := 3) (cs := #[.int .i64 0]) (v := .int .i64 0) (i := 0) H 3 _ _ rfl rfl rfl (by kernel_rfl) (by decide) rfl ?_; clear H; intro u H; refine hK _ _ ?_; clear hK K; simp only [List.cons_append, List.nil_append] at H))
      replace H := H.sub (bs' := [(g12, 39, row 4 SN.at_), (g6, 39, row 4 fun _ => 0), (g3, 35, #[.slice (some ⟨g, o, none⟩) 40 cap])]) (by unfold SB; repeat (first | exact List.Sublist.refl _ | apply List.Sublist.cons_cons | apply List.Sublist.cons))
      refine wp_region_ordB [] [] (fun w' => Has w w' [(g12, 39, row 4 SN.at_), (g6, 39, row 4 fun _ => 0), (g3, 35, #[.slice (some ⟨g, o, none⟩) 40 cap])]) [] [[0, 1, 2, 3, 4, 5, 6]] (by kernel_rfl) (by kernel_rfl) (by kernel_rfl) ?_; replace H := H.drew; generalize World.drew _ = u at *; simp only [List.forall_mem_cons, List.not_mem_nil, false_imp_iff, implies_true, and_true]; (repeat' refine And.intro ?_ ?_)
      repeat (first | (refine sq_load_all (o := ⟨_, .load 39 _, _, _, _, _⟩) 39 _ rfl rfl rfl rfl rfl (H.sub (by repeat (first | exact List.Sublist.refl _ | exact List.nil_sublist _ | apply List.Sublist.cons_cons | apply List.Sublist.cons | refine List.Sublist.trans ?_ (List.sublist_append_right _ _)))) (by repeat (first | exact List.mem_cons_self | apply List.mem_cons_of_mem | apply List.mem_append_right)) (by kernel_rfl) ?_; simp only [Act.put, List.setIfInBounds_toArray, List.set_cons_zero, List.set_cons_succ]) | (refine sq_load_one (v := .slice (some ⟨g, o, none⟩) 40 cap) (o := ⟨_, .load 35 _, _, _, _, _⟩) 35 _ rfl rfl rfl rfl rfl (H.sub (by repeat (first | exact List.Sublist.refl _ | exact List.nil_sublist _ | apply List.Sublist.cons_cons | apply List.Sublist.cons | refine List.Sublist.trans ?_ (List.sublist_append_right _ _)))) (by repeat (first | exact List.mem_cons_self | apply List.mem_cons_of_mem | apply List.mem_append_right)) (by kernel_rfl) rfl ?_; simp only [Act.put, List.setIfInBounds_toArray, List.set_cons_zero, List.set_cons_succ]) | (refine sq_keep (o := ⟨_, .call _, _, _, _, _⟩) rfl rfl rfl (fun K hK => ?_); go_simp; (go_at_call 99; (with_reducible refine (CS.out _ (Reads.has R H)).mono ?_); rintro e w1 ⟨sg, s0, s1, rfl, hb⟩; replace H := H.callee hb; clear hb); refine hK _ _ (H.sub (by repeat (first | exact List.Sublist.refl _ | exact List.nil_sublist _ | apply List.Sublist.cons_cons | apply List.Sublist.cons | refine List.Sublist.trans ?_ (List.sublist_append_right _ _)))) ?_; clear hK K; try simp only [Act.put, List.setIfInBounds_toArray, List.set_cons_zero, List.set_cons_succ]) | (refine sq_eff (o := ⟨_, .store 39 _ _, _, _, _, _⟩) rfl rfl rfl (fun K hK => ?_); refine wp_store_all (l1 := [_]) H 39 _ _ rfl rfl rfl (by kernel_rfl) (by simp [row_size]) (row_one _ _) ?_; clear H; intro u H; (try simp only [Value.cells, List.cons_append, List.nil_append] at H); refine hK _ _ ?_; clear hK K; simp only [Act.put, List.setIfInBounds_toArray, List.set_cons_zero, List.set_cons_succ]) | (refine sq_free (o := ⟨_, _, _, _, _, _⟩) (v := ?_) rfl rfl rfl ?_ ?_; rotate_left; (intro w'; go_simp; try with_reducible rfl); simp only [Act.put, List.setIfInBounds_toArray, List.set_cons_zero, List.set_cons_succ]))
      refine sq_nil ?_
      go_wp2
      refine bodyPost_ret (results_has3 rfl _ H rfl (by repeat (first | exact List.mem_cons_self | apply List.mem_cons_of_mem | apply List.mem_append_right)) (by kernel_rfl)) rfl ⟨sg, s0, s1, rfl, H.below⟩
end Go.Proofs.YtcoicmbjoaonoaaDoor
