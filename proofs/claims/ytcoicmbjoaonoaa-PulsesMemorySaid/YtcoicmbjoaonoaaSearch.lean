/-
  pulses: signs, and the inner function of search walked. No statement is proved here.
-/
import Derived.Test.YtcoicmbjoaonoaaBestSt
import Derived.Test.YtcoicmbjoaonoaaBits
namespace Go.Proofs.Ytcoicmbjoaonoaa
open Go.RowKit
set_option maxHeartbeats 3200000 in
theorem signs_any (d x : Nat → Int) (P : Option Addr) (cap g o : Nat) (w : World) (hx : ∀ i, i < 4 → 0 ≤ x i ∧ x i ≤ 9) (hR : Reads w P 40 g o d) :
    Calls Try.prog 42 #[.slice P 40 cap, .agg (row 4 x)] w fun e w' => ∃ s : Int, 0 ≤ s ∧ s ≤ 15 ∧ e = .returned (.int .i64 s) ∧ Below w.heap.size w w' := by
  obtain rfl := hR.ptr (by omega)
  have H := Has.start w
  have HX := Lib.hid hx
  clear hx
  go_enter Try.func42, Try.ntmps42
  go_wp2_with (first | ((refine wpList_on (o := ⟨_, .box _ (.tmp 1), _, _, _, _⟩) rfl (fun K hK => ?_)); refine wp_box H _ (.tmp 1) rfl (v := .agg _) rfl ?_; clear H; intro u gx H; refine hK _ _ ?_; clear hK K; try simp only [Value.cells, List.cons_append, List.nil_append] at H) | ((refine wpList_on (o := ⟨_, .load 47 _, _, _, _, _⟩) rfl (fun K hK => ?_)); refine wp_load_all H 47 _ rfl rfl (by repeat (first | exact List.mem_cons_self | apply List.mem_cons_of_mem | apply List.mem_append_right)) (by kernel_rfl) ?_; refine hK _ _ ?_; clear hK K))
  go_loopw [5, 9] (fun s v wr => ∃ (i : Nat) (m : Nat), i ≤ 4 ∧ m < 2 ^ i ∧ v = .int .i64 i ∧ s = .int .i64 m ∧ Has w wr [(gx, 47, row 4 x)]) (fun _ v _ => 4 - (intOf v).toNat)
  case atStart => exact ⟨0, 0, by omega, by omega, rfl, rfl, H⟩
  clear H
  case round =>
    obtain ⟨i, m, hi, hm, rfl, rfl, H⟩ := hrel
    by_cases hlt : i < 4
    · have q1 : (i : Int) < 4 := by omega
      have hix := fun w => run_index_row (P := Try.prog) (n := 4) (i := i) Try.underlying47 Try.underlying3 (by kernel_rfl) (by kernel_rfl) x hlt w
      obtain ⟨x0, x1⟩ := HX.out i hlt
      obtain ⟨a0, a1⟩ := atN_lt HX.out i hlt
      have hm16 : m < 16 := Nat.lt_of_lt_of_le hm (show 2 ^ i ≤ 2 ^ 4 from Nat.pow_le_pow_right (by omega) (by omega))
      have hm2 : Hid (m < 2 ^ (i + 1)) := Nat.lt_of_lt_of_le hm (Nat.pow_le_pow_right (by omega) (by omega))
      have ho : Hid (m ||| 2 ^ i < 2 ^ (i + 1)) := Nat.or_lt_two_pow hm2.out (Nat.pow_lt_pow_right (by omega) (by omega))
      obtain ⟨p, hp⟩ : ∃ p, p = 2 ^ i := ⟨_, rfl⟩
      have hp8 : p ≤ 8 := by rw [hp]; exact (show 2 ^ i ≤ 2 ^ 3 from Nat.pow_le_pow_right (by omega) (by omega))
      rw [← hp] at ho
      have e1 : ((2 : Int) ^ i) = (p : Int) := by rw [hp]; simp
      have e2 := bits_or_nat m p (by omega) (by omega)
      have e3 : IntKind.u64.wrap (i : Int) = i := by rw [IntKind.wrap_u64]; omega
      have e4 : IntKind.i64.wrap (p : Int) = p := by rw [IntKind.wrap_i64]; omega
      clear hm hp
      generalize atN x i = A at *
      have q2 : (A : Int) < 40 := by omega
      have q3 : (0 : Int) ≤ (A : Int) := by omega
      have R1 := Reads.has hR H
      by_cases h0 : 0 ≤ d A
      · have d1 := le_yes h0
        go_wp2_with (first | ((refine wpList_on (o := ⟨_, .load 3 _, _, _, _, _⟩) rfl (fun K hK => ?_)); refine wp_load_num R1 3 _ rfl rfl (by kernel_rfl) a0 ?_; refine hK _ _ ?_; clear hK K))
        go_roundw
        case rel => exact ⟨i + 1, m ||| p, by omega, ho.out, by go_num, rfl, H⟩
        case measure => simp [intOf]; omega
      · have d1 := le_no (show d A < 0 by omega)
        go_wp2_with (first | ((refine wpList_on (o := ⟨_, .load 3 _, _, _, _, _⟩) rfl (fun K hK => ?_)); refine wp_load_num R1 3 _ rfl rfl (by kernel_rfl) a0 ?_; refine hK _ _ ?_; clear hK K))
        go_roundw
        case rel => exact ⟨i + 1, m, by omega, hm2.out, by go_num, rfl, H⟩
        case measure => simp [intOf]; omega
    · obtain rfl : i = 4 := by omega
      go_wp2
      go_ret
      exact ⟨m, by omega, by omega, rfl, H.below⟩
def sC (d x : Nat → Int) : Int := scC d x 4
def sE (d r x : Nat → Int) : Int := scE d (tabF r) x 4
theorem sC_bd {d x : Nat → Int} (hd : ∀ i, i < 40 → -1099511627776 ≤ d i ∧ d i ≤ 1099511627776) (hx : ∀ i, i < 4 → 0 ≤ x i ∧ x i ≤ 9) : sC d x ≤ 4398046511104 := by
  have := (scC_bd hd hx 4 (by omega)).2
  unfold sC
  omega
theorem sE_bd {d r x : Nat → Int} (hr : ∀ i, i < 40 → In16 (r i)) (hx : ∀ i, i < 4 → 0 ≤ x i ∧ x i ≤ 9) : sE d r x ≤ 687194767360 := by
  have := (scE_bd (d := d) (fun i hi => tabF_bd hr i hi) hx 4 (by omega)).2
  unfold sE
  omega
/-- The sums are small. -/
def StB (s : St) : Prop := s.bc ≤ 4398046511104 ∧ s.be ≤ 687194767360
theorem stB_0 : StB st0 := ⟨show (0 : Int) ≤ 4398046511104 by omega, show (0 : Int) ≤ 687194767360 by omega⟩
theorem stB_step {d r x : Nat → Int} {s : St} (hd : ∀ i, i < 40 → -1099511627776 ≤ d i ∧ d i ≤ 1099511627776) (hr : ∀ i, i < 40 → In16 (r i)) (hx : ∀ i, i < 4 → 0 ≤ x i ∧ x i ≤ 9) (h : StB s) : StB (bstep (sC d) (sE d r) s x) := by
  unfold bstep
  split
  · exact ⟨sC_bd hd hx, sE_bd hr hx⟩
  · exact h
theorem runS_bd {d r : Nat → Int} {xs : Nat → Nat → Int} (hd : ∀ i, i < 40 → -1099511627776 ≤ d i ∧ d i ≤ 1099511627776) (hr : ∀ i, i < 40 → In16 (r i)) : ∀ n, (∀ k, k < n → ∀ i, i < 4 → 0 ≤ xs k i ∧ xs k i ≤ 9) → StB (runS (sC d) (sE d r) xs n)
  | 0, _ => stB_0
  | n + 1, h => stB_step hd hr (h n (by omega)) (runS_bd hd hr n fun k hk => h k (by omega))
/-- What a search has made. -/
def SB (g15 g14 g13 g12 g11 gT g3 : Nat) (b6 : Nat × TypeId × Array Value) (v : Value) (r : Nat → Int) (s : St) : List (Nat × TypeId × Array Value) :=
  [(g15, 3, #[.int .i64 s.be]), (g14, 3, #[.int .i64 s.bc]), (g13, 4, #[.bool s.first]), (g12, 47, row 4 s.at_), (g11, 73, #[.pointer (some ⟨gT, 0, none⟩)]), (gT, 84, row 1600 (tabF r)), b6, (g3, 24, #[v])]
set_option maxHeartbeats 6400000 in
set_option maxRecDepth 100000 in
theorem best_any (d r x : Nat → Int) (P : Option Addr) (cap g o : Nat) (w0 u : World) (hd : ∀ i, i < 40 → -1099511627776 ≤ d i ∧ d i ≤ 1099511627776) (hr : ∀ i, i < 40 → In16 (r i)) (hx : ∀ i, i < 4 → 0 ≤ x i ∧ x i ≤ 9) (s : St) (hs : StB s) (hR : Reads w0 P 40 g o d)
    (g15 g14 g13 g12 g11 gT g3 : Nat) (b0 b6 : Nat × TypeId × Array Value) (H : Has w0 u (b0 :: SB g15 g14 g13 g12 g11 gT g3 b6 (.slice P 40 cap) r s)) :
    Calls Try.prog 50 #[.agg (row 4 x), .pointer (some ⟨g3, 0, none⟩), .pointer (some ⟨g11, 0, none⟩), .pointer (some ⟨g13, 0, none⟩), .pointer (some ⟨g14, 0, none⟩), .pointer (some ⟨g15, 0, none⟩), .pointer (some ⟨g12, 0, none⟩)] u fun e w' => e = .returned (.tuple #[]) ∧
      Has w0 w' (b0 :: SB g15 g14 g13 g12 g11 gT g3 b6 (.slice P 40 cap) r (bstep (sC d) (sE d r) s x)) := by
  have c2 := fun (u : World) (h1 : Reads u P 40 g o d) (h2 : Reads u (some ⟨gT, 0, none⟩) 1600 gT 0 (tabF r)) => score_any d (tabF r) x P cap g o gT u hd (fun i hi => tabF_bd hr i hi) hx h1 h2
  have cb : ∀ w : World, Calls Try.prog 37 #[.int .i64 (scC d x 4), .int .i64 (scE d (tabF r) x 4), .int .i64 s.bc, .int .i64 s.be] w fun e w' => e = .returned (.bool (betterB (sC d x) (sE d r x) s.bc s.be)) ∧ Below w.heap.size w w' := fun w => by
    have h1 := sC_bd hd hx
    have h2 := sE_bd (d := d) hr hx
    obtain ⟨h3, h4⟩ := hs
    exact Better_any (sC d x) (sE d r x) s.bc s.be w (by omega) (by omega) (by omega) (by omega)
  have C2 := Lib.hid c2
  have CB := Lib.hid cb
  clear c2 cb hd hr hx hs
  obtain ⟨first, bc, be, f⟩ := s
  unfold SB at H ⊢
  dsimp only at H CB
  cases first
  · cases hb : betterB (sC d x) (sE d r x) bc be
    · have hst : bstep (sC d) (sE d r) ⟨false, bc, be, f⟩ x = ⟨false, bc, be, f⟩ := if_neg (by simp [hb])
      rw [hst]
      rw [hb] at CB
      go_enter Try.func50, Try.ntmps50
      go_wp2_with (first | ((refine wpList_on (o := ⟨_, .box _ (.tmp 0), _, _, _, _⟩) rfl (fun K hK => ?_)); refine wp_box H _ (.tmp 0) rfl (v := .agg _) rfl ?_; clear H; intro u gx H; refine hK _ _ ?_; clear hK K; try simp only [Value.cells, List.cons_append, List.nil_append] at H) | ((refine wpList_on (o := ⟨_, .load 24 _, _, _, _, _⟩) rfl (fun K hK => ?_)); refine wp_load_one H 24 _ rfl rfl (by repeat (first | exact List.mem_cons_self | apply List.mem_cons_of_mem | apply List.mem_append_right)) (by kernel_rfl) rfl ?_; refine hK _ _ ?_; clear hK K) | ((refine wpList_on (o := ⟨_, .load 73 _, _, _, _, _⟩) rfl (fun K hK => ?_)); refine wp_load_one H 73 _ rfl rfl (by repeat (first | exact List.mem_cons_self | apply List.mem_cons_of_mem | apply List.mem_append_right)) (by kernel_rfl) rfl ?_; refine hK _ _ ?_; clear hK K) | ((refine wpList_on (o := ⟨_, .load 47 _, _, _, _, _⟩) rfl (fun K hK => ?_)); refine wp_load_all H 47 _ rfl rfl (by repeat (first | exact List.mem_cons_self | apply List.mem_cons_of_mem | apply List.mem_append_right)) (by kernel_rfl) ?_; refine hK _ _ ?_; clear hK K) | (go_at_call 43; (with_reducible refine (C2.out _ (Reads.has hR H) (Reads.ofRow H (by repeat (first | exact List.mem_cons_self | apply List.mem_cons_of_mem | apply List.mem_append_right)) (Nat.le_refl _))).mono ?_); rintro e w1 ⟨rfl, hb⟩; replace H := H.callee hb; clear hb) | ((refine wpList_on (o := ⟨_, .load 4 _, _, _, _, _⟩) rfl (fun K hK => ?_)); refine wp_load_one H 4 _ rfl rfl (by repeat (first | exact List.mem_cons_self | apply List.mem_cons_of_mem | apply List.mem_append_right)) (by kernel_rfl) rfl ?_; refine hK _ _ ?_; clear hK K) | ((refine wpList_on (o := ⟨_, .load 3 _, _, _, _, _⟩) rfl (fun K hK => ?_)); refine wp_load_one H 3 _ rfl rfl (by repeat (first | exact List.mem_cons_self | apply List.mem_cons_of_mem | apply List.mem_append_right)) (by kernel_rfl) rfl ?_; refine hK _ _ ?_; clear hK K) | (go_at_call 37; (with_reducible refine (CB.out _).mono ?_); rintro e w1 ⟨rfl, hb⟩; replace H := H.callee hb; clear hb))
      refine bodyPost_end (results_none rfl _ _ _) rfl ?_
      exact ⟨rfl, H.tail⟩
    · have hst : bstep (sC d) (sE d r) ⟨false, bc, be, f⟩ x = ⟨false, sC d x, sE d r x, x⟩ := if_pos (by simp [hb])
      rw [hst]
      rw [hb] at CB
      go_enter Try.func50, Try.ntmps50
      go_wp2_with (first | ((refine wpList_on (o := ⟨_, .box _ (.tmp 0), _, _, _, _⟩) rfl (fun K hK => ?_)); refine wp_box H _ (.tmp 0) rfl (v := .agg _) rfl ?_; clear H; intro u gx H; refine hK _ _ ?_; clear hK K; try simp only [Value.cells, List.cons_append, List.nil_append] at H) | ((refine wpList_on (o := ⟨_, .load 24 _, _, _, _, _⟩) rfl (fun K hK => ?_)); refine wp_load_one H 24 _ rfl rfl (by repeat (first | exact List.mem_cons_self | apply List.mem_cons_of_mem | apply List.mem_append_right)) (by kernel_rfl) rfl ?_; refine hK _ _ ?_; clear hK K) | ((refine wpList_on (o := ⟨_, .load 73 _, _, _, _, _⟩) rfl (fun K hK => ?_)); refine wp_load_one H 73 _ rfl rfl (by repeat (first | exact List.mem_cons_self | apply List.mem_cons_of_mem | apply List.mem_append_right)) (by kernel_rfl) rfl ?_; refine hK _ _ ?_; clear hK K) | ((refine wpList_on (o := ⟨_, .load 47 _, _, _, _, _⟩) rfl (fun K hK => ?_)); refine wp_load_all H 47 _ rfl rfl (by repeat (first | exact List.mem_cons_self | apply List.mem_cons_of_mem | apply List.mem_append_right)) (by kernel_rfl) ?_; refine hK _ _ ?_; clear hK K) | (go_at_call 43; (with_reducible refine (C2.out _ (Reads.has hR H) (Reads.ofRow H (by repeat (first | exact List.mem_cons_self | apply List.mem_cons_of_mem | apply List.mem_append_right)) (Nat.le_refl _))).mono ?_); rintro e w1 ⟨rfl, hb⟩; replace H := H.callee hb; clear hb) | ((refine wpList_on (o := ⟨_, .load 4 _, _, _, _, _⟩) rfl (fun K hK => ?_)); refine wp_load_one H 4 _ rfl rfl (by repeat (first | exact List.mem_cons_self | apply List.mem_cons_of_mem | apply List.mem_append_right)) (by kernel_rfl) rfl ?_; refine hK _ _ ?_; clear hK K) | ((refine wpList_on (o := ⟨_, .load 3 _, _, _, _, _⟩) rfl (fun K hK => ?_)); refine wp_load_one H 3 _ rfl rfl (by repeat (first | exact List.mem_cons_self | apply List.mem_cons_of_mem | apply List.mem_append_right)) (by kernel_rfl) rfl ?_; refine hK _ _ ?_; clear hK K) | (go_at_call 37; (with_reducible refine (CB.out _).mono ?_); rintro e w1 ⟨rfl, hb⟩; replace H := H.callee hb; clear hb) | ((refine wpList_on (o := ⟨_, .store 47 _ _, _, _, _, _⟩) rfl (fun K hK => ?_)); refine wp_store_all (l1 := [_, _, _, _, _]) H 47 _ _ rfl rfl rfl (by kernel_rfl) (by simp [row_size]) (row_one _ _) ?_; clear H; intro u H; refine hK _ _ ?_; clear hK K; try simp only [Value.cells, List.cons_append, List.nil_append] at H) | ((refine wpList_on (o := ⟨_, .store 3 _ _, _, _, _, _⟩) rfl (fun K hK => ?_)); (try simp only [Act.put, List.setIfInBounds_toArray, List.set_cons_zero, List.set_cons_succ]); refine wp_store_one (l1 := [_, _, _]) H 3 _ _ rfl rfl rfl (by kernel_rfl) (by simp) (by rfl) ?_; clear H; intro u H; refine hK _ _ ?_; clear hK K; try simp only [Value.cells, List.cons_append, List.nil_append] at H) | ((refine wpList_on (o := ⟨_, .store 3 _ _, _, _, _, _⟩) rfl (fun K hK => ?_)); (try simp only [Act.put, List.setIfInBounds_toArray, List.set_cons_zero, List.set_cons_succ]); refine wp_store_one (l1 := [_, _]) H 3 _ _ rfl rfl rfl (by kernel_rfl) (by simp) (by rfl) ?_; clear H; intro u H; refine hK _ _ ?_; clear hK K; try simp only [Value.cells, List.cons_append, List.nil_append] at H) | ((refine wpList_on (o := ⟨_, .store 4 _ _, _, _, _, _⟩) rfl (fun K hK => ?_)); (try simp only [Act.put, List.setIfInBounds_toArray, List.set_cons_zero, List.set_cons_succ]); refine wp_store_one (l1 := [_, _, _, _]) H 4 _ _ rfl rfl rfl (by kernel_rfl) (by simp) (by rfl) ?_; clear H; intro u H; refine hK _ _ ?_; clear hK K; try simp only [Value.cells, List.cons_append, List.nil_append] at H))
      refine bodyPost_end (results_none rfl _ _ _) rfl ?_
      exact ⟨rfl, H.tail⟩
  · have hst : bstep (sC d) (sE d r) ⟨true, bc, be, f⟩ x = ⟨false, sC d x, sE d r x, x⟩ := if_pos (by simp)
    rw [hst]
    go_enter Try.func50, Try.ntmps50
    go_wp2_with (first | ((refine wpList_on (o := ⟨_, .box _ (.tmp 0), _, _, _, _⟩) rfl (fun K hK => ?_)); refine wp_box H _ (.tmp 0) rfl (v := .agg _) rfl ?_; clear H; intro u gx H; refine hK _ _ ?_; clear hK K; try simp only [Value.cells, List.cons_append, List.nil_append] at H) | ((refine wpList_on (o := ⟨_, .load 24 _, _, _, _, _⟩) rfl (fun K hK => ?_)); refine wp_load_one H 24 _ rfl rfl (by repeat (first | exact List.mem_cons_self | apply List.mem_cons_of_mem | apply List.mem_append_right)) (by kernel_rfl) rfl ?_; refine hK _ _ ?_; clear hK K) | ((refine wpList_on (o := ⟨_, .load 73 _, _, _, _, _⟩) rfl (fun K hK => ?_)); refine wp_load_one H 73 _ rfl rfl (by repeat (first | exact List.mem_cons_self | apply List.mem_cons_of_mem | apply List.mem_append_right)) (by kernel_rfl) rfl ?_; refine hK _ _ ?_; clear hK K) | ((refine wpList_on (o := ⟨_, .load 47 _, _, _, _, _⟩) rfl (fun K hK => ?_)); refine wp_load_all H 47 _ rfl rfl (by repeat (first | exact List.mem_cons_self | apply List.mem_cons_of_mem | apply List.mem_append_right)) (by kernel_rfl) ?_; refine hK _ _ ?_; clear hK K) | (go_at_call 43; (with_reducible refine (C2.out _ (Reads.has hR H) (Reads.ofRow H (by repeat (first | exact List.mem_cons_self | apply List.mem_cons_of_mem | apply List.mem_append_right)) (Nat.le_refl _))).mono ?_); rintro e w1 ⟨rfl, hb⟩; replace H := H.callee hb; clear hb) | ((refine wpList_on (o := ⟨_, .load 4 _, _, _, _, _⟩) rfl (fun K hK => ?_)); refine wp_load_one H 4 _ rfl rfl (by repeat (first | exact List.mem_cons_self | apply List.mem_cons_of_mem | apply List.mem_append_right)) (by kernel_rfl) rfl ?_; refine hK _ _ ?_; clear hK K) | ((refine wpList_on (o := ⟨_, .load 3 _, _, _, _, _⟩) rfl (fun K hK => ?_)); refine wp_load_one H 3 _ rfl rfl (by repeat (first | exact List.mem_cons_self | apply List.mem_cons_of_mem | apply List.mem_append_right)) (by kernel_rfl) rfl ?_; refine hK _ _ ?_; clear hK K) | (go_at_call 37; (with_reducible refine (CB.out _).mono ?_); rintro e w1 ⟨rfl, hb⟩; replace H := H.callee hb; clear hb) | ((refine wpList_on (o := ⟨_, .store 47 _ _, _, _, _, _⟩) rfl (fun K hK => ?_)); refine wp_store_all (l1 := [_, _, _, _, _]) H 47 _ _ rfl rfl rfl (by kernel_rfl) (by simp [row_size]) (row_one _ _) ?_; clear H; intro u H; refine hK _ _ ?_; clear hK K; try simp only [Value.cells, List.cons_append, List.nil_append] at H) | ((refine wpList_on (o := ⟨_, .store 3 _ _, _, _, _, _⟩) rfl (fun K hK => ?_)); (try simp only [Act.put, List.setIfInBounds_toArray, List.set_cons_zero, List.set_cons_succ]); refine wp_store_one (l1 := [_, _, _]) H 3 _ _ rfl rfl rfl (by kernel_rfl) (by simp) (by rfl) ?_; clear H; intro u H; refine hK _ _ ?_; clear hK K; try simp only [Value.cells, List.cons_append, List.nil_append] at H) | ((refine wpList_on (o := ⟨_, .store 3 _ _, _, _, _, _⟩) rfl (fun K hK => ?_)); (try simp only [Act.put, List.setIfInBounds_toArray, List.set_cons_zero, List.set_cons_succ]); refine wp_store_one (l1 := [_, _]) H 3 _ _ rfl rfl rfl (by kernel_rfl) (by simp) (by rfl) ?_; clear H; intro u H; refine hK _ _ ?_; clear hK K; try simp only [Value.cells, List.cons_append, List.nil_append] at H) | ((refine wpList_on (o := ⟨_, .store 4 _ _, _, _, _, _⟩) rfl (fun K hK => ?_)); (try simp only [Act.put, List.setIfInBounds_toArray, List.set_cons_zero, List.set_cons_succ]); refine wp_store_one (l1 := [_, _, _, _]) H 4 _ _ rfl rfl rfl (by kernel_rfl) (by simp) (by rfl) ?_; clear H; intro u H; refine hK _ _ ?_; clear hK K; try simp only [Value.cells, List.cons_append, List.nil_append] at H))
    refine bodyPost_end (results_none rfl _ _ _) rfl ?_
    exact ⟨rfl, H.tail⟩
end Go.Proofs.Ytcoicmbjoaonoaa
