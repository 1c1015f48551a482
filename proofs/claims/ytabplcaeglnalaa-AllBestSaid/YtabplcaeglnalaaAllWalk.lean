/-
  pulses: All's and Few's inner functions walked. No statement is proved here.
-/
import Derived.Test.YtabplcaeglnalaaSearch
namespace Go.Proofs.Ytabplcaeglnalaa
open Go.RowKit
theorem wp_load_all_old {P : Program} {o : Oper} {a : Act} {K : Act → World → Prop} {Q : Exit → Act → World → Prop} {w0 u : World} {bs : List (Nat × TypeId × Array Value)} {g : Nat} {t : TypeId} {cs : Array Value} (H : Has w0 u bs) (hA : At w0 g t cs) (ty : TypeId) (x : Operand) (ho : o.op = .load ty x) (hx : a.eval x = .pointer (some ⟨g, 0, none⟩)) (ha : aggOf P ty cs.size = true)
    (h : K (a.put o.dst (.agg cs)) u) : o.wp P a u K Q := by
  obtain ⟨d, h1, h2, h3⟩ := aggOf_parts ha
  exact wp_load_row ty x ho g hx t cs (0, 0) d (hA.below H.below hA.lt) h1 (by cases d <;> simp_all) h3 h
set_option maxHeartbeats 3200000 in
set_option maxRecDepth 100000 in
theorem allWalk_any (d r : Nat → Int) (P : Option Addr) (cap g o : Nat) (w0 u : World) (hd : ∀ i, i < 40 → -1099511627776 ≤ d i ∧ d i ≤ 1099511627776) (hr : ∀ i, i < 40 → In16 (r i)) (hR : Reads w0 P 40 g o d) (g15 g14 g13 g12 g11 gT g3 : Nat) (b6 : Nat × TypeId × Array Value) (H : Has w0 u (SB g15 g14 g13 g12 g11 gT g3 b6 (.slice P 40 cap) r st0)) :
    Calls Try.prog 24 #[(.func (.func 30) #[] #[.pointer (some ⟨g3, 0, none⟩), .pointer (some ⟨g11, 0, none⟩), .pointer (some ⟨g13, 0, none⟩), .pointer (some ⟨g14, 0, none⟩), .pointer (some ⟨g15, 0, none⟩), .pointer (some ⟨g12, 0, none⟩)])] u fun e w' => e = .returned (.tuple #[]) ∧ Has w0 w' (SB g15 g14 g13 g12 g11 gT g3 b6 (.slice P 40 cap) r (runS (sC d) (sE d r) digX 10000)) := by
  have cb := Lib.hid (fun (n : Nat) (u : World) (b0 : Nat × TypeId × Array Value) (H : Has w0 u (b0 :: SB g15 g14 g13 g12 g11 gT g3 b6 (.slice P 40 cap) r (runS (sC d) (sE d r) digX n))) => best_any d r (digX n) P cap g o w0 u hd hr (digX_in n) (runS (sC d) (sE d r) digX n) (runS_bd hd hr n fun k _ => digX_in k) hR g15 g14 g13 g12 g11 gT g3 b0 b6 H)
  clear hd hr hR
  have HN : Hid (∀ n, bstep (sC d) (sE d r) (runS (sC d) (sE d r) digX n) (digX n) = runS (sC d) (sE d r) digX (n + 1)) := fun n => rfl
  have H0 : Has w0 u (SB g15 g14 g13 g12 g11 gT g3 b6 (.slice P 40 cap) r (runS (sC d) (sE d r) digX 0)) := H
  clear H
  generalize hS : runS (sC d) (sE d r) digX = S at *
  clear hS
  have H := H0
  clear H0
  go_enter Try.func24, Try.ntmps24
  go_wp2_with (refine wpList_on (o := ⟨some 2, .alloc 22, _, _, _, _⟩) rfl (fun K hK => ?_); refine wp_alloc H 22 rfl (z := (.agg (row 4 fun _ => 0))) (by kernel_rfl) ?_; clear H; intro u g2 H; refine hK _ _ ?_; clear hK K; try simp only [Value.cells, List.cons_append, List.nil_append] at H)
  go_loopw [5] (fun c wr => ∃ (n : Nat) (f : Nat → Int), n ≤ 10000 ∧ c = .int .i64 n ∧ Has w0 wr ((g2, 22, row 4 f) :: SB g15 g14 g13 g12 g11 gT g3 b6 (.slice P 40 cap) r (S n))) (fun c _ => 10000 - (intOf c).toNat)
  case atStart => exact ⟨0, _, by omega, rfl, H⟩
  clear H
  case round =>
    obtain ⟨n, f, hn, rfl, H⟩ := hrel
    by_cases hlt : n < 10000
    · have q0 : (n : Int) < 10000 := by omega
      have hf : ∀ i, 4 - 0 ≤ i → i < 4 → f i = digX n i := fun i h1 h2 => by omega
      go_wp2
      go_loopw [3, 8] (fun m c wr2 => ∃ (t : Nat) (f : Nat → Int), t ≤ 4 ∧ c = .int .i64 t ∧ m = .int .i64 (n / 10 ^ t : Nat) ∧ Hid (∀ i, 4 - t ≤ i → i < 4 → f i = digX n i) ∧ Has w0 wr2 ((g2, 22, row 4 f) :: SB g15 g14 g13 g12 g11 gT g3 b6 (.slice P 40 cap) r (S n))) (fun _ c _ => 4 - (intOf c).toNat)
      case atStart => exact ⟨0, f, by omega, rfl, by rw [Nat.pow_zero, Nat.div_one], hf, H⟩
      clear H hf
      case round =>
        obtain ⟨t, f, ht, rfl, rfl, hf, H⟩ := hrel
        by_cases hlt2 : t < 4
        · have q1 : (t : Int) < 4 := by omega
          have hm : n / 10 ^ t < 10000 := Nat.lt_of_le_of_lt (Nat.div_le_self _ _) hlt
          have hnx : Hid (n / 10 ^ (t + 1) = n / 10 ^ t / 10) := Lib.hid (by rw [Nat.pow_succ, Nat.div_div_eq_div_mul])
          have hdg : Hid (digX n (3 - t) = ((n / 10 ^ t % 10 : Nat) : Int)) := Lib.hid (by unfold digX; rw [show 3 - (3 - t) = t by omega])
          generalize n / 10 ^ t = m at *
          obtain ⟨q, hq⟩ : ∃ q, q = m / 10 := ⟨_, rfl⟩
          obtain ⟨y, hy⟩ : ∃ y, y = m % 10 := ⟨_, rfl⟩
          obtain ⟨j, hj⟩ : ∃ j, j = 3 - t := ⟨_, rfl⟩
          have e1 : IntKind.i64.wrap ((m : Int) / 10) = (q : Int) := by rw [IntKind.wrap_i64]; omega
          have e2 : (m : Int).tmod 10 = (y : Int) := by rw [Int.tmod_eq_emod_of_nonneg (by omega)]; omega
          have e3 : (3 : Int) - (t : Int) = (j : Int) := by omega
          have g1 : j < 4 := by omega
          have g2' : (0 : Int) ≤ (j : Int) ∧ (j : Int) < 4 := by omega
          rw [← hj, ← hy] at hdg
          rw [← hq] at hnx
          replace hq := Lib.hid hq
          replace hy := Lib.hid hy
          replace hj := Lib.hid hj
          go_wp2_with (first | ((refine wpList_on (o := ⟨_, .store 3 _ _, _, _, _, _⟩) rfl (fun K hK => ?_)); refine wp_store_row_ (l1 := []) H 3 _ _ rfl rfl rfl (by kernel_rfl) g1 ?_; clear H; intro u H; refine hK _ _ ?_; clear hK K; try simp only [Value.cells, List.cons_append, List.nil_append] at H))
          go_roundw
          case rel => exact ⟨t + 1, _, by omega, by go_num, by rw [hnx.out], (fun i h1 h2 => by
            have := hj.out
            by_cases e : i = j
            · rw [if_pos e, e]; exact hdg.out.symm
            · rw [if_neg e]; exact hf.out i (by omega) h2), H⟩
          case measure => simp [intOf]; omega
        · obtain rfl : t = 4 := by omega
          have HE : Hid (row 4 f = row 4 (digX n)) := row_congr fun i hi => hf.out i (by omega) hi
          rw [HE.out] at H
          have hnx := Lib.hid (HN.out n)
          have cn := Lib.hid (cb.out n)
          clear cb HN hf HE
          go_wp2_with (first | ((refine wpList_on (o := ⟨_, .load 22 _, _, _, _, _⟩) rfl (fun K hK => ?_)); refine wp_load_all H 22 _ rfl rfl (by repeat (first | exact List.mem_cons_self | apply List.mem_cons_of_mem | apply List.mem_append_right)) (by kernel_rfl) ?_; refine hK _ _ ?_; clear hK K) | (go_at_call 30; (with_reducible refine (cn.out _ _ H).mono ?_); rintro e w1 ⟨rfl, H2⟩; replace H := H2; clear H2))
          rw [hnx.out] at H
          go_roundw
          case rel => exact ⟨n + 1, _, by omega, by go_num, H⟩
          case measure => simp [intOf]; omega
    · obtain rfl : n = 10000 := by omega
      go_wp2
      refine bodyPost_end (results_none rfl _ _ _) rfl ?_
      exact ⟨rfl, H.tail⟩
end Go.Proofs.Ytabplcaeglnalaa
