/-
  pulses: Few's inner function walked. No statement is proved here.
-/
import Derived.Test.YtcoicmbjoaonoaaAllWalk
namespace Go.Proofs.Ytcoicmbjoaonoaa
open Go.RowKit
theorem onT_next (now : Nat → Int) (t k : Nat) : row 4 (onT now t (k + 1)) = row 4 fun j => if j = t then ((k + 1 : Nat) : Int) else onT now t k j := row_congr fun i _ => by
  unfold onT
  by_cases e : i = t
  · rw [if_pos e, if_pos e]
  · rw [if_neg e, if_neg e, if_neg e]
theorem onT_first (now : Nat → Int) (t : Nat) : (row 4 fun j => if j = t then (0 : Int) else now j) = row 4 (onT now t 0) := rfl
theorem onT_at (now : Nat → Int) (t k : Nat) : onT now t k t = k := if_pos rfl
set_option maxHeartbeats 3200000 in
set_option maxRecDepth 100000 in
theorem fewWalk_any (d r : Nat → Int) (P : Option Addr) (cap g o : Nat) (w0 u : World) (hd : ∀ i, i < 40 → -1099511627776 ≤ d i ∧ d i ≤ 1099511627776) (hr : ∀ i, i < 40 → In16 (r i)) (hR : Reads w0 P 40 g o d) (now : Nat → Int) (t g7 g8 : Nat) (hnow : ∀ i, i < 4 → 0 ≤ now i ∧ now i ≤ 9) (ht : t < 4) (hA : At w0 g7 47 (row 4 now)) (hB : At w0 g8 3 #[.int .i64 (t : Nat)]) (g15 g14 g13 g12 g11 gT g3 : Nat) (b6 : Nat × TypeId × Array Value) (H : Has w0 u (SB g15 g14 g13 g12 g11 gT g3 b6 (.slice P 40 cap) r st0)) :
    Calls Try.prog 41 #[(.func (.func 50) #[] #[.pointer (some ⟨g3, 0, none⟩), .pointer (some ⟨g11, 0, none⟩), .pointer (some ⟨g13, 0, none⟩), .pointer (some ⟨g14, 0, none⟩), .pointer (some ⟨g15, 0, none⟩), .pointer (some ⟨g12, 0, none⟩)]), .pointer (some ⟨g7, 0, none⟩), .pointer (some ⟨g8, 0, none⟩)] u fun e w' => e = .returned (.tuple #[]) ∧ Has w0 w' (SB g15 g14 g13 g12 g11 gT g3 b6 (.slice P 40 cap) r (runS (sC d) (sE d r) (onT now t) 10)) := by
  have cb := Lib.hid (fun (n : Nat) (hn : n < 10) (u : World) (b0 : Nat × TypeId × Array Value) (H : Has w0 u (b0 :: SB g15 g14 g13 g12 g11 gT g3 b6 (.slice P 40 cap) r (runS (sC d) (sE d r) (onT now t) n))) => best_any d r (onT now t n) P cap g o w0 u hd hr (onT_in hnow t n hn) (runS (sC d) (sE d r) (onT now t) n) (runS_bd hd hr n fun k hk => onT_in hnow t k (by omega)) hR g15 g14 g13 g12 g11 gT g3 b0 b6 H)
  clear hd hr hR
  have HN : Hid (∀ n, bstep (sC d) (sE d r) (runS (sC d) (sE d r) (onT now t) n) (onT now t n) = runS (sC d) (sE d r) (onT now t) (n + 1)) := fun n => rfl
  have hc8 := hB.cell 0
  have H0 : Has w0 u (SB g15 g14 g13 g12 g11 gT g3 b6 (.slice P 40 cap) r (runS (sC d) (sE d r) (onT now t) 0)) := H
  clear H
  generalize hS : runS (sC d) (sE d r) (onT now t) = S at *
  clear hS
  have H := H0
  clear H0
  have C8 : Hid (w0.cell? ⟨g8, 0, none⟩ = some (.int .i64 (t : Nat))) := hc8
  have HA := Lib.hid hA
  have q1 : (t : Int) < 4 := by omega
  have q2 : (0 : Int) ≤ (t : Int) := by omega
  clear hc8 hA hB hnow
  go_enter Try.func41, Try.ntmps41
  go_wp2_with (first | ((refine wpList_on (o := ⟨_, .load 47 (.tmp 1), _, _, _, _⟩) rfl (fun K hK => ?_)); refine wp_load_all_old H HA.out 47 _ rfl rfl (by kernel_rfl) ?_; refine hK _ _ ?_; clear hK K) | (refine wpList_on (o := ⟨some 4, .alloc 47, _, _, _, _⟩) rfl (fun K hK => ?_); refine wp_alloc H 47 rfl (z := (.agg (row 4 fun _ => 0))) (by kernel_rfl) ?_; clear H; intro u g4 H; refine hK _ _ ?_; clear hK K; try simp only [Value.cells, List.cons_append, List.nil_append] at H) | ((refine wpList_on (o := ⟨_, .store 47 _ _, _, _, _, _⟩) rfl (fun K hK => ?_)); refine wp_store_all (l1 := []) H 47 _ _ rfl rfl rfl (by kernel_rfl) (by simp [row_size]) (row_one _ _) ?_; clear H; intro u H; refine hK _ _ ?_; clear hK K; try simp only [Value.cells, List.cons_append, List.nil_append] at H) | ((refine wpList_on (o := ⟨_, .load 3 (.tmp 2), _, _, _, _⟩) rfl (fun K hK => ?_)); refine wp_load_old H 3 _ rfl rfl (by kernel_rfl) C8.out ?_; refine hK _ _ ?_; clear hK K) | ((refine wpList_on (o := ⟨_, .store 3 _ _, _, _, _, _⟩) rfl (fun K hK => ?_)); refine wp_store_row_ (l1 := []) H 3 _ _ rfl rfl rfl (by kernel_rfl) ht ?_; clear H; intro u H; refine hK _ _ ?_; clear hK K; try simp only [Value.cells, List.cons_append, List.nil_append] at H))
  rw [onT_first] at H
  simp only [Act.put]
  go_loopw [] (fun wr => ∃ k : Nat, k ≤ 10 ∧ Has w0 wr ((g4, 47, row 4 (onT now t k)) :: SB g15 g14 g13 g12 g11 gT g3 b6 (.slice P 40 cap) r (S k))) (fun wr => 10 - (intOf ((wr.cell? ⟨g4, t, none⟩).getD undef)).toNat)
  case atStart => exact ⟨0, by omega, H⟩
  clear H
  case round =>
    obtain ⟨k, hk, H⟩ := hrel
    have hm0 : Hid (wr.cell? ⟨g4, t, none⟩ = some (.int .i64 (k : Nat))) := Lib.hid (by rw [(H.at_ (g := g4) (t := 47) (cs := row 4 (onT now t k)) List.mem_cons_self).cell t, row_get _ ht, onT_at])
    by_cases hlt : k < 10
    · have q3 : (k : Int) < 10 := by omega
      have hnx := Lib.hid (HN.out k)
      have cn := Lib.hid (cb.out k hlt)
      have hrow := Lib.hid (onT_next now t k)
      go_wp2_with (first | ((refine wpList_on (o := ⟨_, .load 47 _, _, _, _, _⟩) rfl (fun K hK => ?_)); refine wp_load_all H 47 _ rfl rfl (by repeat (first | exact List.mem_cons_self | apply List.mem_cons_of_mem | apply List.mem_append_right)) (by kernel_rfl) ?_; refine hK _ _ ?_; clear hK K) | (go_at_call 50; (with_reducible refine (cn.out _ _ H).mono ?_); rintro e w1 ⟨rfl, H2⟩; rw [hnx.out] at H2; replace H := H2; clear H2) | ((refine wpList_on (o := ⟨_, .load 3 (.tmp 2), _, _, _, _⟩) rfl (fun K hK => ?_)); refine wp_load_old H 3 _ rfl rfl (by kernel_rfl) C8.out ?_; refine hK _ _ ?_; clear hK K) | ((refine wpList_on (o := ⟨_, .load 3 _, _, _, _, _⟩) rfl (fun K hK => ?_)); refine wp_load_one (v := .int .i64 (k : Nat)) H 3 _ rfl rfl List.mem_cons_self (by kernel_rfl) (by rw [row_get _ ht, onT_at]) ?_; refine hK _ _ ?_; clear hK K) | ((refine wpList_on (o := ⟨_, .store 3 _ _, _, _, _, _⟩) rfl (fun K hK => ?_)); refine wp_store_row_ (l1 := []) H 3 _ _ rfl rfl rfl (by kernel_rfl) ht ?_; clear H; intro u H; refine hK _ _ ?_; clear hK K; try simp only [Value.cells, List.cons_append, List.nil_append] at H))
      simp only [Act.put]
      have hH : Has w0 u ((g4, 47, row 4 (onT now t (k + 1))) :: SB g15 g14 g13 g12 g11 gT g3 b6 (.slice P 40 cap) r (S (k + 1))) := by rw [hrow.out]; exact H
      have hm1 : u.cell? ⟨g4, t, none⟩ = some (.int .i64 ((k + 1 : Nat) : Int)) := by rw [(hH.at_ (g := g4) (t := 47) (cs := row 4 (onT now t (k + 1))) List.mem_cons_self).cell t, row_get _ ht, onT_at]
      go_roundw
      case rel => exact ⟨k + 1, by omega, hH⟩
      case measure =>
        rw [hm1, hm0.out]
        simp [intOf]
        omega
    · obtain rfl : k = 10 := by omega
      go_wp2_with (first | ((refine wpList_on (o := ⟨_, .load 3 (.tmp 2), _, _, _, _⟩) rfl (fun K hK => ?_)); refine wp_load_old H 3 _ rfl rfl (by kernel_rfl) C8.out ?_; refine hK _ _ ?_; clear hK K) | ((refine wpList_on (o := ⟨_, .load 3 _, _, _, _, _⟩) rfl (fun K hK => ?_)); refine wp_load_one (v := .int .i64 (10 : Nat)) H 3 _ rfl rfl List.mem_cons_self (by kernel_rfl) (by rw [row_get _ ht, onT_at]) ?_; refine hK _ _ ?_; clear hK K))
      refine bodyPost_end (results_none rfl _ _ _) rfl ?_
      exact ⟨rfl, H.tail⟩
end Go.Proofs.Ytcoicmbjoaonoaa
