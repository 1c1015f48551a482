/-
  pack: Parity and sum walked. No statement is proved here.
-/
import Derived.Test.YthddmgnjahmceaaDoorFields
import Derived.Test.YthddmgnjahmceaaDoorBits
namespace Go.Proofs.YthddmgnjahmceaaDoor
open Go.RowKit
/-- The parity of a number's bits on top of n. -/
def parN (n x : Nat) : Nat := if h : x = 0 then n else parN ((n + x % 2) % 2) (x / 2)
termination_by x
decreasing_by omega
theorem parN_zero (n : Nat) : parN n 0 = n := by rw [parN]; simp
theorem parN_step {n x : Nat} (h : x ≠ 0) : parN n x = parN ((n + x % 2) % 2) (x / 2) := by rw [parN, dif_neg h]
theorem parN_lt : ∀ (x n : Nat), n < 2 → parN n x < 2 := by
  intro x
  induction x using Nat.strongRecOn with
  | _ x ih =>
    intro n hn
    by_cases h : x = 0
    · subst h; rw [parN_zero]; exact hn
    · rw [parN_step h]; exact ih _ (by omega) _ (by omega)
def klF (q : Nat → Int) (i : Nat) : Int := if i = 0 then q 0 else if i = 1 then q 9 else q 17
def parU (q : Nat → Int) : Nat → Nat
  | 0 => 0
  | k + 1 => parN (parU q k) (klF q k).toNat
theorem parU_lt (q : Nat → Int) : ∀ k, parU q k < 2
  | 0 => by simp [parU]
  | k + 1 => parN_lt _ _ (parU_lt q k)
theorem parU_congr {q r : Nat → Int} (h : ∀ j, j < 25 → q j = r j) : ∀ k, parU q k = parU r k
  | 0 => rfl
  | k + 1 => by rw [parU, parU, parU_congr h k]; unfold klF; rw [h 0 (by omega), h 9 (by omega), h 17 (by omega)]
theorem xor_two : ∀ m < 2, ∀ b < 2, m ^^^ b = (m + b) % 2 := by decide
set_option maxHeartbeats 3200000 in
theorem Parity_any (q : Nat → Int) (w : World) (h0 : 0 ≤ q 0 ∧ q 0 < 64) (h9 : 0 ≤ q 9 ∧ q 9 < 64) (h17 : 0 ≤ q 17 ∧ q 17 < 64) : Calls Tryd.prog 15 #[.agg (row 25 q)] w fun e w' => e = .returned (.int .i64 (parU q 3 : Nat)) ∧ Below w.heap.size w w' := by
  have H := Has.start w
  have HK : Hid (∀ i, i < 3 → 0 ≤ klF q i ∧ klF q i < 64) := fun i hi => by unfold klF; split; exact h0; split; exact h9; exact h17
  clear h0 h9 h17
  go_enter Tryd.func15, Tryd.ntmps15
  go_wp2_with (first | ((refine wpList_on (o := ⟨_, .box _ (.tmp 0), _, _, _, _⟩) rfl (fun K hK => ?_)); refine wp_box H _ (.tmp 0) rfl (v := .agg _) rfl ?_; clear H; intro u gp H; refine hK _ _ ?_; clear hK K; try simp only [Value.cells, List.cons_append, List.nil_append] at H) | ((refine wpList_on (o := ⟨_, .load 3 _, _, _, _, _⟩) rfl (fun K hK => ?_)); refine wp_load_one H 3 _ rfl rfl (by repeat (first | exact List.mem_cons_self | apply List.mem_cons_of_mem | apply List.mem_append_right)) (by kernel_rfl) (row_get _ (by omega)) ?_; refine hK _ _ ?_; clear hK K))
  have hA : #[Value.int .i64 (q 0), .int .i64 (q 9), .int .i64 (q 17)] = row 3 (klF q) := rfl
  rw [hA]
  clear hA
  go_loopw [3, 17] (fun n c wr => ∃ k : Nat, k ≤ 3 ∧ c = .int .i64 k ∧ n = .int .i64 (parU q k : Nat) ∧ Has w wr [(gp, 28, row 25 q)]) (fun _ c _ => 3 - (intOf c).toNat)
  case atStart => exact ⟨0, by omega, rfl, rfl, H⟩
  clear H
  case round =>
    obtain ⟨k, hk, rfl, rfl, H⟩ := hrel
    by_cases hlt : k < 3
    · have hix := fun w => run_index_row (P := Tryd.prog) (n := 3) (i := k) Tryd.underlying54 Tryd.underlying3 (by kernel_rfl) (by kernel_rfl) (klF q) hlt w
      have hb := HK.out k hlt
      have hU : klF q k = ((klF q k).toNat : Nat) := by omega
      have hp : Hid (parN (parU q k) (klF q k).toNat = parU q (k + 1)) := rfl
      have h2 := parU_lt q k
      generalize (klF q k).toNat = x at *
      generalize parU q k = m at *
      rw [hU] at hix hb
      clear hU
      go_wp2
      go_loopw [3, 5] (fun n c wr => ∃ m y : Nat, n = .int .i64 m ∧ c = .int .i64 y ∧ m < 2 ∧ y < 64 ∧ Hid (parN m y = parU q (k + 1)) ∧ Has w wr [(gp, 28, row 25 q)]) (fun _ c _ => (intOf c).toNat)
      case atStart => exact ⟨m, x, rfl, rfl, h2, by omega, hp, H⟩
      clear H hp h2 hb hix
      case round =>
        obtain ⟨m, y, rfl, rfl, hm, hy, hp, H⟩ := hrel
        by_cases h0 : y = 0
        · subst h0
          go_wp2
          go_roundw
          case rel => exact ⟨k + 1, by omega, by go_num, by rw [← hp.out, parN_zero], H⟩
          case measure => simp [intOf]; omega
        · have d : decide ((0 : Int) < y) = true := lt_yes (by omega)
          have e1 := bits_and_1 y (by omega)
          have e2 := bits_xor_nat m (y % 2) (by omega) (by omega)
          rw [xor_two m hm (y % 2) (by omega)] at e2
          have hq := Lib.hid ((parN_step (n := m) h0).symm.trans hp.out)
          go_wp2
          go_roundw
          case rel => exact ⟨(m + y % 2) % 2, y / 2, (by rw [show ((y : Int) % 2) = ((y % 2 : Nat) : Int) by omega, e2]), by go_num, by omega, by omega, hq, H⟩
          case measure => simp [intOf]; omega
    · obtain rfl : k = 3 := by omega
      go_wp2
      go_ret
      exact ⟨rfl, H.below⟩
/-- n bytes at the head of a block. -/
def Bytes (w : World) (b n : Nat) (f : Nat → Nat) : Prop := ∀ i, i < n → w.cell? ⟨b, i, none⟩ = some (.int .u8 (f i : Nat))
theorem Bytes.has {w u : World} {b n : Nat} {f : Nat → Nat} {bs : List (Nat × TypeId × Array Value)} (h : Bytes w b n f) (H : Has w u bs) : Bytes u b n f := fun i hi => H.old_cell (h i hi)
theorem Bytes.less {w : World} {b n m : Nat} {f : Nat → Nat} (h : Bytes w b n f) (hm : m ≤ n) : Bytes w b m f := fun i hi => h i (by omega)
set_option maxHeartbeats 1600000 in
theorem sum_any (b cap : Nat) (f : Nat → Nat) (w : World) (hB : Bytes w b 14 f) (hf : ∀ i, f i < 256) : Calls Tryd.prog 16 #[.slice (some ⟨b, 0, none⟩) 14 cap] w fun e w' => e = .returned (.int .u8 (sumN f 14 % 256 : Nat)) ∧ w = w' := by
  have H := Has.start w
  have HB := Lib.hid hB
  have HF := Lib.hid hf
  clear hB hf
  go_enter Tryd.func16, Tryd.ntmps16
  go_wp2
  go_loop [3, 8] (fun s c => ∃ k : Nat, k ≤ 14 ∧ c = .int .i64 k ∧ s = .int .i64 (sumN f k : Nat)) (fun _ c => 14 - (intOf c).toNat)
  case atStart => exact ⟨0, by omega, rfl, rfl⟩
  case round =>
    obtain ⟨k, hk, rfl, rfl⟩ := hrel
    by_cases hlt : k < 14
    · have hl := sumN_le HF.out k
      have hv := HF.out k
      go_wp2_with (first | ((refine wpList_on (o := ⟨_, .load 5 _, _, _, _, _⟩) rfl (fun K hK => ?_)); refine wp_load_old H 5 _ rfl rfl (by kernel_rfl) (HB.out k hlt) ?_; refine hK _ _ ?_; clear hK K))
      go_round
      case rel => exact ⟨k + 1, by omega, by go_num, by rw [sumN]; go_num⟩
      case measure => simp [intOf]; omega
    · obtain rfl : k = 14 := by omega
      have hl := sumN_le HF.out 14
      go_wp2
      go_ret
      exact ⟨by go_num, rfl⟩
end Go.Proofs.YthddmgnjahmceaaDoor
