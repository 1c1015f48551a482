/-
  Several texts of this claim, one behind the other: PackGood, Bits, Parity, Put. No statement is proved here.
-/
import Derived.Test.YtcoicmbjoaonoaaDoorZan
import Derived.Test.YtcoicmbjoaonoaaDoorZaa
/-
  pack: Good, Parity, sum walked. No statement is proved here.
-/
namespace Go.Proofs.YtcoicmbjoaonoaaDoor
set_option linter.unusedVariables false
set_option linter.unusedSimpArgs false
open Go.RowKit
set_option maxRecDepth 100000
def goodB (q : Nat → Int) : Bool := (List.range 25).all fun j => decide (0 ≤ q j) && decide (q j ≤ (mostF j : Nat))
theorem goodB_iff {q : Nat → Int} : goodB q = true ↔ ∀ j, j < 25 → 0 ≤ q j ∧ q j ≤ (mostF j : Nat) := by
  unfold goodB
  simp [List.all_eq_true]
theorem goodB_no {q : Nat → Int} {k : Nat} (hk : k < 25) (h : ¬ (0 ≤ q k ∧ q k ≤ (mostF k : Nat))) : goodB q = false := by
  cases e : goodB q
  · rfl
  · exact absurd (goodB_iff.1 e k hk) h
theorem extract3 {cs : Array Value} {g n k : Nat} (hcs : ∀ i, i < 25 * 3 → cs[i]? = some (fieldC g i)) (hk : k < 25) : cs.extract (k * 3) (k * 3 + 3) = fieldRow g k := by
  have hsz : k * 3 + 3 ≤ cs.size := by
    have := hcs (k * 3 + 2) (by omega)
    have := (Array.getElem?_eq_some_iff.1 this).1
    omega
  apply Array.ext_getElem?
  intro i
  by_cases hi : i < 3
  · rw [fieldRow_get g k i hi, Array.getElem?_extract, if_pos (by omega), hcs _ (by omega), Nat.mul_comm]
  · rw [Array.getElem?_eq_none (by rw [Array.size_extract]; omega), Array.getElem?_eq_none (by show 3 ≤ i; omega)]
set_option maxHeartbeats 3200000 in
set_option maxRecDepth 100000 in
theorem PkGood_any (q : Nat → Int) (w : World) (hT : Widths w) : Calls Tryd.prog 46 #[.agg (row 25 q)] w fun e w' => e = .returned (.bool (goodB q)) ∧ Below w.heap.size w w' := by
  have H := Has.start w
  go_enter Tryd.func46, Tryd.ntmps46
  go_wp2_with (first | ((refine wpList_on (o := ⟨_, .box _ (.tmp 0), _, _, _, _⟩) rfl (fun K hK => ?_)); (try simp only [Act.put, List.setIfInBounds_toArray, List.set_cons_zero, List.set_cons_succ]); refine wp_box H _ (.tmp 0) rfl (v := .agg _) rfl ?_; clear H; intro u gp H; refine hK _ _ ?_; clear hK K; try simp only [Value.cells, List.cons_append, List.nil_append] at H) | (go_at_call 45; (with_reducible refine (fields_any gp _ (hT.has H)).mono ?_); rintro e u ⟨v, tl, rfl, RO, hb⟩; obtain ⟨gf, cap, cs, rfl, rfl, hcap, hsz, hcs⟩ := RO.some_ (by omega); clear RO; replace H := H.join hb; clear hb; simp only [List.cons_append, List.nil_append] at H))
  have HC := Lib.hid hcs
  clear hcs
  go_loopw [7] (fun c wr => ∃ k : Nat, k ≤ 25 ∧ c = .int .i64 k ∧ Hid (∀ j, j < k → 0 ≤ q j ∧ q j ≤ (mostF j : Nat)) ∧ Has w wr [(gf, 98, cs), (gp, 44, row 25 q)]) (fun c _ => 25 - (intOf c).toNat)
  case atStart => exact ⟨0, by omega, rfl, fun j hj => by omega, H⟩
  clear H
  case round =>
    obtain ⟨k, hk, rfl, HG, H⟩ := hrel
    by_cases hlt : k < 25
    · have hex := Lib.hid (extract3 (n := 0) HC.out hlt)
      have h3 : k * 3 + 3 ≤ cs.size := by omega
      go_wp2_with (first | ((refine wpList_on (o := ⟨_, .load 98 _, _, _, _, _⟩) rfl (fun K hK => ?_)); (try simp only [Act.put, List.setIfInBounds_toArray, List.set_cons_zero, List.set_cons_succ]); refine wp_load_part (n := 3) H 98 _ rfl rfl (by repeat (first | exact List.mem_cons_self | apply List.mem_cons_of_mem | apply List.mem_append_right)) (by kernel_rfl) h3 hex.out ?_; refine hK _ _ ?_; clear hK K) | (refine wpList_on (o := ⟨some 4, .alloc 98, _, _, _, _⟩) rfl (fun K hK => ?_); refine wp_alloc H 98 rfl (z := (.agg #[.pointer none, .int .i64 0, .int .i64 0])) (by kernel_rfl) ?_; clear H; intro u g4 H; refine hK _ _ ?_; clear hK K; try simp only [Value.cells, List.cons_append, List.nil_append] at H) | ((refine wpList_on (o := ⟨_, .store 98 _ _, _, _, _, _⟩) rfl (fun K hK => ?_)); (try simp only [Act.put, List.setIfInBounds_toArray, List.set_cons_zero, List.set_cons_succ]); refine wp_store_all (l1 := []) H 98 _ _ rfl rfl rfl (by kernel_rfl) rfl (by simp [Value.oneCell', fieldRow]) ?_; clear H; intro u H; refine hK _ _ ?_; clear hK K; try simp only [Value.cells, List.cons_append, List.nil_append] at H))
      by_cases h1 : q k < 0
      · have d1 : decide (q k < 0) = true := lt_yes h1
        refine wp_region_text [] (by kernel_rfl) (by kernel_rfl) (by kernel_rfl) ?_; replace H := H.drew; generalize World.drew _ = u at *
        iterate 6 (first | (refine ones_load_one (v := .pointer (some ⟨gp, k, none⟩)) (o := ⟨_, .load 96 _, _, _, _, _⟩) H 96 _ rfl rfl rfl rfl (by repeat (first | exact List.mem_cons_self | apply List.mem_cons_of_mem | apply List.mem_append_right)) (by kernel_rfl) rfl ?_; simp only [Act.put, List.setIfInBounds_toArray, List.set_cons_zero, List.set_cons_succ]) | (refine ones_load_one (o := ⟨_, .load 3 _, _, _, _, _⟩) H 3 _ rfl rfl rfl rfl (by repeat (first | exact List.mem_cons_self | apply List.mem_cons_of_mem | apply List.mem_append_right)) (by kernel_rfl) (row_get _ hlt) ?_; simp only [Act.put, List.setIfInBounds_toArray, List.set_cons_zero, List.set_cons_succ]) | (refine ones_free (v := ?_) rfl rfl ?_ ?_; rotate_left; (intro w'; go_simp; try with_reducible rfl); simp only [Act.put, List.setIfInBounds_toArray, List.set_cons_zero, List.set_cons_succ]))
        iterate 7 (with_reducible refine ones_skip (by simp [Region.wanted, yielded]) ?_; simp only [Act.put, List.setIfInBounds_toArray, List.set_cons_zero, List.set_cons_succ])
        (refine ones_free (v := ?_) rfl rfl ?_ ?_; rotate_left; (intro w'; go_simp; try with_reducible rfl); simp only [Act.put, List.setIfInBounds_toArray, List.set_cons_zero, List.set_cons_succ])
        refine ones_nil ?_
        go_wp2
        go_ret
        exact ⟨(by rw [goodB_no hlt (by omega)]; rfl), H.below⟩
      · have d1 : decide (q k < 0) = false := lt_no (by omega)
        by_cases h2 : ((mostF k : Nat) : Int) < q k
        · have d2 : decide (((mostF k : Nat) : Int) < q k) = true := lt_yes h2
          refine wp_region_text [] (by kernel_rfl) (by kernel_rfl) (by kernel_rfl) ?_; replace H := H.drew; generalize World.drew _ = u at *
          repeat (first | (refine ones_load_one (v := .pointer (some ⟨gp, k, none⟩)) (o := ⟨_, .load 96 _, _, _, _, _⟩) H 96 _ rfl rfl rfl rfl (by repeat (first | exact List.mem_cons_self | apply List.mem_cons_of_mem | apply List.mem_append_right)) (by kernel_rfl) rfl ?_; simp only [Act.put, List.setIfInBounds_toArray, List.set_cons_zero, List.set_cons_succ]) | (refine ones_load_one (o := ⟨_, .load 3 _, _, _, _, _⟩) H 3 _ rfl rfl rfl rfl (by repeat (first | exact List.mem_cons_self | apply List.mem_cons_of_mem | apply List.mem_append_right)) (by kernel_rfl) (row_get _ hlt) ?_; simp only [Act.put, List.setIfInBounds_toArray, List.set_cons_zero, List.set_cons_succ]) | (refine ones_load_one (v := .int .i64 (mostF k : Nat)) (o := ⟨_, .load 3 _, _, _, _, _⟩) H 3 _ rfl rfl rfl rfl (by repeat (first | exact List.mem_cons_self | apply List.mem_cons_of_mem | apply List.mem_append_right)) (by kernel_rfl) rfl ?_; simp only [Act.put, List.setIfInBounds_toArray, List.set_cons_zero, List.set_cons_succ]) | (refine ones_free (v := ?_) rfl rfl ?_ ?_; rotate_left; (intro w'; go_simp; try with_reducible rfl); simp only [Act.put, List.setIfInBounds_toArray, List.set_cons_zero, List.set_cons_succ]))
          refine ones_nil ?_
          go_wp2
          go_ret
          exact ⟨(by rw [goodB_no hlt (by omega)]; rfl), H.below⟩
        · have d2 : decide (((mostF k : Nat) : Int) < q k) = false := lt_no (by omega)
          refine wp_region_text [] (by kernel_rfl) (by kernel_rfl) (by kernel_rfl) ?_; replace H := H.drew; generalize World.drew _ = u at *
          repeat (first | (refine ones_load_one (v := .pointer (some ⟨gp, k, none⟩)) (o := ⟨_, .load 96 _, _, _, _, _⟩) H 96 _ rfl rfl rfl rfl (by repeat (first | exact List.mem_cons_self | apply List.mem_cons_of_mem | apply List.mem_append_right)) (by kernel_rfl) rfl ?_; simp only [Act.put, List.setIfInBounds_toArray, List.set_cons_zero, List.set_cons_succ]) | (refine ones_load_one (o := ⟨_, .load 3 _, _, _, _, _⟩) H 3 _ rfl rfl rfl rfl (by repeat (first | exact List.mem_cons_self | apply List.mem_cons_of_mem | apply List.mem_append_right)) (by kernel_rfl) (row_get _ hlt) ?_; simp only [Act.put, List.setIfInBounds_toArray, List.set_cons_zero, List.set_cons_succ]) | (refine ones_load_one (v := .int .i64 (mostF k : Nat)) (o := ⟨_, .load 3 _, _, _, _, _⟩) H 3 _ rfl rfl rfl rfl (by repeat (first | exact List.mem_cons_self | apply List.mem_cons_of_mem | apply List.mem_append_right)) (by kernel_rfl) rfl ?_; simp only [Act.put, List.setIfInBounds_toArray, List.set_cons_zero, List.set_cons_succ]) | (refine ones_free (v := ?_) rfl rfl ?_ ?_; rotate_left; (intro w'; go_simp; try with_reducible rfl); simp only [Act.put, List.setIfInBounds_toArray, List.set_cons_zero, List.set_cons_succ]))
          refine ones_nil ?_
          go_wp2
          go_roundw
          case rel => exact ⟨k + 1, by omega, by go_num, fun j hj => by
            by_cases e : j = k
            · subst e; omega
            · exact HG.out j (by omega), H.tail⟩
          case measure => simp [intOf]; omega
    · obtain rfl : k = 25 := by omega
      go_wp2
      go_ret
      exact ⟨(by rw [goodB_iff.2 HG.out]; rfl), H.below⟩
end Go.Proofs.YtcoicmbjoaonoaaDoor
/-
  Bits of small numbers: laws. No statement is proved here.
-/
namespace Go.Proofs.YtcoicmbjoaonoaaDoor
set_option linter.unusedVariables false
set_option linter.unusedSimpArgs false
open Go.RowKit
set_option maxRecDepth 100000
theorem bits_xor_nat (a b : Nat) (ha : a < 9223372036854775808) (hb : b < 9223372036854775808) : bits .xor .i64 (a : Int) (b : Int) = ((a ^^^ b : Nat) : Int) := by
  show IntKind.i64.wrap ((BitVec.ofInt 64 (a : Int) ^^^ BitVec.ofInt 64 (b : Int)).toNat : Nat) = _
  have h : a ^^^ b < 2 ^ 63 := Nat.xor_lt_two_pow (by omega) (by omega)
  rw [BitVec.toNat_xor, BitVec.ofInt_natCast, BitVec.toNat_ofNat, BitVec.ofInt_natCast, BitVec.toNat_ofNat, Nat.mod_eq_of_lt (show a < 2 ^ 64 by omega), Nat.mod_eq_of_lt (show b < 2 ^ 64 by omega), IntKind.wrap_i64]
  omega
theorem bits_or_nat (a b : Nat) (ha : a < 9223372036854775808) (hb : b < 9223372036854775808) : bits .or .i64 (a : Int) (b : Int) = ((a ||| b : Nat) : Int) := by
  show IntKind.i64.wrap ((BitVec.ofInt 64 (a : Int) ||| BitVec.ofInt 64 (b : Int)).toNat : Nat) = _
  have h : a ||| b < 2 ^ 63 := Nat.or_lt_two_pow (by omega) (by omega)
  rw [BitVec.toNat_or, BitVec.ofInt_natCast, BitVec.toNat_ofNat, BitVec.ofInt_natCast, BitVec.toNat_ofNat, Nat.mod_eq_of_lt (show a < 2 ^ 64 by omega), Nat.mod_eq_of_lt (show b < 2 ^ 64 by omega), IntKind.wrap_i64]
  omega
theorem bits_and_1 (n : Nat) (h : n < 9223372036854775808) : bits .and .i64 (n : Int) 1 = ((n % 2 : Nat) : Int) := by
  have h127 : (BitVec.ofInt 64 1).toNat = 2 ^ 1 - 1 := by decide
  show IntKind.i64.wrap ((BitVec.ofInt 64 (n : Int) &&& BitVec.ofInt 64 1).toNat : Nat) = _
  rw [BitVec.toNat_and, h127, Nat.and_two_pow_sub_one_eq_mod, BitVec.ofInt_natCast, BitVec.toNat_ofNat, IntKind.wrap_i64]
  omega
theorem bits_or_u8 (a b : Nat) (ha : a < 256) (hb : b < 256) : bits .or .u8 (a : Int) (b : Int) = ((a ||| b : Nat) : Int) := by
  show IntKind.u8.wrap ((BitVec.ofInt 8 (a : Int) ||| BitVec.ofInt 8 (b : Int)).toNat : Nat) = _
  have h : a ||| b < 2 ^ 8 := Nat.or_lt_two_pow (by omega) (by omega)
  rw [BitVec.toNat_or, BitVec.ofInt_natCast, BitVec.toNat_ofNat, BitVec.ofInt_natCast, BitVec.toNat_ofNat, Nat.mod_eq_of_lt (show a < 2 ^ 8 by omega), Nat.mod_eq_of_lt (show b < 2 ^ 8 by omega), IntKind.wrap_u8]
  omega
theorem bits_xor_u8 (a b : Nat) (ha : a < 256) (hb : b < 256) : bits .xor .u8 (a : Int) (b : Int) = ((a ^^^ b : Nat) : Int) := by
  show IntKind.u8.wrap ((BitVec.ofInt 8 (a : Int) ^^^ BitVec.ofInt 8 (b : Int)).toNat : Nat) = _
  have h : a ^^^ b < 2 ^ 8 := Nat.xor_lt_two_pow (by omega) (by omega)
  rw [BitVec.toNat_xor, BitVec.ofInt_natCast, BitVec.toNat_ofNat, BitVec.ofInt_natCast, BitVec.toNat_ofNat, Nat.mod_eq_of_lt (show a < 2 ^ 8 by omega), Nat.mod_eq_of_lt (show b < 2 ^ 8 by omega), IntKind.wrap_u8]
  omega
theorem bits_and_u8 (n : Nat) (h : n < 256) : bits .and .u8 (n : Int) 1 = ((n % 2 : Nat) : Int) := by
  have h127 : (BitVec.ofInt 8 1).toNat = 2 ^ 1 - 1 := by decide
  show IntKind.u8.wrap ((BitVec.ofInt 8 (n : Int) &&& BitVec.ofInt 8 1).toNat : Nat) = _
  rw [BitVec.toNat_and, h127, Nat.and_two_pow_sub_one_eq_mod, BitVec.ofInt_natCast, BitVec.toNat_ofNat, IntKind.wrap_u8]
  omega
end Go.Proofs.YtcoicmbjoaonoaaDoor
/-
  pack: Parity and sum walked. No statement is proved here.
-/
namespace Go.Proofs.YtcoicmbjoaonoaaDoor
set_option linter.unusedVariables false
set_option linter.unusedSimpArgs false
open Go.RowKit
set_option maxRecDepth 100000
/-- The parity of a number's bits on top of n. -/
def parN (n x : Nat) : Nat := if h : x = 0 then n else parN ((n + x % 2) % 2) (x / 2)
termination_by x
decreasing_by omega
theorem parN_zero (n : Nat) : parN n 0 = n := by rw [parN]; simp
theorem parN_step {n x : Nat} (h : x ≠ 0) : parN n x = parN ((n + x % 2) % 2) (x / 2) := by rw [parN, dif_neg h]
theorem parN_lt : ∀ (x n : Nat), n < 2 → parN n x < 2 := by
  intro x
  induction x using Nat.strongRecOn with
  | _ x ih =>
    intro n hn
    by_cases h : x = 0
    · subst h; rw [parN_zero]; exact hn
    · rw [parN_step h]; exact ih _ (by omega) _ (by omega)
def klF (q : Nat → Int) (i : Nat) : Int := if i = 0 then q 0 else if i = 1 then q 9 else q 17
def parU (q : Nat → Int) : Nat → Nat
  | 0 => 0
  | k + 1 => parN (parU q k) (klF q k).toNat
theorem parU_lt (q : Nat → Int) : ∀ k, parU q k < 2
  | 0 => by simp [parU]
  | k + 1 => parN_lt _ _ (parU_lt q k)
theorem parU_congr {q r : Nat → Int} (h : ∀ j, j < 25 → q j = r j) : ∀ k, parU q k = parU r k
  | 0 => rfl
  | k + 1 => by rw [parU, parU, parU_congr h k]; unfold klF; rw [h 0 (by omega), h 9 (by omega), h 17 (by omega)]
theorem xor_two : ∀ m < 2, ∀ b < 2, m ^^^ b = (m + b) % 2 := by decide
set_option maxHeartbeats 3200000 in
theorem Parity_any (q : Nat → Int) (w : World) (h0 : 0 ≤ q 0 ∧ q 0 < 64) (h9 : 0 ≤ q 9 ∧ q 9 < 64) (h17 : 0 ≤ q 17 ∧ q 17 < 64) : Calls Tryd.prog 47 #[.agg (row 25 q)] w fun e w' => e = .returned (.int .i64 (parU q 3 : Nat)) ∧ Below w.heap.size w w' := by
  have H := Has.start w
  have HK : Hid (∀ i, i < 3 → 0 ≤ klF q i ∧ klF q i < 64) := fun i hi => by unfold klF; split; exact h0; split; exact h9; exact h17
  clear h0 h9 h17
  go_enter Tryd.func47, Tryd.ntmps47
  go_wp2_with (first | ((refine wpList_on (o := ⟨_, .box _ (.tmp 0), _, _, _, _⟩) rfl (fun K hK => ?_)); (try simp only [Act.put, List.setIfInBounds_toArray, List.set_cons_zero, List.set_cons_succ]); refine wp_box H _ (.tmp 0) rfl (v := .agg _) rfl ?_; clear H; intro u gp H; refine hK _ _ ?_; clear hK K; try simp only [Value.cells, List.cons_append, List.nil_append] at H) | ((refine wpList_on (o := ⟨_, .load 3 _, _, _, _, _⟩) rfl (fun K hK => ?_)); (try simp only [Act.put, List.setIfInBounds_toArray, List.set_cons_zero, List.set_cons_succ]); refine wp_load_one H 3 _ rfl rfl (by repeat (first | exact List.mem_cons_self | apply List.mem_cons_of_mem | apply List.mem_append_right)) (by kernel_rfl) (row_get _ (by omega)) ?_; refine hK _ _ ?_; clear hK K))
  have hA : #[Value.int .i64 (q 0), .int .i64 (q 9), .int .i64 (q 17)] = row 3 (klF q) := rfl
  rw [hA]
  clear hA
  go_loopw [3, 17] (fun n c wr => ∃ k : Nat, k ≤ 3 ∧ c = .int .i64 k ∧ n = .int .i64 (parU q k : Nat) ∧ Has w wr [(gp, 44, row 25 q)]) (fun _ c _ => 3 - (intOf c).toNat)
  case atStart => exact ⟨0, by omega, rfl, rfl, H⟩
  clear H
  case round =>
    obtain ⟨k, hk, rfl, rfl, H⟩ := hrel
    by_cases hlt : k < 3
    · have hix := fun w => run_index_row (P := Tryd.prog) (n := 3) (i := k) Tryd.underlying131 Tryd.underlying3 (by kernel_rfl) (by kernel_rfl) (klF q) hlt w
      have hb := HK.out k hlt
      have hU : klF q k = ((klF q k).toNat : Nat) := by omega
      have hp : Hid (parN (parU q k) (klF q k).toNat = parU q (k + 1)) := rfl
      have h2 := parU_lt q k
      generalize (klF q k).toNat = x at *
      generalize parU q k = m at *
      rw [hU] at hix hb
      clear hU
      go_wp2
      go_loopw [3, 5] (fun n c wr => ∃ m y : Nat, n = .int .i64 m ∧ c = .int .i64 y ∧ m < 2 ∧ y < 64 ∧ Hid (parN m y = parU q (k + 1)) ∧ Has w wr [(gp, 44, row 25 q)]) (fun _ c _ => (intOf c).toNat)
      case atStart => exact ⟨m, x, rfl, rfl, h2, by omega, hp, H⟩
      clear H hp h2 hb hix
      case round =>
        obtain ⟨m, y, rfl, rfl, hm, hy, hp, H⟩ := hrel
        by_cases h0 : y = 0
        · subst h0
          go_wp2
          go_roundw
          case rel => exact ⟨k + 1, by omega, by go_num, by rw [← hp.out, parN_zero], H⟩
          case measure => simp [intOf]; omega
        · have d : decide ((0 : Int) < y) = true := lt_yes (by omega)
          have e1 := bits_and_1 y (by omega)
          have e2 := bits_xor_nat m (y % 2) (by omega) (by omega)
          rw [xor_two m hm (y % 2) (by omega)] at e2
          have hq := Lib.hid ((parN_step (n := m) h0).symm.trans hp.out)
          go_wp2
          go_roundw
          case rel => exact ⟨(m + y % 2) % 2, y / 2, (by rw [show ((y : Int) % 2) = ((y % 2 : Nat) : Int) by omega, e2]), by go_num, by omega, by omega, hq, H⟩
          case measure => simp [intOf]; omega
    · obtain rfl : k = 3 := by omega
      go_wp2
      go_ret
      exact ⟨rfl, H.below⟩
/-- n bytes at the head of a block. -/
def Bytes (w : World) (b n : Nat) (f : Nat → Nat) : Prop := ∀ i, i < n → w.cell? ⟨b, i, none⟩ = some (.int .u8 (f i : Nat))
theorem Bytes.has {w u : World} {b n : Nat} {f : Nat → Nat} {bs : List (Nat × TypeId × Array Value)} (h : Bytes w b n f) (H : Has w u bs) : Bytes u b n f := fun i hi => H.old_cell (h i hi)
theorem Bytes.less {w : World} {b n m : Nat} {f : Nat → Nat} (h : Bytes w b n f) (hm : m ≤ n) : Bytes w b m f := fun i hi => h i (by omega)
set_option maxHeartbeats 1600000 in
theorem sum_any (b cap : Nat) (f : Nat → Nat) (w : World) (hB : Bytes w b 14 f) (hf : ∀ i, f i < 256) : Calls Tryd.prog 43 #[.slice (some ⟨b, 0, none⟩) 14 cap] w fun e w' => e = .returned (.int .u8 (sumN f 14 % 256 : Nat)) ∧ w = w' := by
  have H := Has.start w
  have HB := Lib.hid hB
  have HF := Lib.hid hf
  clear hB hf
  go_enter Tryd.func43, Tryd.ntmps43
  go_wp2
  go_loop [3, 8] (fun s c => ∃ k : Nat, k ≤ 14 ∧ c = .int .i64 k ∧ s = .int .i64 (sumN f k : Nat)) (fun _ c => 14 - (intOf c).toNat)
  case atStart => exact ⟨0, by omega, rfl, rfl⟩
  case round =>
    obtain ⟨k, hk, rfl, rfl⟩ := hrel
    by_cases hlt : k < 14
    · have hl := sumN_le HF.out k
      have hv := HF.out k
      go_wp2_with (first | ((refine wpList_on (o := ⟨_, .load 5 _, _, _, _, _⟩) rfl (fun K hK => ?_)); refine wp_load_old H 5 _ rfl rfl (by kernel_rfl) (HB.out k hlt) ?_; refine hK _ _ ?_; clear hK K))
      go_round
      case rel => exact ⟨k + 1, by omega, by go_num, by rw [sumN]; go_num⟩
      case measure => simp [intOf]; omega
    · obtain rfl : k = 14 := by omega
      have hl := sumN_le HF.out 14
      go_wp2
      go_ret
      exact ⟨by go_num, rfl⟩
end Go.Proofs.YtcoicmbjoaonoaaDoor
/-
  pack: the inner functions put and get walked. No statement is proved here.
-/
namespace Go.Proofs.YtcoicmbjoaonoaaDoor
set_option linter.unusedVariables false
set_option linter.unusedSimpArgs false
open Go.RowKit
set_option maxRecDepth 100000
/-- n bytes as cells. -/
def rowU (n : Nat) (f : Nat → Nat) : Array Value := rowV n fun i => .int .u8 (f i : Nat)
theorem rowU_size (n : Nat) (f : Nat → Nat) : (rowU n f).size = n := rowV_size _ _
theorem rowU_get {n i : Nat} (f : Nat → Nat) (h : i < n) : (rowU n f)[i]? = some (.int .u8 (f i : Nat)) := rowV_get _ h
theorem rowU_congr {n : Nat} {f g : Nat → Nat} (h : ∀ i, i < n → f i = g i) : rowU n f = rowU n g := rowV_congr fun i hi => by rw [h i hi]
theorem rowU_set {n k : Nat} (f g : Nat → Nat) (v : Nat) (h : ∀ i, i < n → g i = if i = k then v else f i) : (rowU n f).setIfInBounds k (.int .u8 (v : Nat)) = rowU n g := by
  refine rowV_ext (by simp [rowU_size]) fun i hi => ?_
  rw [Array.getElem?_setIfInBounds, rowU_size, h i hi]
  by_cases e : k = i
  · rw [if_pos e, if_pos (by omega), if_pos e.symm]
  · rw [if_neg e, if_neg (fun e' => e e'.symm), rowU_get _ hi]
theorem ones_load_cell {P : Program} {o : Oper} {a : Act} {Q : Exit → Act → World → Prop} {u : World} {ops : Array Oper} {quiet : List Nat} {rest : List Oper} (ty : TypeId) (x : Operand) (hk : kindOf quiet o = 2) (hg : Region.wanted o (yielded ops a.tmps) = true) (ho : o.op = .load ty x) {p : Addr} {v : Value} (hx : a.eval x = .pointer (some p)) (hs : scalarOf P ty = true) (hv : u.cell? p = some v)
    (h : Ones P ops quiet Q rest (a.put o.dst v) u) : Ones P ops quiet Q (o :: rest) a u := by
  refine ones_here hk hg ?_ h
  unfold execOp
  simp only [ho, hx, Instr.loadAt, Instr.sureAddr, Sem.run_bind, Sem.run_pure, Result.andThen_ok, run_loadVar_one hs hv]
set_option maxHeartbeats 3200000 in
theorem put_any (B : Nat → Nat) (hB : ∀ i, B i < 2) (v n a : Nat) (hn : n ≤ 6) (ha : a + n ≤ 112) (hv : v < 64) (hb : ∀ m, m < n → B (a + m) = bitOf v n m) (w0 u : World) (ga gb gi : Nat) (b0 b4 : Nat × TypeId × Array Value)
    (H : Has w0 u [b0, (gi, 3, #[.int .i64 (a : Nat)]), (ga, 34, #[.slice (some ⟨gb, 0, none⟩) 15 15]), (gb, 5, rowU 15 (byteN B a)), b4]) :
    Calls Tryd.prog 55 #[.int .i64 (v : Nat), .int .i64 (n : Nat), .pointer (some ⟨ga, 0, none⟩), .pointer (some ⟨gi, 0, none⟩)] u fun e w' => e = .returned (.tuple #[]) ∧
      Has w0 w' [b0, (gi, 3, #[.int .i64 (a + n : Nat)]), (ga, 34, #[.slice (some ⟨gb, 0, none⟩) 15 15]), (gb, 5, rowU 15 (byteN B (a + n))), b4] := by
  have HB := Lib.hid hB
  have Hb := Lib.hid hb
  clear hB hb
  go_enter Tryd.func55, Tryd.ntmps55
  go_wp2
  go_loopw [6] (fun k wr => ∃ m : Nat, m ≤ n ∧ k = .int .i64 ((n : Int) - 1 - m) ∧ Has w0 wr [b0, (gi, 3, #[.int .i64 (a + m : Nat)]), (ga, 34, #[.slice (some ⟨gb, 0, none⟩) 15 15]), (gb, 5, rowU 15 (byteN B (a + m))), b4]) (fun k _ => (intOf k + 1).toNat)
  case atStart => exact ⟨0, by omega, by go_num, H⟩
  clear H
  case round =>
    obtain ⟨m, hm, rfl, H⟩ := hrel
    by_cases hlt : m < n
    · have d : decide ((0 : Int) ≤ (n : Int) - 1 - m) = true := le_yes (by omega)
      have hnm : (n : Int) - 1 - m = ((n - 1 - m : Nat) : Int) := by omega
      have hbit := Lib.hid (Hb.out m hlt)
      have hat := Lib.hid (show a + (m + 1) = a + m + 1 by omega)
      have hk : n - 1 - m < 6 := by omega
      have ht : a + m < 112 := by omega
      rw [hnm] at d ⊢
      generalize htt : a + m = t at *
      generalize hkk : n - 1 - m = kk at *
      replace htt := Lib.hid htt
      replace hkk := Lib.hid hkk
      obtain ⟨q, hq⟩ : ∃ q, q = t / 8 := ⟨_, rfl⟩
      obtain ⟨r, hr⟩ : ∃ r, r = t % 8 := ⟨_, rfl⟩
      obtain ⟨s, hs⟩ : ∃ s, s = 7 - r := ⟨_, rfl⟩
      obtain ⟨x, hx⟩ : ∃ x, x = v / 2 ^ kk := ⟨_, rfl⟩
      obtain ⟨y, hy⟩ : ∃ y, y = x % 2 := ⟨_, rfl⟩
      have e8 : IntKind.i64.wrap ((t : Int) / 8) = (q : Int) := by
        rw [IntKind.wrap_i64]; omega
      have er : (t : Int).tmod 8 = (r : Int) := by rw [Int.tmod_eq_emod_of_nonneg (by omega)]; omega
      have es : IntKind.i64.wrap ((7 : Int) - r) = (s : Int) := by rw [IntKind.wrap_i64]; omega
      have eu : IntKind.u64.wrap (s : Int) = s := by rw [IntKind.wrap_u64]; omega
      have ex : (v : Int) / 2 ^ kk = (x : Int) := by rw [hx]; simp
      have ea : bits .and .i64 (x : Int) 1 = (y : Int) := by
        have := Nat.div_le_self v (2 ^ kk)
        rw [bits_and_1 x (by omega), hy]
      have ey : IntKind.u8.wrap (y : Int) = y := by rw [IntKind.wrap_u8]; omega
      have g8 : q < 15 := by omega
      have g9 : (0 : Int) ≤ (q : Int) ∧ (q : Int) < 15 := by omega
      have g9n : (q : Int).toNat = q := by omega
      have g7 : s < 8 := by omega
      have gy : y < 2 := by omega
      have kx : IntKind.u64.wrap (kk : Int) = kk := by rw [IntKind.wrap_u64]; omega
      obtain ⟨z, hz⟩ : ∃ z, z = y * 2 ^ s := ⟨_, rfl⟩
      have hz8 : z < 256 := by
        have h1 : y * 2 ^ s ≤ 1 * 2 ^ 7 := Nat.mul_le_mul (by omega) (Nat.pow_le_pow_right (by omega) (by omega))
        omega
      have e28 : IntKind.u8.wrap ((y : Int) * 2 ^ s) = (z : Int) := by
        have : ((y : Int) * 2 ^ s) = ((y * 2 ^ s : Nat) : Int) := by push_cast; rfl
        rw [this, ← hz, IntKind.wrap_u8]; omega
      have hBt : y = B t := by rw [hy, hx, hbit.out, ← hkk.out]; rfl
      have eo : bits .or .u8 (byteN B t q : Nat) (z : Int) = (byteN B (t + 1) q : Nat) := by
        rw [bits_or_u8 _ _ (byteN_lt HB.out _ _) hz8, hq, byteN_step HB.out t, hz, hBt, hs, hr]
      clear hBt
      replace hz := Lib.hid hz
      replace hq := Lib.hid hq
      replace hr := Lib.hid hr
      replace hs := Lib.hid hs
      replace hx := Lib.hid hx
      replace hy := Lib.hid hy
      clear hnm
      go_wp2
      refine wp_region_text [] (by kernel_rfl) (by kernel_rfl) (by kernel_rfl) ?_; replace H := H.drew; generalize World.drew _ = u at *
      repeat (first | (refine ones_load_one (v := .slice (some ⟨gb, 0, none⟩) 15 15) (o := ⟨_, .load 34 _, _, _, _, _⟩) H 34 _ rfl rfl rfl rfl (by repeat (first | exact List.mem_cons_self | apply List.mem_cons_of_mem | apply List.mem_append_right)) (by kernel_rfl) rfl ?_; simp only [Act.put, List.setIfInBounds_toArray, List.set_cons_zero, List.set_cons_succ]) | (refine ones_load_one (v := .int .i64 (t : Nat)) (o := ⟨_, .load 3 _, _, _, _, _⟩) H 3 _ rfl rfl rfl rfl (by repeat (first | exact List.mem_cons_self | apply List.mem_cons_of_mem | apply List.mem_append_right)) (by kernel_rfl) rfl ?_; simp only [Act.put, List.setIfInBounds_toArray, List.set_cons_zero, List.set_cons_succ]) | (refine ones_load_one (o := ⟨_, .load 5 _, _, _, _, _⟩) H 5 _ rfl rfl rfl rfl (by repeat (first | exact List.mem_cons_self | apply List.mem_cons_of_mem | apply List.mem_append_right)) (by kernel_rfl) (rowU_get _ g8) ?_; simp only [Act.put, List.setIfInBounds_toArray, List.set_cons_zero, List.set_cons_succ]) | (refine ones_free (v := ?_) rfl rfl ?_ ?_; rotate_left; (intro w'; go_simp; try with_reducible rfl); simp only [Act.put, List.setIfInBounds_toArray, List.set_cons_zero, List.set_cons_succ]))
      refine ones_eff (o := ⟨_, .store 5 _ _, _, _, _, _⟩) rfl rfl (fun K hK => ?_)
      refine wp_store_one (l1 := [_, _, _]) (v := .int .u8 (byteN B (t + 1) q : Nat)) (i := q) H 5 _ _ rfl rfl rfl (by kernel_rfl) (by rw [rowU_size]; omega) rfl ?_
      clear H
      intro u H
      refine hK _ _ ?_; clear hK K
      simp only [Act.put, List.setIfInBounds_toArray, List.set_cons_zero, List.set_cons_succ]
      simp only [List.cons_append, List.nil_append] at H
      rw [rowU_set (g := byteN B (t + 1)) _ _ (fun i hi => by
        by_cases e : i = q
        · rw [if_pos e, e]
        · rw [if_neg e, byteN_same (by rw [← hq.out]; exact e)])] at H
      refine ones_nil ?_
      go_wp2_with (first | ((refine wpList_on (o := ⟨_, .load 3 _, _, _, _, _⟩) rfl (fun K hK => ?_)); (try simp only [Act.put, List.setIfInBounds_toArray, List.set_cons_zero, List.set_cons_succ]); refine wp_load_one H 3 _ rfl rfl (by repeat (first | exact List.mem_cons_self | apply List.mem_cons_of_mem | apply List.mem_append_right)) (by kernel_rfl) rfl ?_; refine hK _ _ ?_; clear hK K) | ((refine wpList_on (o := ⟨_, .store 3 _ _, _, _, _, _⟩) rfl (fun K hK => ?_)); (try simp only [Act.put, List.setIfInBounds_toArray, List.set_cons_zero, List.set_cons_succ]); refine wp_store_one (l1 := [_]) H 3 _ _ rfl rfl rfl (by kernel_rfl) (by simp) (by rfl) ?_; clear H; intro u H; refine hK _ _ ?_; clear hK K; try simp only [Value.cells, List.cons_append, List.nil_append] at H))
      go_roundw
      case rel => exact ⟨m + 1, by omega, (by have h1 := hkk.out; congr 1; omega), by rw [hat.out]; exact H⟩
      case measure => simp [intOf]
    · have d : decide ((0 : Int) ≤ (n : Int) - 1 - m) = false := le_no (by omega)
      obtain rfl : m = n := by omega
      go_wp2
      refine bodyPost_end (results_none rfl _ _ _) rfl ?_
      exact ⟨rfl, H⟩
set_option maxHeartbeats 3200000 in
theorem get_any (b : Nat → Nat) (hb : ∀ i, b i < 256) (n a : Nat) (hn : n ≤ 6) (ha : a + n ≤ 112) (w0 u : World) (gb ga gi cap : Nat) (l0 : List (Nat × TypeId × Array Value)) (b3 : Nat × TypeId × Array Value) (hBy : Bytes w0 gb 15 b)
    (H : Has w0 u (l0 ++ [(gi, 3, #[.int .i64 (a : Nat)]), b3, (ga, 34, #[.slice (some ⟨gb, 0, none⟩) 15 cap])])) :
    Calls Tryd.prog 44 #[.int .i64 (n : Nat), .pointer (some ⟨ga, 0, none⟩), .pointer (some ⟨gi, 0, none⟩)] u fun e w' => e = .returned (.int .i64 (valB (bitB b) a n : Nat)) ∧
      Has w0 w' (l0 ++ [(gi, 3, #[.int .i64 (a + n : Nat)]), b3, (ga, 34, #[.slice (some ⟨gb, 0, none⟩) 15 cap])]) := by
  have HB := Lib.hid hb
  have HY := Lib.hid hBy
  clear hb hBy
  go_enter Tryd.func44, Tryd.ntmps44
  go_wp2
  go_loopw [5, 7] (fun v k wr => ∃ m : Nat, m ≤ n ∧ k = .int .i64 m ∧ v = .int .i64 (valB (bitB b) a m : Nat) ∧ Has w0 wr (l0 ++ [(gi, 3, #[.int .i64 (a + m : Nat)]), b3, (ga, 34, #[.slice (some ⟨gb, 0, none⟩) 15 cap])])) (fun _ k _ => n - (intOf k).toNat)
  case atStart => exact ⟨0, by omega, rfl, rfl, H⟩
  clear H
  case round =>
    obtain ⟨m, hm, rfl, rfl, H⟩ := hrel
    by_cases hlt : m < n
    · have hat := Lib.hid (show a + (m + 1) = a + m + 1 by omega)
      have hv := valB_lt (B := bitB b) (s := a) m (fun j _ => bitB_lt b _)
      have hv64 : valB (bitB b) a m < 64 := Nat.lt_of_lt_of_le hv (show 2 ^ m ≤ 2 ^ 6 from Nat.pow_le_pow_right (by omega) (by omega))
      have hval : Hid (valB (bitB b) a (m + 1) = 2 * valB (bitB b) a m + bitB b (a + m)) := rfl
      clear hv
      generalize hvv : valB (bitB b) a m = v at *
      replace hvv := Lib.hid hvv
      have ht : a + m < 112 := by omega
      generalize htt : a + m = t at *
      replace htt := Lib.hid htt
      obtain ⟨q, hq⟩ : ∃ q, q = t / 8 := ⟨_, rfl⟩
      obtain ⟨r, hr⟩ : ∃ r, r = t % 8 := ⟨_, rfl⟩
      obtain ⟨s, hs⟩ : ∃ s, s = 7 - r := ⟨_, rfl⟩
      obtain ⟨x, hx⟩ : ∃ x, x = b q / 2 ^ s := ⟨_, rfl⟩
      obtain ⟨y, hy⟩ : ∃ y, y = x % 2 := ⟨_, rfl⟩
      have e8 : IntKind.i64.wrap ((t : Int) / 8) = (q : Int) := by
        rw [IntKind.wrap_i64]; omega
      have er : (t : Int).tmod 8 = (r : Int) := by rw [Int.tmod_eq_emod_of_nonneg (by omega)]; omega
      have es : IntKind.i64.wrap ((7 : Int) - r) = (s : Int) := by rw [IntKind.wrap_i64]; omega
      have eu : IntKind.u64.wrap (s : Int) = s := by rw [IntKind.wrap_u64]; omega
      have ex : (b q : Int) / 2 ^ s = (x : Int) := by rw [hx]; simp
      have hb8 := HB.out q
      have hx8 : x < 256 := by have := Nat.div_le_self (b q) (2 ^ s); omega
      have ea : bits .and .u8 (x : Int) 1 = (y : Int) := by rw [bits_and_u8 x hx8, hy]
      have g8 : q < 15 := by omega
      have g9 : (0 : Int) ≤ (q : Int) ∧ (q : Int) < 15 := by omega
      have g9n : (q : Int).toNat = q := by omega
      have g7 : s < 8 := by omega
      have gy : y < 2 := by omega
      have hby : Hid (bitB b t = y) := Lib.hid (by unfold bitB; rw [hy, hx, hs, hr, hq])
      have ev : IntKind.i64.wrap ((v : Int) * 2) = ((v : Int) * 2) := by rw [IntKind.wrap_i64]; omega
      have eo : bits .or .i64 ((v : Int) * 2) (y : Int) = ((2 * v + y : Nat) : Int) := by
        have : ∀ v < 64, ∀ y < 2, (v * 2) ||| y = 2 * v + y := by decide +kernel
        have h1 := bits_or_nat (v * 2) y (by omega) (by omega)
        rw [this v hv64 y gy] at h1
        rw [← h1]; push_cast; rfl
      replace hq := Lib.hid hq
      replace hr := Lib.hid hr
      replace hs := Lib.hid hs
      replace hx := Lib.hid hx
      replace hy := Lib.hid hy
      go_wp2
      refine wp_region_text [] (by kernel_rfl) (by kernel_rfl) (by kernel_rfl) ?_; replace H := H.drew; generalize World.drew _ = u at *
      repeat (first | (refine ones_load_one (v := .slice (some ⟨gb, 0, none⟩) 15 cap) (o := ⟨_, .load 34 _, _, _, _, _⟩) H 34 _ rfl rfl rfl rfl (by repeat (first | exact List.mem_cons_self | apply List.mem_cons_of_mem | apply List.mem_append_right)) (by kernel_rfl) rfl ?_; simp only [Act.put, List.setIfInBounds_toArray, List.set_cons_zero, List.set_cons_succ]) | (refine ones_load_one (v := .int .i64 (t : Nat)) (o := ⟨_, .load 3 _, _, _, _, _⟩) H 3 _ rfl rfl rfl rfl (by repeat (first | exact List.mem_cons_self | apply List.mem_cons_of_mem | apply List.mem_append_right)) (by kernel_rfl) rfl ?_; simp only [Act.put, List.setIfInBounds_toArray, List.set_cons_zero, List.set_cons_succ]) | (refine ones_load_cell (o := ⟨_, .load 5 _, _, _, _, _⟩) 5 _ rfl rfl rfl rfl (by kernel_rfl) (H.old_cell (HY.out q g8)) ?_; simp only [Act.put, List.setIfInBounds_toArray, List.set_cons_zero, List.set_cons_succ]) | (refine ones_free (v := ?_) rfl rfl ?_ ?_; rotate_left; (intro w'; go_simp; try with_reducible rfl); simp only [Act.put, List.setIfInBounds_toArray, List.set_cons_zero, List.set_cons_succ]))
      refine ones_nil ?_
      go_wp2_with (first | ((refine wpList_on (o := ⟨_, .load 3 _, _, _, _, _⟩) rfl (fun K hK => ?_)); (try simp only [Act.put, List.setIfInBounds_toArray, List.set_cons_zero, List.set_cons_succ]); refine wp_load_one H 3 _ rfl rfl (by repeat (first | exact List.mem_cons_self | apply List.mem_cons_of_mem | apply List.mem_append_right)) (by kernel_rfl) rfl ?_; refine hK _ _ ?_; clear hK K) | ((refine wpList_on (o := ⟨_, .store 3 _ _, _, _, _, _⟩) rfl (fun K hK => ?_)); refine wp_store_one (l1 := l0) H 3 _ _ rfl rfl rfl (by kernel_rfl) (by simp) (by rfl) ?_; clear H; intro u H; refine hK _ _ ?_; clear hK K))
      go_roundw
      case rel => exact ⟨m + 1, by omega, by go_num, (by rw [hval.out, hby.out]; push_cast; rfl), by rw [hat.out]; exact H⟩
      case measure => simp [intOf]; omega
    · obtain rfl : m = n := by omega
      go_wp2
      go_ret
      exact ⟨rfl, H⟩
end Go.Proofs.YtcoicmbjoaonoaaDoor
