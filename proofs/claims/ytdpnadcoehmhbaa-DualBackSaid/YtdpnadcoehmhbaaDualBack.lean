/-
  The walk of DualBack. No statement is proved here.
-/
import Derived.Test.YtdpnadcoehmhbaaDual
namespace Go.Proofs.Ytdpnadcoehmhbaa
open Go.RowKit
theorem andNot1 (n : Int) (h : -9223372036854775808 ≤ n ∧ n ≤ 9223372036854775807) : bits .andNot .i64 n 1 = n - n % 2 := by
  have key : (BitVec.ofInt 64 n &&& ~~~ BitVec.ofInt 64 1) = (BitVec.ofInt 64 n >>> 1) <<< 1 := by
    ext i hi
    cases i with
    | zero => simp
    | succ j =>
      have e1 : (BitVec.ofInt 64 1)[j + 1] = false := by
        rw [show BitVec.ofInt 64 1 = 1#64 from rfl, BitVec.getElem_one]
        simp
      simp only [BitVec.getElem_and, BitVec.getElem_not, e1, Bool.not_false, Bool.and_true, BitVec.getElem_shiftLeft]
      simp [BitVec.getLsbD_ushiftRight, BitVec.getLsbD_eq_getElem, hi, Nat.add_comm 1 j]
  show IntKind.i64.wrap ((BitVec.ofInt 64 n &&& ~~~ BitVec.ofInt 64 1).toNat : Nat) = _
  rw [key, BitVec.toNat_shiftLeft, BitVec.toNat_ushiftRight, BitVec.toNat_ofInt, Nat.shiftLeft_eq, Nat.shiftRight_eq_div_pow, IntKind.wrap_i64]
  omega
theorem Split_in (a : Int) (w : World) (h : -2147483648 ≤ a ∧ a ≤ 2147483647) :
    Calls Try.prog 9 #[.int .i64 a] w fun e w' => e = .returned (.agg #[.int .i64 (a / 65536), .int .i64 (a / 2 % 32768)]) ∧ Below w.heap.size w w' := by
  have := Split_any a w
  rwa [sat32_in h] at this
theorem Split_one (w : World) :
    Calls Try.prog 9 #[.int .i64 65536] w fun e w' => e = .returned (.agg #[.int .i64 1, .int .i64 0]) ∧ Below w.heap.size w w' :=
  Split_in 65536 w (by omega)
theorem dualBack_in (a A B : Int) (w : World) (h1 : -2147483648 ≤ A ∧ A ≤ 2147483647) (hB : B = A - A % 2) (c1 : Calls Try.prog 8 #[.int .i64 a] w fun e w' => e = .returned (.int .i64 A) ∧ w = w') :
    Calls Try.prog 3 #[.int .i64 a] w fun e w' => e = .returned (.bool true) ∧ Below w.heap.size w w' := by
  have H := Has.start w
  have h2 : -2147483648 ≤ B ∧ B ≤ 2147483647 := by omega
  have e1 : bits .andNot .i64 A 1 = B := by rw [andNot1 A (by omega), hB]
  have e2 : B / 65536 * 65536 + B / 2 % 32768 * 2 = B := by omega
  have d1 : decide (0 ≤ B / 2 % 32768) = true := le_yes (by omega)
  have d2 : decide (B / 2 % 32768 ≤ 32767) = true := le_yes (by omega)
  have hf : ∀ (u : World) (x y : Int), (Instr.field 24 (.agg #[.int .i64 x, .int .i64 y]) 0).run Try.prog u = .ok (.int .i64 x) u := by intro u x y; kernel_rfl
  have HB := Lib.hid hB
  clear hB
  go_enter Try.func3, Try.ntmps3
  go_wp2_with (first | (go_at_call 8; (with_reducible refine (c1).mono ?_); rintro e w1 ⟨rfl, rfl⟩) | (go_at_call 9; (with_reducible refine (Split_in B _ h2).mono ?_); rintro e w1 ⟨rfl, hb⟩; replace H := H.callee hb; clear hb) | (go_at_call 9; (with_reducible refine (Split_one _).mono ?_); rintro e w1 ⟨rfl, hb⟩; replace H := H.callee hb; clear hb) | (go_at_call 10; (with_reducible refine (Join_any _ _ _ (by omega) (by omega)).mono ?_); rintro e w1 ⟨rfl, hb⟩; replace H := H.callee hb; clear hb) | (refine wpList_on (o := ⟨some 4, .alloc 24, _, _, _, _⟩) rfl (fun K hK => ?_); refine wp_alloc H 24 rfl (z := .agg #[.int .i64 0, .int .i64 0]) (by kernel_rfl) ?_; clear H; intro u ga H; refine hK _ _ ?_; clear hK K; try simp only [Value.cells, List.cons_append, List.nil_append] at H) | ((refine wpList_on (o := ⟨_, .store 24 _ _, _, _, _, _⟩) rfl (fun K hK => ?_)); refine wp_store_all (l1 := []) H 24 _ _ rfl rfl rfl (by kernel_rfl) (by simp) (by simp [Value.oneCell']) ?_; clear H; intro u H; refine hK _ _ ?_; clear hK K; try simp only [Value.cells, List.cons_append, List.nil_append] at H) | ((refine wpList_on (o := ⟨_, .load 3 _, _, _, _, _⟩) rfl (fun K hK => ?_)); refine wp_load_one H 3 _ rfl rfl (by repeat (first | exact List.mem_cons_self | apply List.mem_cons_of_mem)) (by kernel_rfl) rfl ?_; refine hK _ _ ?_; clear hK K) | ((refine wpList_on (o := ⟨_, .load 24 _, _, _, _, _⟩) rfl (fun K hK => ?_)); refine wp_load_all H 24 _ rfl rfl (by repeat (first | exact List.mem_cons_self | apply List.mem_cons_of_mem)) (by kernel_rfl) ?_; refine hK _ _ ?_; clear hK K))
  go_ret
  exact ⟨rfl, H.below⟩
theorem dualBack_walk (a : Int) (w : World) :
    Calls Try.prog 3 #[.int .i64 a] w fun e w' => e = .returned (.bool true) ∧ Below w.heap.size w w' :=
  dualBack_in a (a % 4294967296 - 2147483648) _ w (by omega) rfl (s32_any a w)
end Go.Proofs.Ytdpnadcoehmhbaa
