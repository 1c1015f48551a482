/-
  dual.Split, Join, and the walk of DualBack. No statement is proved here.
-/
import Derived.Test.YtdpnadcoehmhbaaDiv
import Derived.Test.YtdpnadcoehmhbaaSat
namespace Go.Proofs.Ytdpnadcoehmhbaa
open Go.RowKit
theorem s32_any (v : Int) (w : World) : Calls Try.prog 8 #[.int .i64 v] w fun e w' => e = .returned (.int .i64 (v % 4294967296 - 2147483648)) ∧ w = w' := by
  have h1 := Int.emod_nonneg v (show (4294967296 : Int) ≠ 0 by omega)
  have h2 := Int.emod_lt_of_pos v (show (0 : Int) < 4294967296 by omega)
  go_enter Try.func8, Try.ntmps8
  go_wp2_with (first | (go_at_call 11; (with_reducible refine (spot_any _ _ _ (by omega) (by omega)).mono ?_); rintro e w1 ⟨rfl, rfl⟩))
  go_ret
  exact ⟨rfl, rfl⟩
section
variable {P : Program} {u w0 : World} {bs : List (Nat × TypeId × Array Value)} {g : Nat} {t : TypeId} {cs : Array Value}
theorem results_has1 {fn : Func} {p : Tmp} {ty : TypeId} (h : fn.results = #[.cell p ty]) (tmps : Array Value) (H : Has w0 u bs) (hp : tmps.getD p undef = .pointer (some ⟨g, 0, none⟩)) (hm : (g, t, cs) ∈ bs) (ha : aggOf P ty cs.size = true) :
    (results fn tmps).run P u = .ok (.agg cs) u := by
  obtain ⟨d, h1, h2, h3⟩ := aggOf_parts ha
  simp only [results, h]
  simp [Sem.run_bind, Result.andThen, asAddr]
  have hp' : tmps[p]?.getD undef = .pointer (some ⟨g, 0, none⟩) := by simpa using hp
  rw [hp']
  simp [run_loadVar_row u g t ty cs (0, 0) d (H.at_ hm) h1 (by cases d <;> simp_all) h3]
end
theorem good_any (h l : Int) (w : World) (h1 : -32768 ≤ h ∧ h ≤ 32767) (h2 : 0 ≤ l ∧ l ≤ 32767) :
    Calls Try.prog 17 #[.agg #[.int .i64 h, .int .i64 l]] w fun e w' => e = .returned (.bool true) ∧ Below w.heap.size w w' := by
  have H := Has.start w
  have d1 : decide (-32768 ≤ h) = true := le_yes h1.1
  have d2 := le_yes h1.2
  have d3 := le_yes h2.1
  have d4 := le_yes h2.2
  go_enter Try.func17, Try.ntmps17
  go_wp2_with (first | ((refine wpList_on (o := ⟨_, .box _ (.tmp 0), _, _, _, _⟩) rfl (fun K hK => ?_)); refine wp_box H _ (.tmp 0) rfl (v := .agg _) rfl ?_; clear H; intro u ga H; refine hK _ _ ?_; clear hK K; try simp only [Value.cells, List.cons_append, List.nil_append] at H) | ((refine wpList_on (o := ⟨_, .load 3 _, _, _, _, _⟩) rfl (fun K hK => ?_)); refine wp_load_one H 3 _ rfl rfl (by repeat (first | exact List.mem_cons_self | apply List.mem_cons_of_mem)) (by kernel_rfl) rfl ?_; refine hK _ _ ?_; clear hK K))
  go_ret
  exact ⟨rfl, H.below⟩
theorem Join_any (h l : Int) (w : World) (h1 : -32768 ≤ h ∧ h ≤ 32767) (h2 : 0 ≤ l ∧ l ≤ 32767) :
    Calls Try.prog 10 #[.agg #[.int .i64 h, .int .i64 l]] w fun e w' => e = .returned (.tuple #[.int .i64 (h * 65536 + l * 2), .int .i64 0]) ∧ Below w.heap.size w w' := by
  have H := Has.start w
  go_enter Try.func10, Try.ntmps10
  go_wp2_with (first | ((refine wpList_on (o := ⟨_, .box _ (.tmp 0), _, _, _, _⟩) rfl (fun K hK => ?_)); refine wp_box H _ (.tmp 0) rfl (v := .agg _) rfl ?_; clear H; intro u ga H; refine hK _ _ ?_; clear hK K; try simp only [Value.cells, List.cons_append, List.nil_append] at H) | ((refine wpList_on (o := ⟨_, .load 3 _, _, _, _, _⟩) rfl (fun K hK => ?_)); refine wp_load_one H 3 _ rfl rfl (by repeat (first | exact List.mem_cons_self | apply List.mem_cons_of_mem)) (by kernel_rfl) rfl ?_; refine hK _ _ ?_; clear hK K) | ((refine wpList_on (o := ⟨_, .load 24 _, _, _, _, _⟩) rfl (fun K hK => ?_)); refine wp_load_all H 24 _ rfl rfl (by repeat (first | exact List.mem_cons_self | apply List.mem_cons_of_mem)) (by kernel_rfl) ?_; refine hK _ _ ?_; clear hK K) | (go_at_call 17; (with_reducible refine (good_any _ _ _ h1 h2).mono ?_); rintro e w1 ⟨rfl, hb⟩; replace H := H.callee hb; clear hb))
  go_ret2
  exact ⟨rfl, H.below⟩
theorem and15 (n : Int) : bits .and .i64 n 32767 = n % 32768 := by
  have h127 : (BitVec.ofInt 64 32767).toNat = 2 ^ 15 - 1 := by decide
  have key : (BitVec.ofInt 64 n &&& BitVec.ofInt 64 32767).toNat = (n % ((2 ^ 64 : Nat) : Int)).toNat % 2 ^ 15 := by
    rw [BitVec.toNat_and, BitVec.toNat_ofInt, h127, Nat.and_two_pow_sub_one_eq_mod]
  show IntKind.i64.wrap ((BitVec.ofInt 64 n &&& BitVec.ofInt 64 32767).toNat : Nat) = n % 32768
  rw [key, IntKind.wrap_i64]
  omega
theorem Split_any (a : Int) (w : World) :
    Calls Try.prog 9 #[.int .i64 a] w fun e w' => e = .returned (.agg #[.int .i64 (sat32 a / 65536), .int .i64 (sat32 a / 2 % 32768)]) ∧ Below w.heap.size w w' := by
  have H := Has.start w
  have hb := sat32_bd a
  have e1 := and15 (sat32 a / 2)
  go_enter Try.func9, Try.ntmps9
  go_wp2_with (first | (refine wpList_on (o := ⟨some 2, .alloc 24, _, _, _, _⟩) rfl (fun K hK => ?_); refine wp_alloc H 24 rfl (z := .agg #[.int .i64 0, .int .i64 0]) (by kernel_rfl) ?_; clear H; intro u ga H; refine hK _ _ ?_; clear hK K; try simp only [Value.cells, List.cons_append, List.nil_append] at H) | (go_at_call 16; (with_reducible refine (Sat32_any _ _).mono ?_); rintro e w1 ⟨rfl, rfl⟩) | ((refine wpList_on (o := ⟨_, .store 24 _ _, _, _, _, _⟩) rfl (fun K hK => ?_)); refine wp_store_all (l1 := []) H 24 _ _ rfl rfl rfl (by kernel_rfl) (by simp) (by simp [Value.oneCell']) ?_; clear H; intro u H; refine hK _ _ ?_; clear hK K; try simp only [Value.cells, List.cons_append, List.nil_append] at H))
  refine bodyPost_ret (results_has1 rfl _ H rfl (by repeat (first | exact List.mem_cons_self | apply List.mem_cons_of_mem)) (by kernel_rfl)) rfl ⟨rfl, H.below⟩
end Go.Proofs.Ytdpnadcoehmhbaa
