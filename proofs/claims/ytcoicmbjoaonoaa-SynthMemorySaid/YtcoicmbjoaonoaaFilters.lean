/-
  filters, ends walked. No statement is proved here.
-/
import Derived.Test.YtcoicmbjoaonoaaSynth
import Derived.Test.YtcoicmbjoaonoaaLists
import Derived.Test.YtcoicmbjoaonoaaRegTwo
namespace Go.Proofs.Ytcoicmbjoaonoaa
open Go.RowKit
def exA (i : Nat) : Int := if i = 0 then 4096 else if i = 1 then -4096 else 0
def exF (i : Nat) : Int := if i = 0 then 5 else if i = 2 then 1 else 0
def exY (i : Nat) : Int := if i = 2 then 6 else 5
def zeroF (_ : Nat) : Int := 0
theorem ex_out : ∀ i, i < 3 → mkOut exA exF zeroF i = exY i := by decide
theorem ex_past : mk exA exF zeroF 3 0 = 6 := by decide
theorem ex_A : (#[.int .i64 4096, .int .i64 (-4096), .int .i64 0, .int .i64 0, .int .i64 0, .int .i64 0, .int .i64 0, .int .i64 0, .int .i64 0] : Array Value) = row 9 exA := rfl
theorem ex_P : (#[.int .i64 0, .int .i64 0, .int .i64 0, .int .i64 0, .int .i64 0, .int .i64 0, .int .i64 0, .int .i64 0] : Array Value) = row 8 zeroF := rfl
theorem Make_ex (g : Nat) (w u : World) (t : TypeId) (H : Has w u [(g, t, row 3 exF)]) :
    Calls Try.prog 9 #[.agg #[.int .i64 4096, .int .i64 (-4096), .int .i64 0, .int .i64 0, .int .i64 0, .int .i64 0, .int .i64 0, .int .i64 0, .int .i64 0], .agg #[.int .i64 0, .int .i64 0, .int .i64 0, .int .i64 0, .int .i64 0, .int .i64 0, .int .i64 0, .int .i64 0], .slice (some ⟨g, 0, none⟩) 3 3] u (MkPost exA exF zeroF 3 u) := by
  rw [ex_A, ex_P]
  exact Make_any exA zeroF exF _ 3 3 g 0 u (by omega) (fun i hi => by unfold exA; split <;> (try split) <;> omega) (fun i hi => by unfold zeroF In16; omega) (fun i hi => by unfold exF In16; split <;> (try split) <;> omega) rfl (Reads.ofRow H (by repeat (first | exact List.mem_cons_self | apply List.mem_cons_of_mem | apply List.mem_append_right)) (by omega))
set_option maxHeartbeats 1600000 in
theorem filters_any (w : World) : Calls Try.prog 16 #[] w fun e w' => e = .returned (.bool true) ∧ Below w.heap.size w w' := by
  have H := Has.start w
  go_enter Try.func16, Try.ntmps16
  go_wp2_with (first | ((refine wpList_on (o := ⟨some 7, .buildSlice _ _ _, _, _, _, _⟩) rfl (fun K hK => ?_)); refine wp_made H (elem := 3) (n := 3) (cs := row 3 exF) (by kernel_rfl) ?_; clear H; intro u g7 H; refine hK _ _ ?_; clear hK K) | (go_at_call 9; (with_reducible refine (Make_ex _ _ _ _ H).mono ?_); rintro e w1 ⟨v, tl, rfl, RO, hb⟩; obtain ⟨gv, capv, csv, rfl, rfl, hcap, hsz, hcs⟩ := RO.some_ (by omega); clear RO; replace H := H.join hb; clear hb; simp only [List.cons_append, List.nil_append] at H) | (refine wpList_on (o := ⟨some 2, .alloc 23, _, _, _, _⟩) rfl (fun K hK => ?_); refine wp_alloc H 23 rfl (z := (.agg (row 8 fun _ => 0))) (by kernel_rfl) ?_; clear H; intro u gp H; refine hK _ _ ?_; clear hK K; try simp only [Value.cells, List.cons_append, List.nil_append] at H) | ((refine wpList_on (o := ⟨_, .store 23 _ _, _, _, _, _⟩) rfl (fun K hK => ?_)); refine wp_store_all (l1 := []) H 23 _ _ rfl rfl rfl (by kernel_rfl) (by simp [row_size]) (row_one _ _) ?_; clear H; intro u H; refine hK _ _ ?_; clear hK K; try simp only [Value.cells, List.cons_append, List.nil_append] at H) | ((refine wpList_on (o := ⟨some 16, .buildSlice _ _ _, _, _, _, _⟩) rfl (fun K hK => ?_)); refine wp_made H (elem := 3) (n := 3) (cs := row 3 exY) (by kernel_rfl) ?_; clear H; intro u gy H; refine hK _ _ ?_; clear hK K))
  have R1 := Reads.congr (f' := exY) (Reads.ofCells (n := 3) (f := fun i => mkOut exA exF zeroF i) H (g := gv) (cs := csv) (by repeat (first | exact List.mem_cons_self | apply List.mem_cons_of_mem | apply List.mem_append_right)) (fun i hi => hcs i (by omega))) (fun i hi => ex_out i hi)
  have R2 := Reads.ofRow (n := 3) H (g := gy) (f := exY) (m := 3) (by repeat (first | exact List.mem_cons_self | apply List.mem_cons_of_mem | apply List.mem_append_right)) (by omega)
  refine (same_yes _ _ 3 capv gv 0 3 gy 0 exY _ (by omega) R1 R2).mono ?_
  rintro e w1 ⟨rfl, hb⟩
  replace H := H.callee hb
  have E6 := ex_past
  clear hb R1 R2
  go_wp2_with ((refine wpList_on (o := ⟨_, .load 3 _, _, _, _, _⟩) rfl (fun K hK => ?_)); refine wp_load_one H 3 _ rfl rfl (by repeat (first | exact List.mem_cons_self | apply List.mem_cons_of_mem | apply List.mem_append_right)) (by kernel_rfl) (row_get _ (by omega)) ?_; refine hK _ _ ?_; clear hK K)
  go_ret
  exact ⟨rfl, H.below⟩
end Go.Proofs.Ytcoicmbjoaonoaa
