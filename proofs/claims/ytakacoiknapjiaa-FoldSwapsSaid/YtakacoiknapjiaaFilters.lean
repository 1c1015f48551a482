/-
  filters, ends walked. No statement is proved here.
-/
import Derived.Test.YtakacoiknapjiaaSynth
import Derived.Test.YtakacoiknapjiaaLists
import Derived.Test.YtakacoiknapjiaaRegTwo
namespace Go.Proofs.Ytakacoiknapjiaa
open Go.RowKit
def exA (i : Nat) : Int := if i = 0 then 4096 else if i = 1 then -4096 else 0
def exF (i : Nat) : Int := if i = 0 then 5 else if i = 2 then 1 else 0
def exY (i : Nat) : Int := if i = 2 then 6 else 5
def zeroF (_ : Nat) : Int := 0
theorem ex_out : ∀ i, i < 3 → mkOut exA exF zeroF i = exY i := by decide
theorem ex_past : mk exA exF zeroF 3 0 = 6 := by decide
theorem ex_A : (#[.int .i64 4096, .int .i64 (-4096), .int .i64 0, .int .i64 0, .int .i64 0, .int .i64 0, .int .i64 0, .int .i64 0, .int .i64 0] : Array Value) = row 9 exA := rfl
theorem ex_P : (#[.int .i64 0, .int .i64 0, .int .i64 0, .int .i64 0, .int .i64 0, .int .i64 0, .int .i64 0, .int .i64 0] : Array Value) = row 8 zeroF := rfl
theorem Make_ex (g : Nat) (w u : World) (t : TypeId) (H : Has w u [(g, t, row 3 exF)]) :
    Calls Try.prog 19 #[.agg #[.int .i64 4096, .int .i64 (-4096), .int .i64 0, .int .i64 0, .int .i64 0, .int .i64 0, .int .i64 0, .int .i64 0, .int .i64 0], .agg #[.int .i64 0, .int .i64 0, .int .i64 0, .int .i64 0, .int .i64 0, .int .i64 0, .int .i64 0, .int .i64 0], .slice (some ⟨g, 0, none⟩) 3 3] u (MkPost exA exF zeroF 3 u) := by
  rw [ex_A, ex_P]
  exact Make_any exA zeroF exF _ 3 3 g 0 u (by omega) (fun i hi => by unfold exA; split <;> (try split) <;> omega) (fun i hi => by unfold zeroF In16; omega) (fun i hi => by unfold exF In16; split <;> (try split) <;> omega) rfl (Reads.ofRow H (by repeat (first | exact List.mem_cons_self | apply List.mem_cons_of_mem | apply List.mem_append_right)) (by omega))
set_option maxHeartbeats 1600000 in
theorem filters_any (w : World) : Calls Try.prog 20 #[] w fun e w' => e = .returned (.bool true) ∧ Below w.heap.size w w' := by
  have H := Has.start w
  go_enter Try.func20, Try.ntmps20
  go_wp2_with (first | ((refine wpList_on (o := ⟨some 7, .buildSlice _ _ _, _, _, _, _⟩) rfl (fun K hK => ?_)); refine wp_made H (elem := 3) (n := 3) (cs := row 3 exF) (by kernel_rfl) ?_; clear H; intro u g7 H; refine hK _ _ ?_; clear hK K) | (go_at_call 19; (with_reducible refine (Make_ex _ _ _ _ H).mono ?_); rintro e w1 ⟨v, tl, rfl, RO, hb⟩; obtain ⟨gv, capv, csv, rfl, rfl, hcap, hsz, hcs⟩ := RO.some_ (by omega); clear RO; replace H := H.join hb; clear hb; simp only [List.cons_append, List.nil_append] at H) | (refine wpList_on (o := ⟨some 2, .alloc 40, _, _, _, _⟩) rfl (fun K hK => ?_); refine wp_alloc H 40 rfl (z := (.agg (row 8 fun _ => 0))) (by kernel_rfl) ?_; clear H; intro u gp H; refine hK _ _ ?_; clear hK K; try simp only [Value.cells, List.cons_append, List.nil_append] at H) | ((refine wpList_on (o := ⟨_, .store 40 _ _, _, _, _, _⟩) rfl (fun K hK => ?_)); refine wp_store_all (l1 := []) H 40 _ _ rfl rfl rfl (by kernel_rfl) (by simp [row_size]) (row_one _ _) ?_; clear H; intro u H; refine hK _ _ ?_; clear hK K; try simp only [Value.cells, List.cons_append, List.nil_append] at H) | ((refine wpList_on (o := ⟨some 16, .buildSlice _ _ _, _, _, _, _⟩) rfl (fun K hK => ?_)); refine wp_made H (elem := 3) (n := 3) (cs := row 3 exY) (by kernel_rfl) ?_; clear H; intro u gy H; refine hK _ _ ?_; clear hK K))
  have R1 := Reads.congr (f' := exY) (Reads.ofCells (n := 3) (f := fun i => mkOut exA exF zeroF i) H (g := gv) (cs := csv) (by repeat (first | exact List.mem_cons_self | apply List.mem_cons_of_mem | apply List.mem_append_right)) (fun i hi => hcs i (by omega))) (fun i hi => ex_out i hi)
  have R2 := Reads.ofRow (n := 3) H (g := gy) (f := exY) (m := 3) (by repeat (first | exact List.mem_cons_self | apply List.mem_cons_of_mem | apply List.mem_append_right)) (by omega)
  refine (same_yes _ _ 3 capv gv 0 3 gy 0 exY _ (by omega) R1 R2).mono ?_
  rintro e w1 ⟨rfl, hb⟩
  replace H := H.callee hb
  have E6 := ex_past
  clear hb R1 R2
  go_wp2_with ((refine wpList_on (o := ⟨_, .load 3 _, _, _, _, _⟩) rfl (fun K hK => ?_)); refine wp_load_one H 3 _ rfl rfl (by repeat (first | exact List.mem_cons_self | apply List.mem_cons_of_mem | apply List.mem_append_right)) (by kernel_rfl) (row_get _ (by omega)) ?_; refine hK _ _ ?_; clear hK K)
  go_ret
  exact ⟨rfl, H.below⟩
def EndsPost (n : Nat) (f : Nat → Int) (w : World) (e : Ending) (w' : World) : Prop := ∃ r : Bool, e = .returned (.bool r) ∧ (r = false → ∀ i, i < n → Free (f i)) ∧ w = w'
set_option maxHeartbeats 800000 in
/-- ends: if it says no, nothing came to an end. -/
theorem ends_any (P : Option Addr) (n cap b o : Nat) (f : Nat → Int) (w : World) (hn : n ≤ 9223372036854775807) (hR : Reads w P n b o f) :
    Calls Try.prog 22 #[.slice P n cap] w (EndsPost n f w) := by
  go_enter Try.func22, Try.ntmps22
  go_wp2
  go_loop [7] (fun c => ∃ k : Nat, k ≤ n ∧ c = .int .i64 k ∧ Hid (∀ i, i < k → Free (f i))) (fun c => n - (intOf c).toNat)
  case atStart => exact ⟨0, by omega, rfl, fun i hi => by omega⟩
  case round =>
    obtain ⟨k, hk, rfl, HK⟩ := hrel
    by_cases hlt : k < n
    · obtain rfl := hR.ptr (by omega)
      by_cases h1 : f k = 32767
      · have b1 : (f k == 32767) = true := beq_iff_eq.2 h1
        clear h1
        go_wp2_with ((refine wpList_on (o := ⟨_, .load 3 _, _, _, _, _⟩) rfl (fun K hK => ?_)); refine wp_load_num hR 3 _ rfl rfl (by kernel_rfl) hlt ?_; refine hK _ _ ?_; clear hK K)
        go_ret
        exact ⟨true, rfl, (fun h => by cases h), rfl⟩
      · have b1 : (f k == 32767) = false := beq_false_of_ne h1
        by_cases h2 : f k = -32768
        · have b2 : (f k == -32768) = true := beq_iff_eq.2 h2
          clear h1 h2
          go_wp2_with ((refine wpList_on (o := ⟨_, .load 3 _, _, _, _, _⟩) rfl (fun K hK => ?_)); refine wp_load_num hR 3 _ rfl rfl (by kernel_rfl) hlt ?_; refine hK _ _ ?_; clear hK K)
          go_ret
          exact ⟨true, rfl, (fun h => by cases h), rfl⟩
        · have b2 : (f k == -32768) = false := beq_false_of_ne h2
          have HF : Hid (Free (f k)) := ⟨h1, h2⟩
          clear h1 h2
          go_wp2_with ((refine wpList_on (o := ⟨_, .load 3 _, _, _, _, _⟩) rfl (fun K hK => ?_)); refine wp_load_num hR 3 _ rfl rfl (by kernel_rfl) hlt ?_; refine hK _ _ ?_; clear hK K)
          go_round
          case rel => exact ⟨k + 1, by omega, by go_num, fun i hi => by
            by_cases e : i = k
            · subst e; exact HF.out
            · exact HK.out i (by omega)⟩
          case measure => simp [intOf]; omega
    · obtain rfl : k = n := by omega
      go_wp2
      go_ret
      exact ⟨false, rfl, fun _ => HK.out, rfl⟩
end Go.Proofs.Ytakacoiknapjiaa
