/-
  roomy, stayed, scribble; Correlate and Open where the length is wrong. No statement is proved here.
-/
import Derived.Test.YtcoicmbjoaonoaaLists
import Derived.Test.YtcoicmbjoaonoaaLies
import Derived.Test.YtcoicmbjoaonoaaMade
namespace Go.Proofs.Ytcoicmbjoaonoaa
open Go.RowKit
/-- A list with room behind it. -/
def roomF (n : Nat) (f : Nat → Int) (i : Nat) : Int := if i < n then f i else if i = n then -4711 else -4712
def RoomPost (n : Nat) (f : Nat → Int) (w : World) (e : Ending) (w' : World) : Prop := ∃ g, e = .returned (.slice (some ⟨g, 0, none⟩) n (n + 2)) ∧ Has w w' [(g, 3, row (n + 2) (roomF n f))]
set_option maxHeartbeats 1600000 in
theorem roomy_any (P : Nat) (n cap : Nat) (f : Nat → Int) (w : World) (hn : n ≤ 100000) (hR : Reads w (some ⟨P, 0, none⟩) n P 0 f) :
    Calls Try.prog 8 #[.slice (some ⟨P, 0, none⟩) n cap] w (RoomPost n f w) := by
  have H := Has.start w
  have R := Lib.hid hR
  clear hR
  have hz : ((n : Int) + 2).toNat = n + 2 := by omega
  have h1 : n < n + 2 := by omega
  have h2 : n + 1 < n + 2 := by omega
  have h3 : n ≤ n + 2 := by omega
  have hmin : Nat.min n (n + 2) = n := Nat.min_eq_left (by omega)
  have hpat : Hid (patch (row (n + 2) fun _ => 0) 0 (cellsL n fun i => .int .i64 (f i)) = row (n + 2) (fun i => if 0 ≤ i ∧ i < 0 + n then f (i - 0) else 0)) := row_patchL (fun _ => 0) f (by omega)
  go_enter Try.func8, Try.ntmps8
  go_wp2_with (first | ((refine wpList_on (o := ⟨some 7, .makeSlice _ _ _, _, _, _, _⟩) rfl (fun K hK => ?_)); refine wp_make_has (t_ := 24) (e := 3) H _ _ rfl ((n : Int) + 2) .i64 .i64 rfl rfl ?_ ?_ ?_ ?_ ?_; (kernel_rfl); (kernel_rfl); (omega); (omega); (clear H; intro u g H; refine hK _ _ ?_; clear hK K; try simp only [Value.cells, List.cons_append, List.nil_append] at H)) | ((refine wpList_on (o := ⟨_, .call { callee := .builtin .copy, args := #[_, _], argTypes := #[24, 24] }, _, _, _, _⟩) rfl (fun K hK => ?_)); (simp only [hz] at H); refine wp_copy_has (l1 := []) H _ _ 24 24 3 rfl (m := n) (nw := f) rfl rfl (by kernel_rfl) hmin (fun j hj => by have := (R.out.has H).cell j hj; rw [Addr.add_mid]; exact this) (by rw [row_size]; omega) hpat.out ?_; clear H; intro u H; (try simp only [List.nil_append] at H); refine hK _ _ ?_; clear hK K) | ((refine wpList_on (o := ⟨_, .store 3 _ _, _, _, _, _⟩) rfl (fun K hK => ?_)); refine wp_store_row_ (l1 := []) H 3 _ _ rfl rfl rfl (by kernel_rfl) (by omega) ?_; clear H; intro u H; refine hK _ _ ?_; clear hK K; try simp only [Value.cells, List.cons_append, List.nil_append] at H))
  go_ret
  refine ⟨g, rfl, ?_⟩
  have e : row (n + 2) (fun i => if i = n + 1 then -4712 else if i = n then -4711 else if 0 ≤ i ∧ i < 0 + n then f (i - 0) else 0) = row (n + 2) (roomF n f) := row_congr fun i hi => by
    unfold roomF
    by_cases a : i < n
    · rw [if_neg (by omega), if_neg (by omega), if_pos (by omega), if_pos a, Nat.sub_zero]
    · by_cases b : i = n
      · rw [if_neg (by omega), if_pos b, if_neg a, if_pos b]
      · rw [if_pos (by omega), if_neg a, if_neg b]
  rw [← e]
  exact H
set_option maxHeartbeats 1600000 in
/-- What was not changed stayed. -/
theorem stayed_any (g g' : Nat) (n : Nat) (f : Nat → Int) (w : World) (hn : n ≤ 100000) (hA : ∀ i, i < n + 2 → w.cell? ⟨g, i, none⟩ = some (.int .i64 (roomF n f i))) (hR : Reads w (some ⟨g', 0, none⟩) n g' 0 f) :
    Calls Try.prog 17 #[.slice (some ⟨g, 0, none⟩) n (n + 2), .slice (some ⟨g', 0, none⟩) n n] w fun e w' => e = .returned (.bool true) ∧ Below w.heap.size w w' := by
  have H := Has.start w
  have h1 : n < n + 2 := by omega
  have h2 : n + 1 < n + 2 := by omega
  have h3 : n + 2 ≤ n + 2 := by omega
  have q1 := hA n (by omega)
  have q2 := hA (n + 1) (by omega)
  rw [show roomF n f n = -4711 by unfold roomF; rw [if_neg (by omega), if_pos rfl]] at q1
  rw [show roomF n f (n + 1) = -4712 by unfold roomF; rw [if_neg (by omega), if_neg (by omega)]] at q2
  have R1 : Reads w (some ⟨g, 0, none⟩) n g 0 f := ⟨fun _ => rfl, fun i hi => by
    have := hA i (by omega)
    rw [Nat.zero_add, this]; unfold roomF; rw [if_pos hi]⟩
  have c1 := Lib.hid (same_yes (some ⟨g, 0, none⟩) (some ⟨g', 0, none⟩) n (n + 2) g 0 n g' 0 f w (by omega) R1 hR)
  clear R1 hR hA
  go_enter Try.func17, Try.ntmps17
  go_wp2_with (first | (go_at_call 38; (with_reducible refine (c1.out).mono ?_); rintro e w1 ⟨rfl, hb⟩; replace H := H.callee hb; clear hb) | ((refine wpList_on (o := ⟨_, .load 3 _, _, _, _, _⟩) rfl (fun K hK => ?_)); refine wp_load_old H 3 _ rfl rfl (by kernel_rfl) (q1) ?_; refine hK _ _ ?_; clear hK K) | ((refine wpList_on (o := ⟨_, .load 3 _, _, _, _, _⟩) rfl (fun K hK => ?_)); refine wp_load_old H 3 _ rfl rfl (by kernel_rfl) (q2) ?_; refine hK _ _ ?_; clear hK K))
  go_ret
  exact ⟨rfl, H.below⟩
def ScribPost (w0 : World) (bs : List (Nat × TypeId × Array Value)) (e : Ending) (w' : World) : Prop := e = .returned (.tuple #[]) ∧ Has w0 w' bs
set_option maxHeartbeats 3200000 in
theorem scribble_own {w0 u : World} {bs tl : List (Nat × TypeId × Array Value)} {v : Value} {n : Nat} {f : Nat → Int} (hn : n ≤ 100000) (RO0 : Rowed 3 1 v n (fun i => .int .i64 (f i)) tl) (H : Has w0 u (bs ++ tl)) :
    Calls Try.prog 13 #[v] u (ScribPost w0 bs) := by
  obtain ⟨p, cap, rfl, hcap⟩ := RO0.shape
  go_enter Try.func13, Try.ntmps13
  go_wp2
  go_loopw [2] (fun c wr => ∃ (k : Nat) (tl : List (Nat × TypeId × Array Value)), k ≤ n ∧ c = .int .i64 k ∧ Hid (∃ f : Nat → Int, Rowed 3 1 (.slice p n cap) n (fun i => .int .i64 (f i)) tl) ∧ Has w0 wr (bs ++ tl)) (fun c _ => n - (intOf c).toNat)
  case atStart => exact ⟨0, tl, by omega, rfl, ⟨f, RO0⟩, H⟩
  clear H RO0
  case round =>
    obtain ⟨k, tl, hk, rfl, RO, H⟩ := hrel
    obtain ⟨f, RO⟩ := RO.out
    by_cases hlt : k < n
    · rcases RO with ⟨_, h0, _⟩ | ⟨g, cap', cs, hv, rfl, hc1, hc2, hc3, hc4⟩
      · omega
      injection hv with hv1 hv2 hv3
      subst hv1 hv3
      have hks : k < cs.size := by omega
      have RO' : Hid (∃ f : Nat → Int, Rowed 3 1 (.slice (some ⟨g, 0, none⟩) n cap) n (fun i => .int .i64 (f i)) [(g, 3, cs.setIfInBounds k (.int .i64 (-99)))]) := by
        refine ⟨fun i => if i = k then -99 else f i, .inr ⟨g, cap, _, rfl, rfl, hc1, hc2, by simpa using hc3, fun i hi => ?_⟩⟩
        by_cases e : i = k
        · have hi2 : k < cs.size := by omega
          rw [e]
          simp [hi2]
        · rw [Array.getElem?_setIfInBounds_ne (by omega), hc4 i hi]
          simp [e]
      clear RO hc4
      go_wp2_with ((refine wpList_on (o := ⟨_, .store 3 _ _, _, _, _, _⟩) rfl (fun K hK => ?_)); refine wp_store_one (l1 := bs) (l2 := []) H 3 _ _ rfl rfl rfl (by kernel_rfl) hks rfl ?_; clear H; intro u H; refine hK _ _ ?_; clear hK K)
      go_roundw
      case rel => exact ⟨k + 1, _, by omega, by go_num, RO', H⟩
      case measure => simp [intOf]; omega
    · have hlt' : k = n := by omega
      subst hlt'
      go_wp2_with (first | ((refine wpList_on (o := ⟨some 13, .buildSlice _ _ _, _, _, _, _⟩) rfl (fun K hK => ?_)); refine wp_made H (elem := 3) (n := 3) (cs := row 3 (fun _ => -99)) (by kernel_rfl) ?_; clear H; intro u gs H; refine hK _ _ ?_; clear hK K) | ((refine wpList_on (o := ⟨some 14, .call _, _, _, _, _⟩) rfl (fun K hK => ?_)); refine wp_append_has (bs := (gs, 3, row 3 fun _ => -99) :: bs) (e := 3) (s := 1) (B := 8) (m := 3) (nw := fun _ => .int .i64 (-99)) _ _ 24 rfl H RO rfl rfl ?_ ?_ ?_ ?_ ?_; (kernel_rfl); (refine From.block (e := 3) (B := 8) H ?_ List.mem_cons_self ?_ ?_; (kernel_rfl); (intro j hj; exact row_get _ (by omega)); (intro j hj; rfl)); (unfold maxLen; omega); (omega); (clear H; intro v' u tl' RO2 H; obtain ⟨g2, cap2, cs2, rfl, rfl, hc2, hsz2, hcs2⟩ := RO2.some_ (by omega); clear RO2; have hk2 : 0 < cs2.size := (by omega); refine hK _ _ ?_; clear hK K)) | ((refine wpList_on (o := ⟨_, .store 3 _ _, _, _, _, _⟩) rfl (fun K hK => ?_)); refine wp_store_one (l1 := (gs, 3, row 3 fun _ => -99) :: bs) (l2 := []) H 3 _ _ rfl rfl rfl (by kernel_rfl) hk2 rfl ?_; clear H; intro u H; refine hK _ _ ?_; clear hK K))
      refine bodyPost_end (results_none rfl _ _ _) rfl ?_
      exact ⟨rfl, H.sub (List.Sublist.cons _ (List.sublist_append_left _ _))⟩
def SomePost (w : World) (e : Ending) (w' : World) : Prop := ∃ v, e = .returned v ∧ Below w.heap.size w w'
set_option maxRecDepth 100000 in
set_option maxHeartbeats 1600000 in
theorem Correlate_no (P : Option Addr) (n cap : Nat) (w : World) (hn : n ≤ 80) : Calls Try.prog 14 #[.slice P n cap] w (SomePost w) := by
  have H := Has.start w
  have d1 : (n == 120) = false := by simp; omega
  have d2 : ((n : Int) == 120) = false := by simp; omega
  go_enter Try.func14, Try.ntmps14
  go_wp2_with (first | (refine wpList_on (o := ⟨some 2, .alloc 22, _, _, _, _⟩) rfl (fun K hK => ?_); refine wp_alloc H 22 rfl (z := (.agg (row 9 fun _ => 0))) (by kernel_rfl) ?_; clear H; intro u g0 H; refine hK _ _ ?_; clear hK K; try simp only [Value.cells, List.cons_append, List.nil_append] at H) | (refine wpList_on (o := ⟨some 5, .alloc 22, _, _, _, _⟩) rfl (fun K hK => ?_); refine wp_alloc H 22 rfl (z := (.agg (row 9 fun _ => 0))) (by kernel_rfl) ?_; clear H; intro u gr H; refine hK _ _ ?_; clear hK K; try simp only [Value.cells, List.cons_append, List.nil_append] at H) | ((refine wpList_on (o := ⟨_, .load 22 _, _, _, _, _⟩) rfl (fun K hK => ?_)); refine wp_load_all H 22 _ rfl rfl (by repeat (first | exact List.mem_cons_self | apply List.mem_cons_of_mem | apply List.mem_append_right)) (by kernel_rfl) ?_; refine hK _ _ ?_; clear hK K) | ((refine wpList_on (o := ⟨_, .store 22 _ _, _, _, _, _⟩) rfl (fun K hK => ?_)); refine wp_store_all (l1 := [_]) H 22 _ _ rfl rfl rfl (by kernel_rfl) (by simp [row_size]) (row_one _ _) ?_; clear H; intro u H; refine hK _ _ ?_; clear hK K; try simp only [Value.cells, List.cons_append, List.nil_append] at H))
  refine bodyPost_ret (results_has3 rfl _ H rfl (by repeat (first | exact List.mem_cons_self | apply List.mem_cons_of_mem | apply List.mem_append_right)) (by kernel_rfl)) rfl ⟨_, rfl, H.below⟩
theorem Open_no (P : Option Addr) (n cap : Nat) (w : World) (hn : n ≤ 80) : Calls Try.prog 15 #[.slice P n cap] w (SomePost w) := by
  have H := Has.start w
  have d2 : ((n : Int) == 159) = false := by simp; omega
  go_enter Try.func15, Try.ntmps15
  go_wp2
  refine bodyPost_ret (results_tmp2 rfl _ _ _) rfl ?_
  exact ⟨_, rfl, H.below⟩
end Go.Proofs.Ytcoicmbjoaonoaa
