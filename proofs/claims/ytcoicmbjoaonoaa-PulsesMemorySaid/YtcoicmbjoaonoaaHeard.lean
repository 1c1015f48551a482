/-
  pulses.Score, targets walked; sums of scores; the walk of ScoreHeard. No statement is proved here.
-/
import Derived.Test.YtcoicmbjoaonoaaScore
namespace Go.Proofs.Ytcoicmbjoaonoaa
open Go.RowKit
theorem sumTo_mulL (c : Int) (f : Nat → Int) : ∀ n, sumTo n (fun j => c * f j) = c * sumTo n f
  | 0 => by simp [sumTo]
  | n + 1 => by rw [sumTo, sumTo, sumTo_mulL c f n, Int.mul_add]
theorem sumTo_mulR (c : Int) (f : Nat → Int) (n : Nat) : sumTo n (fun j => f j * c) = sumTo n f * c := by
  rw [Int.mul_comm, ← sumTo_mulL]
  exact sumTo_congr n fun i _ => Int.mul_comm _ _
theorem sumTo_comm (f : Nat → Nat → Int) (m : Nat) : ∀ n, sumTo n (fun i => sumTo m (f i)) = sumTo m (fun k => sumTo n (fun i => f i k))
  | 0 => (sumTo_zero m fun _ _ => rfl).symm
  | n + 1 => by
    rw [sumTo, sumTo_comm f m n, ← sumTo_add]
    exact sumTo_congr m fun _ _ => rfl
/-- A ring begun at a sample. -/
def ringA (r : Nat → Int) (a k : Nat) : Int := if k < a then 0 else r (k - a)
theorem energy_dot (r : Nat → Int) {a b : Nat} (ha : a < 40) (hb : b < 40) : energyS r a b = sumTo 40 (fun k => ringA r a k * ringA r b k) := by
  have e : (40 : Nat) = max a b + (40 - max a b) := by omega
  have h : sumTo (max a b + (40 - max a b)) (fun k => ringA r a k * ringA r b k) = energyS r a b := by
    rw [sumTo_split, sumTo_zero (max a b) (fun i hi => by
      unfold ringA
      by_cases h : i < a
      · rw [if_pos h, Int.zero_mul]
      · rw [if_pos (show i < b by omega), Int.mul_zero]), Int.zero_add]
    unfold energyS enS
    exact sumTo_congr _ fun i _ => by
      unfold ringA
      rw [if_neg (by omega), if_neg (by omega)]
  rw [← e] at h
  exact h.symm
def waveS (d r x : Nat → Int) (k : Nat) : Int := sumTo 4 (fun i => sgI (d (atN x i)) * ringA r (atN x i) k)
theorem scE_sq (d r x : Nat → Int) (hx : ∀ i, i < 4 → 0 ≤ x i ∧ x i ≤ 9) : scE d (tabF r) x 4 = sumTo 40 (fun k => waveS d r x k * waveS d r x k) := by
  have h1 : ∀ i, i < 4 → scR d (tabF r) x i 4 = sumTo 40 (fun k => sgI (d (atN x i)) * ringA r (atN x i) k * waveS d r x k) := fun i hi => by
    unfold scR
    have e1 : sumTo 4 (fun j => sgI (d (atN x i)) * sgI (d (atN x j)) * tabF r (atN x i * 40 + atN x j)) = sumTo 4 (fun j => sumTo 40 (fun k => sgI (d (atN x i)) * ringA r (atN x i) k * (sgI (d (atN x j)) * ringA r (atN x j) k))) := sumTo_congr 4 fun j hj => by
      have a1 := (atN_lt hx i hi).1
      have a2 := (atN_lt hx j hj).1
      unfold tabF
      rw [show (atN x i * 40 + atN x j) / 40 = atN x i by omega, show (atN x i * 40 + atN x j) % 40 = atN x j by omega, energy_dot r a1 a2, ← sumTo_mulL]
      exact sumTo_congr 40 fun k _ => by
        generalize sgI (d (atN x i)) = p
        generalize sgI (d (atN x j)) = q
        generalize ringA r (atN x i) k = u
        generalize ringA r (atN x j) k = v
        rw [Int.mul_assoc p u, Int.mul_assoc p q, ← Int.mul_assoc u q v, Int.mul_comm u q, Int.mul_assoc q u v]
    rw [e1, sumTo_comm]
    exact sumTo_congr 40 fun k _ => sumTo_mulL _ _ 4
  unfold scE
  rw [sumTo_congr 4 h1, sumTo_comm]
  exact sumTo_congr 40 fun k _ => sumTo_mulR _ _ 4
theorem scE_nonneg (d r x : Nat → Int) (hx : ∀ i, i < 4 → 0 ≤ x i ∧ x i ≤ 9) : 0 ≤ scE d (tabF r) x 4 := by
  rw [scE_sq d r x hx]
  exact sumTo_nonneg 40 fun k _ => sq_nonneg _
theorem scC_nonneg (d x : Nat → Int) (n : Nat) : 0 ≤ scC d x n := sumTo_nonneg n fun i _ => sgI_abs _
theorem tabF_bd {r : Nat → Int} (hr : ∀ i, i < 40 → In16 (r i)) (i : Nat) (hi : i < 1600) : -42949672960 ≤ tabF r i ∧ tabF r i ≤ 42949672960 := by
  have h := sumTo_bd (f := fun j => r (max (i / 40) (i % 40) + j - i / 40) * r (max (i / 40) (i % 40) + j - i % 40)) (B := 1073741824) (40 - max (i / 40) (i % 40)) (fun j hj => en_term hr _ _ (by omega) (by omega))
  unfold tabF energyS enS
  generalize sumTo (40 - max (i / 40) (i % 40)) _ = S at *
  omega
def Score3Post (d r x : Nat → Int) (w : World) (e : Ending) (w' : World) : Prop := e = .returned (.tuple #[.int .i64 (scC d x 4), .int .i64 (scE d (tabF r) x 4), .int .i64 0]) ∧ Below w.heap.size w w'
set_option maxHeartbeats 6400000 in
set_option maxRecDepth 100000 in
theorem Score_any (d r x : Nat → Int) {v v' : Value} {w : World} (hd : ∀ i, i < 40 → -1099511627776 ≤ d i ∧ d i ≤ 1099511627776) (hr : ∀ i, i < 40 → In16 (r i)) (hx : ∀ i, i < 4 → 0 ≤ x i ∧ x i ≤ 9) (L : Lies w v 40 d) (L' : Lies w v' 40 r) :
    Calls Try.prog 21 #[v, v', .agg (row 4 x)] w (Score3Post d r x w) := by
  have c1 := fun (u : World) (hb : Below w.heap.size w u) => energies_any r (w := u) hr (L'.below hb)
  have c2 := fun (P : Option Addr) (cap g o gT : Nat) (u : World) (h1 : Reads u P 40 g o d) (h2 : Reads u (some ⟨gT, 0, none⟩) 1600 gT 0 (tabF r)) => score_any d (tabF r) x P cap g o gT u hd (fun i hi => tabF_bd hr i hi) hx h1 h2
  obtain ⟨P, cap, g, o, rfl, R⟩ := L
  obtain ⟨P', cap', g', o', rfl, R'⟩ := L'
  have H := Has.start w
  have HX := Lib.hid hx
  have C1 := Lib.hid c1
  have C2 := Lib.hid c2
  clear hx hd hr c1 c2
  go_enter Try.func21, Try.ntmps21
  go_wp2_with (first | ((refine wpList_on (o := ⟨_, .box _ (.tmp 2), _, _, _, _⟩) rfl (fun K hK => ?_)); refine wp_box H _ (.tmp 2) rfl (v := .agg _) rfl ?_; clear H; intro u gx H; refine hK _ _ ?_; clear hK K; try simp only [Value.cells, List.cons_append, List.nil_append] at H) | ((refine wpList_on (o := ⟨_, .load 47 _, _, _, _, _⟩) rfl (fun K hK => ?_)); refine wp_load_all H 47 _ rfl rfl (by repeat (first | exact List.mem_cons_self | apply List.mem_cons_of_mem | apply List.mem_append_right)) (by kernel_rfl) ?_; refine hK _ _ ?_; clear hK K))
  go_loopw [22] (fun v wr => ∃ i : Nat, i ≤ 4 ∧ v = .int .i64 i ∧ Has w wr [(gx, 47, row 4 x)]) (fun v _ => 4 - (intOf v).toNat)
  case atStart => exact ⟨0, by omega, rfl, H⟩
  clear H
  case round =>
    obtain ⟨i, hi, rfl, H⟩ := hrel
    by_cases hlt : i < 4
    · have hix := fun w => run_index_row (P := Try.prog) (n := 4) (i := i) Try.underlying47 Try.underlying3 (by kernel_rfl) (by kernel_rfl) x hlt w
      obtain ⟨x0, x1⟩ := HX.out i hlt
      have d1 := lt_no x0
      have d2 := le_no (show x i < 10 by omega)
      go_wp2
      go_roundw
      case rel => exact ⟨i + 1, by omega, by go_num, H⟩
      case measure => simp [intOf]; omega
    · obtain rfl : i = 4 := by omega
      go_wp2_with fail
      refine wp_region_ordB [] [] (fun w' => Has w w' [(gx, 47, row 4 x)]) [] [[0, 1, 3, 2, 4, 5, 6, 7, 8, 9]] (by kernel_rfl) (by kernel_rfl) (by kernel_rfl) ?_; replace H := H.drew; generalize World.drew _ = u at *; simp only [List.forall_mem_cons, List.not_mem_nil, false_imp_iff, implies_true, and_true]; (repeat' refine And.intro ?_ ?_)
      repeat (first | (refine sq_load_all (o := ⟨_, .load 47 _, _, _, _, _⟩) 47 _ rfl rfl rfl rfl rfl (H.sub (by repeat (first | exact List.Sublist.refl _ | exact List.nil_sublist _ | apply List.Sublist.cons_cons | apply List.Sublist.cons | refine List.Sublist.trans ?_ (List.sublist_append_right _ _)))) (by repeat (first | exact List.mem_cons_self | apply List.mem_cons_of_mem | apply List.mem_append_right)) (by kernel_rfl) ?_; simp only [Act.put, List.setIfInBounds_toArray, List.set_cons_zero, List.set_cons_succ]) | (refine sq_keep (o := ⟨_, .call _, _, _, _, _⟩) rfl rfl rfl (fun K hK => ?_); go_simp; (go_at_call 44; (with_reducible refine (C1.out _ H.below).mono ?_); rintro e u ⟨gT, rfl, hb⟩; replace H := H.join hb; clear hb; (try simp only [List.cons_append, List.nil_append] at H)); refine hK _ _ (H.sub (by repeat (first | exact List.Sublist.refl _ | exact List.nil_sublist _ | apply List.Sublist.cons_cons | apply List.Sublist.cons | refine List.Sublist.trans ?_ (List.sublist_append_right _ _)))) ?_; clear hK K; try simp only [Act.put, List.setIfInBounds_toArray, List.set_cons_zero, List.set_cons_succ]) | (refine sq_keep (o := ⟨_, .call _, _, _, _, _⟩) rfl rfl rfl (fun K hK => ?_); go_simp; (go_at_call 43; (with_reducible refine (C2.out _ _ _ _ _ _ (Reads.has R H) (Reads.ofRow H (by repeat (first | exact List.mem_cons_self | apply List.mem_cons_of_mem | apply List.mem_append_right)) (Nat.le_refl _))).mono ?_); rintro e u ⟨rfl, hb⟩; replace H := H.callee hb; clear hb); refine hK _ _ (H.sub (by repeat (first | exact List.Sublist.refl _ | exact List.nil_sublist _ | apply List.Sublist.cons_cons | apply List.Sublist.cons | refine List.Sublist.trans ?_ (List.sublist_append_right _ _)))) ?_; clear hK K; try simp only [Act.put, List.setIfInBounds_toArray, List.set_cons_zero, List.set_cons_succ]) | (refine sq_free (o := ⟨_, _, _, _, _, _⟩) (v := ?_) rfl rfl rfl ?_ ?_; rotate_left; (intro w'; go_simp; try with_reducible rfl); simp only [Act.put, List.setIfInBounds_toArray, List.set_cons_zero, List.set_cons_succ]))
      refine sq_nil ?_
      go_wp2
      go_ret3
      exact ⟨rfl, H.below⟩
end Go.Proofs.Ytcoicmbjoaonoaa
