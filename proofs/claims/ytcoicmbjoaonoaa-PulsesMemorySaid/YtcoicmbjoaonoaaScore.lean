/-
  pulses: energies, sign, score, Score walked. No statement is proved here.
-/
import Derived.Test.YtcoicmbjoaonoaaRings
namespace Go.Proofs.Ytcoicmbjoaonoaa
open Go.RowKit
/-- The table of energies behind so many rows and places. -/
def tabS (r : Nat → Int) (a b : Nat) (i : Nat) : Int := if max (i / 40) (i % 40) < a ∨ (max (i / 40) (i % 40) = a ∧ min (i / 40) (i % 40) < b) then energyS r (i / 40) (i % 40) else 0
def tabF (r : Nat → Int) (i : Nat) : Int := energyS r (i / 40) (i % 40)
theorem tab_0 (r : Nat → Int) : row 1600 (tabS r 0 0) = row 1600 (fun _ => 0) := row_congr fun i hi => by unfold tabS; rw [if_neg (by omega)]
theorem tab_all (r : Nat → Int) : row 1600 (tabS r 40 0) = row 1600 (tabF r) := row_congr fun i hi => by unfold tabS tabF; rw [if_pos (by omega)]
theorem tab_next (r : Nat → Int) (a : Nat) : row 1600 (tabS r a (a + 1)) = row 1600 (tabS r (a + 1) 0) := row_congr fun i hi => by
  unfold tabS
  by_cases h : max (i / 40) (i % 40) < a ∨ (max (i / 40) (i % 40) = a ∧ min (i / 40) (i % 40) < a + 1)
  · rw [if_pos h, if_pos (by omega)]
  · rw [if_neg h, if_neg (by omega)]
theorem tab_step (r : Nat → Int) (a b : Nat) (ha : a < 40) (hb : b ≤ a) : row 1600 (fun j => if j = b * 40 + a then energyS r a b else if j = a * 40 + b then energyS r a b else tabS r a b j) = row 1600 (tabS r a (b + 1)) := row_congr fun i hi => by
  unfold tabS
  by_cases h1 : i = b * 40 + a
  · have e1 : i / 40 = b := by omega
    have e2 : i % 40 = a := by omega
    rw [if_pos h1, e1, e2, if_pos (by omega), energy_swap]
  · rw [if_neg h1]
    by_cases h2 : i = a * 40 + b
    · have e1 : i / 40 = a := by omega
      have e2 : i % 40 = b := by omega
      rw [if_pos h2, e1, e2, if_pos (by omega)]
    · rw [if_neg h2]
      by_cases h : max (i / 40) (i % 40) < a ∨ (max (i / 40) (i % 40) = a ∧ min (i / 40) (i % 40) < b)
      · rw [if_pos h, if_pos (by omega)]
      · rw [if_neg h, if_neg (by omega)]
def TabPost (r : Nat → Int) (w : World) (e : Ending) (w' : World) : Prop := ∃ g, e = .returned (.pointer (some ⟨g, 0, none⟩)) ∧ Has w w' [(g, 84, row 1600 (tabF r))]
set_option maxHeartbeats 6400000 in
set_option maxRecDepth 100000 in
theorem energies_any (r : Nat → Int) {v : Value} {w : World} (hr : ∀ i, i < 40 → In16 (r i)) (L : Lies w v 40 r) :
    Calls Try.prog 44 #[v] w (TabPost r w) := by
  obtain ⟨P, cap, g0, o0, rfl, hR⟩ := L
  have H := Has.start w
  have HR := Lib.hid hr
  clear hr
  go_enter Try.func44, Try.ntmps44
  go_wp2_with (refine wpList_on (o := ⟨some 3, .alloc 84, _, _, _, _⟩) rfl (fun K hK => ?_); refine wp_alloc H 84 rfl (z := (.agg (row 1600 fun _ => 0))) (by kernel_rfl) ?_; clear H; intro u g H; refine hK _ _ ?_; clear hK K; try simp only [Value.cells, List.cons_append, List.nil_append] at H)
  rw [← tab_0 r] at H
  go_loopw [8] (fun c wr => ∃ a : Nat, a ≤ 40 ∧ c = .int .i64 a ∧ Has w wr [(g, 84, row 1600 (tabS r a 0))]) (fun c _ => 40 - (intOf c).toNat)
  case atStart => exact ⟨0, by omega, rfl, H⟩
  clear H
  case round =>
    obtain ⟨a, ha, rfl, H⟩ := hrel
    by_cases hlt : a < 40
    · have q1 : (a : Int) < 40 := by omega
      go_wp2
      go_loopw [13] (fun c wr2 => ∃ b : Nat, b ≤ a + 1 ∧ c = .int .i64 b ∧ Has w wr2 [(g, 84, row 1600 (tabS r a b))]) (fun c _ => a + 1 - (intOf c).toNat)
      case atStart => exact ⟨0, by omega, rfl, H⟩
      clear H
      case round =>
        obtain ⟨b, hb, rfl, H⟩ := hrel
        by_cases hba : b ≤ a
        · have c1 := fun (u : World) (hb : Below w.heap.size w u) => Energy_any r P cap g0 o0 a b u HR.out (by omega) (by omega) (hR.below hb)
          have C1 := Lib.hid c1
          have HT := Lib.hid (tab_step r a b hlt hba)
          clear c1
          generalize energyS r a b = E at *
          go_wp2_with (go_at_call 20; (with_reducible refine (C1.out _ H.below).mono ?_); rintro e w1 ⟨rfl, hb⟩; replace H := H.callee hb; clear hb)
          refine wp_region_text [] (by kernel_rfl) (by kernel_rfl) (by kernel_rfl) ?_; replace H := H.drew; generalize World.drew _ = u at *
          have q2 : (b : Int) < 40 := by omega
          have q3 : a < 40 := by omega
          have q4 : b < 40 := by omega
          repeat (first | (refine ones_eff (o := ⟨_, .store 3 _ _, _, _, _, _⟩) rfl rfl (fun K hK => ?_); refine wp_store_row_ (l1 := []) H 3 _ _ rfl rfl rfl (by kernel_rfl) (by omega) ?_; clear H; intro u H; refine hK _ _ ?_; clear hK K; simp only [Act.put, List.setIfInBounds_toArray, List.set_cons_zero, List.set_cons_succ]; try simp only [Value.cells, List.cons_append, List.nil_append] at H) | (refine ones_free (v := ?_) rfl rfl ?_ ?_; rotate_left; (intro w'; go_simp; try with_reducible rfl); simp only [Act.put, List.setIfInBounds_toArray, List.set_cons_zero, List.set_cons_succ]))
          refine ones_nil ?_
          go_wp2
          go_roundw
          case rel => exact ⟨b + 1, by omega, by go_num, by rw [← HT.out]; exact H⟩
          case measure => simp [intOf]; omega
        · obtain rfl : b = a + 1 := by omega
          rw [tab_next] at H
          go_wp2
          go_roundw
          case rel => exact ⟨a + 1, by omega, by go_num, H⟩
          case measure => simp [intOf]; omega
    · obtain rfl : a = 40 := by omega
      rw [tab_all] at H
      go_wp2
      go_ret
      exact ⟨g, rfl, H⟩
def sgI (v : Int) : Int := if v < 0 then -1 else 1
theorem sgI_or (v : Int) : sgI v = 1 ∨ sgI v = -1 := by unfold sgI; split <;> simp
theorem sgI_abs (v : Int) : 0 ≤ sgI v * v := by unfold sgI; split <;> omega
theorem sign_any (v : Int) (w : World) : Calls Try.prog 51 #[.int .i64 v] w fun e w' => e = .returned (.int .i64 (sgI v)) ∧ w = w' := by
  by_cases h : v < 0
  · have e : sgI v = -1 := if_pos h
    go_enter Try.func51, Try.ntmps51
    go_wp2
    go_ret
    exact ⟨by first | rfl | (rw [e]; rfl), rfl⟩
  · have e : sgI v = 1 := if_neg h
    go_enter Try.func51, Try.ntmps51
    go_wp2
    go_ret
    exact ⟨by first | rfl | (rw [e]; rfl), rfl⟩
def atN (x : Nat → Int) (i : Nat) : Nat := i + 4 * (x i).toNat
theorem atN_lt {x : Nat → Int} (hx : ∀ i, i < 4 → 0 ≤ x i ∧ x i ≤ 9) (i : Nat) (hi : i < 4) : atN x i < 40 ∧ (i : Int) + 4 * x i = (atN x i : Nat) := by
  have := hx i hi
  unfold atN
  omega
def scC (d x : Nat → Int) (n : Nat) : Int := sumTo n (fun i => sgI (d (atN x i)) * d (atN x i))
def scR (d T x : Nat → Int) (i n : Nat) : Int := sumTo n (fun j => sgI (d (atN x i)) * sgI (d (atN x j)) * T (atN x i * 40 + atN x j))
def scE (d T x : Nat → Int) (n : Nat) : Int := sumTo n (fun i => scR d T x i 4)
theorem sg_term (a b t B : Int) (h : -B ≤ t ∧ t ≤ B) : -B ≤ sgI a * sgI b * t ∧ sgI a * sgI b * t ≤ B := by
  rcases sgI_or a with e | e <;> rcases sgI_or b with f | f <;> rw [e, f] <;> omega
theorem sg_self (a B : Int) (h : -B ≤ a ∧ a ≤ B) : -B ≤ sgI a * a ∧ sgI a * a ≤ B := by
  rcases sgI_or a with e | e <;> rw [e] <;> omega
theorem scC_bd {d x : Nat → Int} {B : Int} (hd : ∀ i, i < 40 → -B ≤ d i ∧ d i ≤ B) (hx : ∀ i, i < 4 → 0 ≤ x i ∧ x i ≤ 9) (n : Nat) (hn : n ≤ 4) : -(n * B) ≤ scC d x n ∧ scC d x n ≤ n * B :=
  sumTo_bd n fun i hi => sg_self _ _ (hd _ (atN_lt hx i (by omega)).1)
theorem scR_bd {d T x : Nat → Int} {B : Int} (hT : ∀ i, i < 1600 → -B ≤ T i ∧ T i ≤ B) (hx : ∀ i, i < 4 → 0 ≤ x i ∧ x i ≤ 9) (i n : Nat) (hi : i < 4) (hn : n ≤ 4) : -(n * B) ≤ scR d T x i n ∧ scR d T x i n ≤ n * B :=
  sumTo_bd n fun j hj => sg_term _ _ _ _ (hT _ (by
    have := (atN_lt hx i hi).1
    have := (atN_lt hx j (by omega)).1
    omega))
theorem scE_bd {d T x : Nat → Int} {B : Int} (hT : ∀ i, i < 1600 → -B ≤ T i ∧ T i ≤ B) (hx : ∀ i, i < 4 → 0 ≤ x i ∧ x i ≤ 9) (n : Nat) (hn : n ≤ 4) : -(n * (4 * B)) ≤ scE d T x n ∧ scE d T x n ≤ n * (4 * B) :=
  sumTo_bd n fun i hi => by
    have := scR_bd (d := d) hT hx i 4 (by omega) (by omega)
    exact this
def ScorePost (d T x : Nat → Int) (w : World) (e : Ending) (w' : World) : Prop := e = .returned (.tuple #[.int .i64 (scC d x 4), .int .i64 (scE d T x 4)]) ∧ Below w.heap.size w w'
set_option maxHeartbeats 6400000 in
set_option maxRecDepth 100000 in
theorem score_any (d T x : Nat → Int) (P : Option Addr) (cap g o gT : Nat) (w : World) (hd : ∀ i, i < 40 → -1099511627776 ≤ d i ∧ d i ≤ 1099511627776) (hT : ∀ i, i < 1600 → -42949672960 ≤ T i ∧ T i ≤ 42949672960) (hx : ∀ i, i < 4 → 0 ≤ x i ∧ x i ≤ 9)
    (hR1 : Reads w P 40 g o d) (hR2 : Reads w (some ⟨gT, 0, none⟩) 1600 gT 0 T) :
    Calls Try.prog 43 #[.slice P 40 cap, .pointer (some ⟨gT, 0, none⟩), .agg (row 4 x)] w (ScorePost d T x w) := by
  obtain rfl := hR1.ptr (by omega)
  have H := Has.start w
  have HX := Lib.hid hx
  have HD := Lib.hid hd
  have HT := Lib.hid hT
  have HC : Hid (∀ n : Nat, n ≤ 4 → -(n * 1099511627776) ≤ scC d x n ∧ scC d x n ≤ n * 1099511627776) := fun n hn => scC_bd hd hx n hn
  have HE : Hid (∀ n : Nat, n ≤ 4 → -(n * (4 * 42949672960)) ≤ scE d T x n ∧ scE d T x n ≤ n * (4 * 42949672960)) := fun n hn => scE_bd hT hx n hn
  have HB : Hid (∀ i n : Nat, i < 4 → n ≤ 4 → -(n * 42949672960) ≤ scR d T x i n ∧ scR d T x i n ≤ n * 42949672960) := fun i n hi hn => scR_bd hT hx i n hi hn
  clear hx hd hT
  go_enter Try.func43, Try.ntmps43
  go_wp2_with (first | ((refine wpList_on (o := ⟨_, .box _ (.tmp 2), _, _, _, _⟩) rfl (fun K hK => ?_)); refine wp_box H _ (.tmp 2) rfl (v := .agg _) rfl ?_; clear H; intro u gx H; refine hK _ _ ?_; clear hK K; try simp only [Value.cells, List.cons_append, List.nil_append] at H) | ((refine wpList_on (o := ⟨_, .load 47 _, _, _, _, _⟩) rfl (fun K hK => ?_)); refine wp_load_all H 47 _ rfl rfl (by repeat (first | exact List.mem_cons_self | apply List.mem_cons_of_mem | apply List.mem_append_right)) (by kernel_rfl) ?_; refine hK _ _ ?_; clear hK K))
  go_loopw [8, 9, 17] (fun c e v wr => ∃ i : Nat, i ≤ 4 ∧ v = .int .i64 i ∧ c = .int .i64 (scC d x i) ∧ e = .int .i64 (scE d T x i) ∧ Has w wr [(gx, 47, row 4 x)]) (fun _ _ v _ => 4 - (intOf v).toNat)
  case atStart => exact ⟨0, by omega, rfl, rfl, rfl, H⟩
  clear H
  case round =>
    obtain ⟨i, hi, rfl, rfl, rfl, H⟩ := hrel
    by_cases hlt : i < 4
    · have q1 : (i : Int) < 4 := by omega
      have hix := fun w => run_index_row (P := Try.prog) (n := 4) (i := i) Try.underlying47 Try.underlying3 (by kernel_rfl) (by kernel_rfl) x hlt w
      obtain ⟨x0, x1⟩ := HX.out i hlt
      obtain ⟨a0, a1⟩ := atN_lt HX.out i hlt
      obtain ⟨c0, c1⟩ := HC.out i hi
      obtain ⟨e0, e1⟩ := HE.out i hi
      have HN1 : Hid (scC d x (i + 1) = scC d x i + sgI (d (atN x i)) * d (atN x i)) := rfl
      have HN2 : Hid (scE d T x (i + 1) = scE d T x i + scR d T x i 4) := rfl
      have HN3 : Hid (∀ n, scR d T x i (n + 1) = scR d T x i n + sgI (d (atN x i)) * sgI (d (atN x n)) * T (atN x i * 40 + atN x n)) := fun n => rfl
      have HR0 : Hid (scR d T x i 0 = 0) := rfl
      generalize atN x i = A at *
      have q2 : (A : Int) < 40 := by omega
      have q3 : (0 : Int) ≤ (A : Int) := by omega
      obtain ⟨t0, t1⟩ := sg_self (d A) _ (HD.out A a0)
      have s1 : IntKind.i64.wrap (sgI (d A) * d A) = sgI (d A) * d A := IntWalk.i64_in _ (by omega)
      generalize hC : scC d x i = C at *
      generalize hE : scE d T x i = E at *
      clear hC hE
      go_wp2_with fail
      refine wp_region_text [51] (by kernel_rfl) (by kernel_rfl) (by kernel_rfl) ?_; replace H := H.drew; generalize World.drew _ = u at *
      have R1 := Reads.has hR1 H
      repeat (first | (refine ones_load_num R1 (o := ⟨_, .load 3 _, _, _, _, _⟩) 3 _ rfl rfl rfl rfl (by kernel_rfl) a0 ?_; simp only [Act.put, List.setIfInBounds_toArray, List.set_cons_zero, List.set_cons_succ]) | (refine' ones_call (o := ⟨_, .call _, _, _, _, _⟩) rfl rfl _ _; rotate_left; (unfold CallOf; go_simp; exact sign_any _ _); simp only [Act.put, List.setIfInBounds_toArray, List.set_cons_zero, List.set_cons_succ]) | (refine ones_free (v := ?_) rfl rfl ?_ ?_; rotate_left; (intro w'; go_simp; try with_reducible rfl); simp only [Act.put, List.setIfInBounds_toArray, List.set_cons_zero, List.set_cons_succ]))
      refine ones_nil ?_
      clear R1
      go_wp2_with ((refine wpList_on (o := ⟨_, .load 47 _, _, _, _, _⟩) rfl (fun K hK => ?_)); refine wp_load_all H 47 _ rfl rfl (by repeat (first | exact List.mem_cons_self | apply List.mem_cons_of_mem | apply List.mem_append_right)) (by kernel_rfl) ?_; refine hK _ _ ?_; clear hK K)
      go_loopw [9, 38] (fun e v wr2 => ∃ j : Nat, j ≤ 4 ∧ v = .int .i64 j ∧ e = .int .i64 (E + scR d T x i j) ∧ Has w wr2 [(gx, 47, row 4 x)]) (fun _ v _ => 4 - (intOf v).toNat)
      case atStart => exact ⟨0, by omega, rfl, by rw [HR0.out, Int.add_zero], H⟩
      clear H
      case round =>
        obtain ⟨j, hj, rfl, rfl, H⟩ := hrel
        by_cases hltj : j < 4
        · have q4 : (j : Int) < 4 := by omega
          have hix2 := fun w => run_index_row (P := Try.prog) (n := 4) (i := j) Try.underlying47 Try.underlying3 (by kernel_rfl) (by kernel_rfl) x hltj w
          obtain ⟨x2, x3⟩ := HX.out j hltj
          obtain ⟨b0, b1⟩ := atN_lt HX.out j hltj
          obtain ⟨r0, r1⟩ := HB.out i j hlt hj
          have HN4 := Lib.hid (HN3.out j)
          generalize atN x j = B at *
          have hcell : w.cell? ⟨gT, A * 40 + B, none⟩ = some (.int .i64 (T (A * 40 + B))) := by
            have := hR2.cell (A * 40 + B) (by omega)
            rwa [Nat.zero_add] at this
          have HCell := Lib.hid hcell
          obtain ⟨t2, t3⟩ := HT.out (A * 40 + B) (by omega)
          obtain ⟨t4, t5⟩ := sg_term (d A) (d B) _ _ ⟨t2, t3⟩
          clear hcell t2 t3
          generalize T (A * 40 + B) = V at *
          have q5 : (B : Int) < 40 := by omega
          have q6 : (0 : Int) ≤ (B : Int) := by omega
          have s2 : IntKind.i64.wrap (sgI (d A) * sgI (d B)) = sgI (d A) * sgI (d B) := by
            rcases sgI_or (d A) with e | e <;> rcases sgI_or (d B) with f | f <;> rw [e, f] <;> rfl
          have s3 : IntKind.i64.wrap (sgI (d A) * sgI (d B) * V) = sgI (d A) * sgI (d B) * V := IntWalk.i64_in _ (by omega)
          generalize hR : scR d T x i j = R at *
          clear hR
          go_wp2_with fail
          refine wp_region_text [51] (by kernel_rfl) (by kernel_rfl) (by kernel_rfl) ?_; replace H := H.drew; generalize World.drew _ = u at *
          have R1 := Reads.has hR1 H
          repeat (first | (refine ones_load_num R1 (o := ⟨_, .load 3 _, _, _, _, _⟩) 3 _ rfl rfl rfl rfl (by kernel_rfl) a0 ?_; simp only [Act.put, List.setIfInBounds_toArray, List.set_cons_zero, List.set_cons_succ]) | (refine ones_load_num R1 (o := ⟨_, .load 3 _, _, _, _, _⟩) 3 _ rfl rfl rfl rfl (by kernel_rfl) b0 ?_; simp only [Act.put, List.setIfInBounds_toArray, List.set_cons_zero, List.set_cons_succ]) | (refine ones_load_old H (o := ⟨_, .load 3 _, _, _, _, _⟩) 3 _ rfl rfl rfl rfl (by kernel_rfl) HCell.out ?_; simp only [Act.put, List.setIfInBounds_toArray, List.set_cons_zero, List.set_cons_succ]) | (refine' ones_call (o := ⟨_, .call _, _, _, _, _⟩) rfl rfl _ _; rotate_left; (unfold CallOf; go_simp; exact sign_any _ _); simp only [Act.put, List.setIfInBounds_toArray, List.set_cons_zero, List.set_cons_succ]) | (refine ones_free (v := ?_) rfl rfl ?_ ?_; rotate_left; (intro w'; go_simp; try with_reducible rfl); simp only [Act.put, List.setIfInBounds_toArray, List.set_cons_zero, List.set_cons_succ]))
          refine ones_nil ?_
          clear R1
          go_wp2
          go_roundw
          case rel => exact ⟨j + 1, by omega, by go_num, by
            rw [HN4.out]
            generalize sgI (d A) * sgI (d B) * V = q at *
            rw [IntWalk.i64_in (E + R + q) (by omega)]
            congr 1; omega, H⟩
          case measure => simp [intOf]; omega
        · obtain rfl : j = 4 := by omega
          go_wp2
          go_roundw
          case rel => exact ⟨i + 1, by omega, by go_num, by rw [HN1.out], by rw [HN2.out], H⟩
          case measure => simp [intOf]; omega
    · obtain rfl : i = 4 := by omega
      go_wp2
      go_ret2
      exact ⟨rfl, H.below⟩
end Go.Proofs.Ytcoicmbjoaonoaa
