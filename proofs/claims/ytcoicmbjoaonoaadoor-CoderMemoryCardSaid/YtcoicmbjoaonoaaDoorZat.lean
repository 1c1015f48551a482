/-
  Several texts of this claim, one behind the other: Corr, Encode. No statement is proved here.
-/
import Derived.Test.YtcoicmbjoaonoaaDoorZas
import Derived.Test.YtcoicmbjoaonoaaDoorZad
import Derived.Test.YtcoicmbjoaonoaaDoorZaf
import Derived.Test.YtcoicmbjoaonoaaDoorZap
/-
  front.Correlate walked; the walk of CorrelateTop. No statement is proved here.
-/
namespace Go.Proofs.YtcoicmbjoaonoaaDoor
set_option linter.unusedVariables false
set_option linter.unusedSimpArgs false
open Go.RowKit
set_option maxRecDepth 100000
/-- How far the sums are moved. -/
def scQ (n : Int) (x : Int) : Int := if 0 < n then x / 2 ^ n.toNat else x * 2 ^ (-n).toNat
/-- The sums before they are moved. -/
def rawF (w : Nat → Int) (j : Nat) : Int := if j = 0 then corr w 0 120 + 1 else corr w j (120 - j)
theorem corr_all {w : Nat → Int} (hw : ∀ i, i < 120 → -32768 ≤ w i ∧ w i ≤ 32768) (k n : Nat) (h : n + k ≤ 120) : -128849018880 ≤ corr w k n ∧ corr w k n ≤ 128849018880 := by
  have := corr_bd (w := w) (k := k) (n := n) (fun i hi => hw i (by omega))
  omega
theorem raw_0 {w : Nat → Int} (hw : ∀ i, i < 120 → -32768 ≤ w i ∧ w i ≤ 32768) : 1 ≤ rawF w 0 ∧ rawF w 0 ≤ 128849018881 := by
  have h1 := corr_zero_nonneg w 120
  have h2 := corr_all hw 0 120 (by omega)
  unfold rawF
  rw [if_pos rfl]
  omega
theorem raw_k (w : Nat → Int) {k : Nat} (h1 : 1 ≤ k) (h8 : k ≤ 8) : rawF w k < rawF w 0 ∧ -(rawF w 0) < rawF w k := by
  have h := corr_le w k (120 - k)
  rw [show 120 - k + k = 120 by omega] at h
  unfold rawF
  rw [if_neg (by omega), if_pos rfl]
  omega
/-- Moved as far as it goes. -/
def Moved (r0 n : Int) : Prop := -30 ≤ n ∧ n ≤ 6 ∧ 1073741824 ≤ scQ n r0 ∧ scQ n r0 ≤ 2147483647
theorem two_pow_pos (n : Nat) : (0 : Int) < 2 ^ n := Int.pow_pos (by decide)
theorem sc_k {r0 q n : Int} (h : Moved r0 n) (h1 : q < r0) (h2 : -r0 < q) : -(scQ n r0 + 1) ≤ scQ n q ∧ scQ n q ≤ scQ n r0 := by
  unfold scQ at *
  have hp := two_pow_pos n.toNat
  have hp2 := two_pow_pos (-n).toNat
  by_cases hn : 0 < n
  · rw [if_pos hn, if_pos hn]
    constructor
    · have a1 : (-r0) / 2 ^ n.toNat ≤ q / 2 ^ n.toNat := Int.ediv_le_ediv hp (by omega)
      have a2 : -(r0 / 2 ^ n.toNat + 1) ≤ (-r0) / 2 ^ n.toNat := by
        rw [Int.le_ediv_iff_mul_le hp]
        have := Int.emod_lt_of_pos r0 hp
        have := Int.mul_ediv_add_emod r0 (2 ^ n.toNat)
        have e : -(r0 / 2 ^ n.toNat + 1) * 2 ^ n.toNat = -(2 ^ n.toNat * (r0 / 2 ^ n.toNat)) - 2 ^ n.toNat := by
          rw [Int.neg_mul, Int.add_mul, Int.mul_comm]; omega
        omega
      omega
    · exact Int.ediv_le_ediv hp (by omega)
  · rw [if_neg hn, if_neg hn]
    constructor
    · have : -r0 * 2 ^ (-n).toNat ≤ q * 2 ^ (-n).toNat := Int.mul_le_mul_of_nonneg_right (by omega) (by omega)
      rw [Int.neg_mul] at this
      omega
    · exact Int.mul_le_mul_of_nonneg_right (by omega) (by omega)
theorem lessQ_0 (q : Int) : lessQ q 0 = q := by simp [lessQ]
/-- The sums behind k of them. -/
def finF (w : Nat → Int) (n : Int) (k j : Nat) : Int := if j < k then lessQ (scQ n (rawF w j)) j else rawF w j
def CorrPost (w0 : World) (e : Ending) (w' : World) : Prop := ∃ (R : Nat → Int) (n : Int), e = .returned (.tuple #[.agg (row 9 R), .int .i64 n, .int .i64 0]) ∧ (1073741824 ≤ R 0 ∧ R 0 ≤ 2147483647) ∧ (∀ k, 1 ≤ k → k ≤ 8 → R k < R 0 ∧ -(R 0) < R k) ∧ Below w0.heap.size w0 w'
theorem fin_good {w : Nat → Int} {n : Int} (h : Moved (rawF w 0) n) : (1073741824 ≤ finF w n 9 0 ∧ finF w n 9 0 ≤ 2147483647) ∧ ∀ k, 1 ≤ k → k ≤ 8 → finF w n 9 k < finF w n 9 0 ∧ -(finF w n 9 0) < finF w n 9 k := by
  have e0 : finF w n 9 0 = scQ n (rawF w 0) := by unfold finF; rw [if_pos (by omega)]; exact lessQ_0 _
  rw [e0]
  refine ⟨h.2.2, fun k h1 h8 => ?_⟩
  have hk := raw_k w h1 h8
  have hs := sc_k h hk.1 hk.2
  have e1 : finF w n 9 k = lessQ (scQ n (rawF w k)) k := by unfold finF; rw [if_pos (by omega)]
  rw [e1]
  exact lessQ_lt h.2.2.1 (by omega) hs.1 hs.2
theorem pow_small {r0 : Int} {m : Nat} (h1 : 1 ≤ r0) (h : r0 * 2 ^ m < 1073741824) : m < 30 := by
  have hp := two_pow_pos m
  have h2 : 1 * 2 ^ m ≤ r0 * 2 ^ m := Int.mul_le_mul_of_nonneg_right h1 (by omega)
  by_cases hm : m < 30
  · exact hm
  · exfalso
    have h3 : (2 : Nat) ^ 30 ≤ 2 ^ m := Nat.pow_le_pow_right (by omega) (by omega)
    have h4 : ((2 ^ m : Nat) : Int) = (2 : Int) ^ m := by simp
    have h5 : (2 : Nat) ^ 30 = 1073741824 := by decide
    omega
theorem sc_bd {v : Nat → Int} {n : Int} (h : Moved (rawF v 0) n) (k : Nat) (hk : k < 9) : -2147483648 ≤ scQ n (rawF v k) ∧ scQ n (rawF v k) ≤ 2147483647 := by
  have h' := h
  obtain ⟨_, _, h3, h4⟩ := h
  by_cases h0 : k = 0
  · subst h0; omega
  · have hr := raw_k v (k := k) (by omega) (by omega)
    have hs := sc_k h' hr.1 hr.2
    omega
theorem fin_step (v : Nat → Int) (n : Int) (k : Nat) (a b : Int) (h : b = lessQ (scQ n (rawF v k)) k) : row 9 (fun j => if j = k then b else if j = k then a else finF v n k j) = row 9 (finF v n (k + 1)) := row_congr fun j hj => by
  unfold finF
  by_cases e : j = k
  · subst e
    rw [if_pos rfl, if_pos (by omega), h]
  · rw [if_neg e, if_neg e]
    by_cases e2 : j < k
    · rw [if_pos e2, if_pos (by omega)]
    · rw [if_neg e2, if_neg (by omega)]
def accF (w : Nat → Int) (k i j : Nat) : Int := if j < k then corr w j (120 - j) else if j = k then corr w k i else 0
set_option maxHeartbeats 12800000 in
set_option maxRecDepth 100000 in
theorem Correlate_any (f : Nat → Int) (P : Option Addr) (cap g o : Nat) (w : World) (hf : ∀ i, i < 120 → In16 (f i)) (hR : Reads w P 120 g o f) :
    Calls Tryd.prog 34 #[.slice P 120 cap] w (CorrPost w) := by
  obtain rfl := hR.ptr (by omega)
  have H := Has.start w
  have HF := Lib.hid hf
  have HW : Hid (∀ i, i < 120 → -32768 ≤ winS f i ∧ winS f i ≤ 32768) := fun i hi => winS_bd hi (hf i hi)
  have c1 : ∀ w' : World, Below w.heap.size w w' → Calls Tryd.prog 59 #[.slice (some ⟨g, o, none⟩) 120 cap] w' fun e w'' => e = .returned (.bool true) ∧ w' = w'' := fun w' hb => by
    have := right_any (some ⟨g, o, none⟩) 120 cap g o f w' (by omega) (hR.below hb)
    rw [rightB_iff.2 hf] at this; exact this
  have C1 := Lib.hid c1
  clear c1 hf
  go_enter Tryd.func34, Tryd.ntmps34
  go_wp2_with (first | (refine wpList_on (o := ⟨some 2, .alloc 77, _, _, _, _⟩) rfl (fun K hK => ?_); refine wp_alloc H 77 rfl (z := (.agg (row 9 fun _ => 0))) (by kernel_rfl) ?_; clear H; intro u gz H; refine hK _ _ ?_; clear hK K; try simp only [Value.cells, List.cons_append, List.nil_append] at H) | (refine wpList_on (o := ⟨some 5, .alloc 77, _, _, _, _⟩) rfl (fun K hK => ?_); refine wp_alloc H 77 rfl (z := (.agg (row 9 fun _ => 0))) (by kernel_rfl) ?_; clear H; intro u gr H; refine hK _ _ ?_; clear hK K; try simp only [Value.cells, List.cons_append, List.nil_append] at H) | (refine wpList_on (o := ⟨some 6, .alloc 25, _, _, _, _⟩) rfl (fun K hK => ?_); refine wp_alloc H 25 rfl (z := (.agg (row 120 fun _ => 0))) (by kernel_rfl) ?_; clear H; intro u gw H; refine hK _ _ ?_; clear hK K; try simp only [Value.cells, List.cons_append, List.nil_append] at H) | (go_at_call 59; (with_reducible refine (C1.out _ H.below).mono ?_); rintro e w1 ⟨rfl, rfl⟩))
  clear C1
  go_loopw [23] (fun c wr => ∃ k : Nat, k ≤ 120 ∧ c = .int .i64 k ∧ Has w wr [(gw, 25, row 120 fun i => if i < k then winS f i else 0), (gr, 77, row 9 fun _ => 0), (gz, 77, row 9 fun _ => 0)]) (fun c _ => 120 - (intOf c).toNat)
  case atStart => exact ⟨0, by omega, rfl, H⟩
  clear H
  case round =>
    obtain ⟨k, hk, rfl, H⟩ := hrel
    by_cases hlt : k < 120
    · have R := Reads.has hR H
      have HE : Hid ((fun i => if i < k + 1 then winS f i else 0) = fun j => if j = k then winS f k else if j < k then winS f j else 0) := by
        show (fun i => if i < k + 1 then winS f i else 0) = _
        funext i
        by_cases e : i = k
        · subst e; simp
        · have : i < k + 1 ↔ i < k := by omega
          simp [e, this]
      have c2 := fun u : World => Weight_any (k : Int) u (by omega) (by omega)
      have C2 := Lib.hid c2
      clear c2
      obtain ⟨w1, w2⟩ := weight_bd (i := (k : Int)) (by omega) (by omega)
      obtain ⟨f1, f2⟩ := HF.out k hlt
      have m := mul_bd (f k) (weight k) 32768 32767 (by omega) (by omega) (by omega) (by omega)
      obtain ⟨m1, m2⟩ := m
      have HV : Hid ((f k * weight k + 16384) / 32768 = winS f k) := rfl
      have s1 : IntKind.i64.wrap (f k * weight k) = f k * weight k := IntWalk.i64_in _ (by omega)
      generalize weight k = W at *
      go_wp2_with (first | ((refine wpList_on (o := ⟨_, .load 3 _, _, _, _, _⟩) rfl (fun K hK => ?_)); refine wp_load_num R 3 _ rfl rfl (by kernel_rfl) hlt ?_; refine hK _ _ ?_; clear hK K) | (go_at_call 61; (with_reducible refine (C2.out _).mono ?_); rintro e w1 ⟨rfl, rfl⟩) | ((refine wpList_on (o := ⟨_, .store 3 _ _, _, _, _, _⟩) rfl (fun K hK => ?_)); (try simp only [Act.put, List.setIfInBounds_toArray, List.set_cons_zero, List.set_cons_succ]); refine wp_store_row_ (l1 := []) H 3 _ _ rfl rfl rfl (by kernel_rfl) (by omega) ?_; clear H; intro u H; refine hK _ _ ?_; clear hK K; try simp only [Value.cells, List.cons_append, List.nil_append] at H))
      rw [HV.out] at H
      go_roundw
      case rel => exact ⟨k + 1, by omega, by go_num, by rw [HE.out]; exact H⟩
      case measure => simp [intOf]; omega
    · obtain rfl : k = 120 := by omega
      have HE : Hid (row 120 (fun i => if i < 120 then winS f i else 0) = row 120 (winS f)) := row_congr fun i hi => if_pos hi
      rw [HE.out] at H
      clear HE HF hR
      generalize winS f = v at *
      have HA : Hid (∀ k n, n + k ≤ 120 → -128849018880 ≤ corr v k n ∧ corr v k n ≤ 128849018880) := fun k n h => corr_all HW.out k n h
      have HR0 := Lib.hid (raw_0 HW.out)
      have HM : Hid (∀ x y, x < 120 → y < 120 → -1073741824 ≤ v x * v y ∧ v x * v y ≤ 1073741824) := fun x y hx hy => by
        have a := HW.out x hx
        have b := HW.out y hy
        exact mul_bd _ _ 32768 32768 a.1 a.2 b.1 b.2
      clear HW
      have e0 : row 9 (fun _ => 0) = row 9 (accF v 0 0) := row_congr fun i hi => by unfold accF; split <;> (try split) <;> first | omega | rfl
      have HH : Has w wr [(gw, 25, row 120 v), (gr, 77, row 9 (accF v 0 0)), (gz, 77, row 9 fun _ => 0)] := by rw [← e0]; exact H
      clear H e0
      replace H := HH
      clear HH
      go_wp2
      go_loopw [37] (fun c wr => ∃ k : Nat, k ≤ 9 ∧ c = .int .i64 k ∧ Has w wr [(gw, 25, row 120 v), (gr, 77, row 9 (accF v k 0)), (gz, 77, row 9 fun _ => 0)]) (fun c _ => 9 - (intOf c).toNat)
      case atStart => exact ⟨0, by omega, rfl, H⟩
      clear H
      case round =>
        obtain ⟨k, hk, rfl, H⟩ := hrel
        by_cases hlt : k < 9
        · have q1 : (k : Int) < 9 := by omega
          go_wp2
          go_loopw [10] (fun c wr2 => ∃ t : Nat, k ≤ t ∧ t ≤ 120 ∧ c = .int .i64 t ∧ Has w wr2 [(gw, 25, row 120 v), (gr, 77, row 9 (accF v k (t - k))), (gz, 77, row 9 fun _ => 0)]) (fun c _ => 120 - (intOf c).toNat)
          case atStart => exact ⟨k, by omega, by omega, rfl, by rw [Nat.sub_self]; exact H⟩
          clear H
          case round =>
            obtain ⟨t, hkt, ht, rfl, H⟩ := hrel
            obtain ⟨i, hi⟩ : ∃ i, i = t - k := ⟨_, rfl⟩
            rw [← hi] at H
            obtain ⟨b1, b2⟩ := HA.out k i (by omega)
            by_cases hik : t < 120
            · have q3 : IntKind.i64.wrap ((t : Int) - (k : Int)) = (i : Int) := by rw [IntWalk.i64_in _ (by omega)]; omega
              have q2 : (t : Int) < 120 := by omega
              have q4 : i < 120 := by omega
              have q5 : (i : Int) < 120 := by omega
              have ea : accF v k i k = corr v k i := by unfold accF; rw [if_neg (by omega), if_pos rfl]
              have HI : Hid (t + 1 - k = i + 1) := by show t + 1 - k = i + 1; omega
              have HN : Hid (row 9 (accF v k (i + 1)) = row 9 (fun j => if j = k then corr v k i + v t * v i else accF v k i j)) := row_congr fun j hj => by
                unfold accF
                by_cases e : j = k
                · subst e
                  rw [if_neg (by omega), if_pos rfl, if_pos rfl, show t = i + j by omega]; exact rfl
                · simp only [if_neg e]
              obtain ⟨m1, m2⟩ := HM.out t i hik q4
              have s1 : IntKind.i64.wrap (v t * v i) = v t * v i := IntWalk.i64_in _ (by omega)
              clear hi
              generalize hC : corr v k i = C at *
              clear hC
              have s3 : IntKind.i64.wrap (C + v t * v i) = C + v t * v i := IntWalk.i64_in _ (by omega)
              go_wp2_with fail
              refine wp_region_text [] (by kernel_rfl) (by kernel_rfl) (by kernel_rfl) ?_; replace H := H.drew; generalize World.drew _ = u at *
              repeat (first | (refine ones_load_one (o := ⟨_, .load 3 _, _, _, _, _⟩) H 3 _ rfl rfl rfl rfl (by repeat (first | exact List.mem_cons_self | apply List.mem_cons_of_mem | apply List.mem_append_right)) (by kernel_rfl) (row_get _ (by omega)) ?_; simp only [Act.put, List.setIfInBounds_toArray, List.set_cons_zero, List.set_cons_succ]) | (refine ones_eff (o := ⟨_, .store 3 _ _, _, _, _, _⟩) rfl rfl (fun K hK => ?_); refine wp_store_row_ (l1 := [_]) H 3 _ _ rfl rfl rfl (by kernel_rfl) (by omega) ?_; clear H; intro u H; refine hK _ _ ?_; clear hK K; simp only [Act.put, List.setIfInBounds_toArray, List.set_cons_zero, List.set_cons_succ]; try simp only [Value.cells, List.cons_append, List.nil_append] at H) | (refine ones_free (v := ?_) rfl rfl ?_ ?_; rotate_left; (intro w'; go_simp; try with_reducible rfl); simp only [Act.put, List.setIfInBounds_toArray, List.set_cons_zero, List.set_cons_succ]))
              refine ones_nil ?_
              rw [← HN.out] at H
              go_wp2
              go_roundw
              case rel => exact ⟨t + 1, by omega, by omega, by go_num, by rw [HI.out]; exact H⟩
              case measure => simp [intOf]; omega
            · have HN : Hid (row 9 (accF v k i) = row 9 (accF v (k + 1) 0)) := row_congr fun j hj => by
                unfold accF
                by_cases e : j = k
                · subst e
                  rw [if_neg (by omega), if_pos rfl, if_pos (by omega), show i = 120 - j by omega]
                · by_cases e2 : j < k
                  · rw [if_pos e2, if_pos (by omega)]
                  · rw [if_neg e2, if_neg e, if_neg (by omega)]
                    split <;> rfl
              rw [HN.out] at H
              have q2 : (120 : Int) ≤ (t : Int) := by omega
              go_wp2
              go_roundw
              case rel => exact ⟨k + 1, by omega, by go_num, H⟩
              case measure => simp [intOf]; omega
        · obtain rfl : k = 9 := by omega
          have ea : accF v 9 0 0 = corr v 0 120 := by unfold accF; rw [if_pos (by omega)]
          have HN : Hid (row 9 (fun j => if j = 0 then corr v 0 120 + 1 else accF v 9 0 j) = row 9 (rawF v)) := row_congr fun j hj => by
            unfold accF rawF
            by_cases e : j = 0
            · rw [if_pos e, if_pos e]
            · rw [if_neg e, if_neg e, if_pos hj]
          obtain ⟨b1, b2⟩ := HA.out 0 120 (by omega)
          go_wp2_with (first | ((refine wpList_on (o := ⟨_, .load 3 _, _, _, _, _⟩) rfl (fun K hK => ?_)); (try simp only [Act.put, List.setIfInBounds_toArray, List.set_cons_zero, List.set_cons_succ]); refine wp_load_one H 3 _ rfl rfl (by repeat (first | exact List.mem_cons_self | apply List.mem_cons_of_mem | apply List.mem_append_right)) (by kernel_rfl) (row_get _ (by omega)) ?_; refine hK _ _ ?_; clear hK K) | ((refine wpList_on (o := ⟨_, .store 3 _ _, _, _, _, _⟩) rfl (fun K hK => ?_)); (try simp only [Act.put, List.setIfInBounds_toArray, List.set_cons_zero, List.set_cons_succ]); refine wp_store_row_ (l1 := [_]) H 3 _ _ rfl rfl rfl (by kernel_rfl) (by omega) ?_; clear H; intro u H; refine hK _ _ ?_; clear hK K; try simp only [Value.cells, List.cons_append, List.nil_append] at H))
          rw [HN.out] at H
          clear HN ea b1 b2 HM HA
          obtain ⟨b1, b2⟩ := HR0.out
          generalize hr0 : rawF v 0 = r0 at *
          go_loopw [11] (fun c wr => ∃ n : Nat, n ≤ 6 ∧ c = .int .i64 n ∧ (n = 0 ∨ 1073741824 ≤ r0 / 2 ^ n) ∧ Has w wr [(gw, 25, row 120 v), (gr, 77, row 9 (rawF v)), (gz, 77, row 9 fun _ => 0)]) (fun c _ => 7 - (intOf c).toNat)
          case atStart => exact ⟨0, by omega, rfl, .inl rfl, H⟩
          clear H
          case round =>
            obtain ⟨n, hn, rfl, hge, H⟩ := hrel
            have s0 : IntKind.u64.wrap (n : Int) = n := by rw [IntKind.wrap_u64]; omega
            by_cases hbig : 2147483647 < r0 / 2 ^ n
            · have d1 := lt_yes hbig
              have hge2 : Hid (n + 1 ≤ 6 ∧ 1073741824 ≤ r0 / 2 ^ (n + 1)) := by
                show n + 1 ≤ 6 ∧ 1073741824 ≤ r0 / 2 ^ (n + 1)
                have : n = 0 ∨ n = 1 ∨ n = 2 ∨ n = 3 ∨ n = 4 ∨ n = 5 ∨ n = 6 := by omega
                clear hge d1 s0 hr0
                rcases this with rfl | rfl | rfl | rfl | rfl | rfl | rfl <;> simp at hbig ⊢ <;> omega
              clear hge hbig
              go_wp2_with ((refine wpList_on (o := ⟨_, .load 3 _, _, _, _, _⟩) rfl (fun K hK => ?_)); (try simp only [Act.put, List.setIfInBounds_toArray, List.set_cons_zero, List.set_cons_succ]); refine wp_load_one H 3 _ rfl rfl (by repeat (first | exact List.mem_cons_self | apply List.mem_cons_of_mem | apply List.mem_append_right)) (by kernel_rfl) (row_get _ (by omega)) ?_; refine hK _ _ ?_; clear hK K)
              go_roundw
              case rel => exact ⟨n + 1, hge2.out.1, by go_num, .inr hge2.out.2, H⟩
              case measure => simp [intOf]; omega
            · have d1 := lt_no (show r0 / 2 ^ n ≤ 2147483647 by omega)
              go_wp2_with ((refine wpList_on (o := ⟨_, .load 3 _, _, _, _, _⟩) rfl (fun K hK => ?_)); (try simp only [Act.put, List.setIfInBounds_toArray, List.set_cons_zero, List.set_cons_succ]); refine wp_load_one H 3 _ rfl rfl (by repeat (first | exact List.mem_cons_self | apply List.mem_cons_of_mem | apply List.mem_append_right)) (by kernel_rfl) (row_get _ (by omega)) ?_; refine hK _ _ ?_; clear hK K)
              have hst : Hid ((0 < (n : Int) → Moved r0 n) ∧ ((n : Int) ≤ 0 → r0 * 2 ^ (-(n : Int)).toNat ≤ 2147483647)) := by
                refine ⟨fun h => ⟨by omega, by omega, ?_⟩, fun h => ?_⟩
                · unfold scQ
                  rw [if_pos h, Int.toNat_natCast]
                  rcases hge with h0 | h0 <;> omega
                · obtain rfl : n = 0 := by omega
                  simp at hbig ⊢; omega
              clear hge hbig d1 s0
              go_loopw [11] (fun c wr => ∃ N : Int, -30 ≤ N ∧ N ≤ 6 ∧ c = .int .i64 N ∧ Hid ((0 < N → Moved r0 N) ∧ (N ≤ 0 → r0 * 2 ^ (-N).toNat ≤ 2147483647)) ∧ Has w wr [(gw, 25, row 120 v), (gr, 77, row 9 (rawF v)), (gz, 77, row 9 fun _ => 0)]) (fun c _ => (intOf c + 31).toNat)
              case atStart => exact ⟨n, by omega, by omega, rfl, hst, H⟩
              clear H hst
              case round =>
                obtain ⟨N, hN0, hN1, rfl, hst, H⟩ := hrel
                by_cases hpos : 0 < N
                · have HM : Hid (Moved (rawF v 0) N) := by show Moved (rawF v 0) N; rw [hr0]; exact hst.out.1 hpos
                  have d1 := le_no hpos
                  clear hst hr0
                  have s0 : IntKind.u64.wrap N = N := by rw [IntKind.wrap_u64]; omega
                  go_wp2
                  go_loopw [85] (fun c wr => ∃ k : Nat, k ≤ 9 ∧ c = .int .i64 k ∧ Has w wr [(gw, 25, row 120 v), (gr, 77, row 9 (finF v N k)), (gz, 77, row 9 fun _ => 0)]) (fun c _ => 9 - (intOf c).toNat)
                  case atStart => exact ⟨0, by omega, rfl, by
                    have e : row 9 (finF v N 0) = row 9 (rawF v) := row_congr fun j hj => by unfold finF; rw [if_neg (by omega)]
                    rw [e]; exact H⟩
                  clear H
                  case round =>
                    obtain ⟨k, hk, rfl, H⟩ := hrel
                    by_cases hlt : k < 9
                    · have ef : finF v N k k = rawF v k := by unfold finF; rw [if_neg (by omega)]
                      obtain ⟨t1, t2⟩ := sc_bd HM.out k hlt
                      have HQ : Hid (rawF v k / 2 ^ N.toNat = scQ N (rawF v k)) := by show _ = _; unfold scQ; rw [if_pos hpos]
                      have hstep := fun a b h => fin_step v N k a b h
                      have HS := Lib.hid hstep
                      clear hstep
                      have sh : rawF v k / 2 ^ N.toNat = scQ N (rawF v k) := HQ.out
                      generalize scQ N (rawF v k) = q at *
                      obtain ⟨m1, m2⟩ := mul_bd q k 2147483648 8 (by omega) (by omega) (by omega) (by omega)
                      obtain ⟨m3, m4⟩ := mul_bd (q * k) k 17179869184 8 (by omega) (by omega) (by omega) (by omega)
                      have HL : Hid (q - q * k * k / 8192 = lessQ q k) := rfl
                      have s1 : IntKind.i64.wrap (q * k) = q * k := IntWalk.i64_in _ (by omega)
                      have s2 : IntKind.i64.wrap (q * k * k) = q * k * k := IntWalk.i64_in _ (by omega)
                      have s3 : IntKind.i64.wrap (q - q * k * k / 8192) = q - q * k * k / 8192 := IntWalk.i64_in _ (by omega)
                      have ek : (if k = k then q else finF v N k k) = q := if_pos rfl
                      go_wp2_with (first | ((refine wpList_on (o := ⟨_, .load 3 _, _, _, _, _⟩) rfl (fun K hK => ?_)); (try simp only [Act.put, List.setIfInBounds_toArray, List.set_cons_zero, List.set_cons_succ]); refine wp_load_one H 3 _ rfl rfl (by repeat (first | exact List.mem_cons_self | apply List.mem_cons_of_mem | apply List.mem_append_right)) (by kernel_rfl) (row_get _ (by omega)) ?_; refine hK _ _ ?_; clear hK K) | ((refine wpList_on (o := ⟨_, .store 3 _ _, _, _, _, _⟩) rfl (fun K hK => ?_)); (try simp only [Act.put, List.setIfInBounds_toArray, List.set_cons_zero, List.set_cons_succ]); refine wp_store_row_ (l1 := [_]) H 3 _ _ rfl rfl rfl (by kernel_rfl) (by omega) ?_; clear H; intro u H; refine hK _ _ ?_; clear hK K; try simp only [Value.cells, List.cons_append, List.nil_append] at H))
                      refine wp_region_text [] (by kernel_rfl) (by kernel_rfl) (by kernel_rfl) ?_; replace H := H.drew; generalize World.drew _ = u at *
                      repeat (first | (refine ones_load_one (o := ⟨_, .load 3 _, _, _, _, _⟩) H 3 _ rfl rfl rfl rfl (by repeat (first | exact List.mem_cons_self | apply List.mem_cons_of_mem | apply List.mem_append_right)) (by kernel_rfl) (row_get _ (by omega)) ?_; simp only [Act.put, List.setIfInBounds_toArray, List.set_cons_zero, List.set_cons_succ]) | (refine ones_eff (o := ⟨_, .store 3 _ _, _, _, _, _⟩) rfl rfl (fun K hK => ?_); refine wp_store_row_ (l1 := [_]) H 3 _ _ rfl rfl rfl (by kernel_rfl) (by omega) ?_; clear H; intro u H; refine hK _ _ ?_; clear hK K; simp only [Act.put, List.setIfInBounds_toArray, List.set_cons_zero, List.set_cons_succ]; try simp only [Value.cells, List.cons_append, List.nil_append] at H) | (refine ones_free (v := ?_) rfl rfl ?_ ?_; rotate_left; (intro w'; go_simp; try with_reducible rfl); simp only [Act.put, List.setIfInBounds_toArray, List.set_cons_zero, List.set_cons_succ]))
                      refine ones_nil ?_
                      rw [HS.out _ _ HL.out] at H
                      go_wp2
                      go_roundw
                      case rel => exact ⟨k + 1, by omega, by go_num, H⟩
                      case measure => simp [intOf]; omega
                    · obtain rfl : k = 9 := by omega
                      go_wp2_with (first | ((refine wpList_on (o := ⟨_, .load 77 _, _, _, _, _⟩) rfl (fun K hK => ?_)); (try simp only [Act.put, List.setIfInBounds_toArray, List.set_cons_zero, List.set_cons_succ]); refine wp_load_all H 77 _ rfl rfl (by repeat (first | exact List.mem_cons_self | apply List.mem_cons_of_mem | apply List.mem_append_right)) (by kernel_rfl) ?_; refine hK _ _ ?_; clear hK K) | ((refine wpList_on (o := ⟨_, .store 77 _ _, _, _, _, _⟩) rfl (fun K hK => ?_)); (try simp only [Act.put, List.setIfInBounds_toArray, List.set_cons_zero, List.set_cons_succ]); refine wp_store_all (l1 := [_, _]) H 77 _ _ rfl rfl rfl (by kernel_rfl) (by simp [row_size]) (row_one _ _) ?_; clear H; intro u H; refine hK _ _ ?_; clear hK K; try simp only [Value.cells, List.cons_append, List.nil_append] at H))
                      refine bodyPost_ret (results_has3 rfl _ H rfl (by repeat (first | exact List.mem_cons_self | apply List.mem_cons_of_mem | apply List.mem_append_right)) (by kernel_rfl)) rfl ⟨finF v N 9, N, rfl, (fin_good HM.out).1, (fin_good HM.out).2, H.below⟩
                · have s0 : IntKind.u64.wrap (-N) = -N := by rw [IntKind.wrap_u64]; omega
                  by_cases hsm : r0 * 2 ^ (-N).toNat < 1073741824
                  · have HP : Hid (-30 ≤ N - 1 ∧ ((0 < N - 1 → Moved r0 (N - 1)) ∧ (N - 1 ≤ 0 → r0 * 2 ^ (-(N - 1)).toNat ≤ 2147483647))) := by
                      have hm := pow_small b1 hsm
                      refine ⟨by omega, fun h => by omega, fun _ => ?_⟩
                      rw [show (-(N - 1)).toNat = (-N).toNat + 1 by omega, Int.pow_succ, ← Int.mul_assoc]
                      omega
                    have hp := two_pow_pos (-N).toNat
                    have hge : 0 ≤ r0 * 2 ^ (-N).toNat := Int.mul_nonneg (by omega) (by omega)
                    have s1 : wrap64 (r0 * 2 ^ (-N).toNat) = r0 * 2 ^ (-N).toNat := IntWalk.wrap64_in _ (by omega)
                    have d1 := lt_yes hsm
                    have d2 := le_yes (show N ≤ 0 by omega)
                    clear hp hge hsm
                    go_wp2_with ((refine wpList_on (o := ⟨_, .load 3 _, _, _, _, _⟩) rfl (fun K hK => ?_)); (try simp only [Act.put, List.setIfInBounds_toArray, List.set_cons_zero, List.set_cons_succ]); refine wp_load_one H 3 _ rfl rfl (by repeat (first | exact List.mem_cons_self | apply List.mem_cons_of_mem | apply List.mem_append_right)) (by kernel_rfl) (row_get _ (by omega)) ?_; refine hK _ _ ?_; clear hK K)
                    go_roundw
                    case rel => exact ⟨N - 1, HP.out.1, by omega, by go_num, HP.out.2, H⟩
                    case measure => simp [intOf]; omega
                  · have hle := hst.out.2 (by omega)
                    have s1 : wrap64 (r0 * 2 ^ (-N).toNat) = r0 * 2 ^ (-N).toNat := IntWalk.wrap64_in _ (by omega)
                    have HM : Hid (Moved (rawF v 0) N) := by
                      refine ⟨hN0, hN1, ?_⟩
                      unfold scQ
                      rw [if_neg hpos, hr0]
                      omega
                    have d1 := lt_no (show 1073741824 ≤ r0 * 2 ^ (-N).toNat by omega)
                    have d2 := le_yes (show N ≤ 0 by omega)
                    have d3 := lt_no (show N ≤ 0 by omega)
                    clear hst hsm hle
                    go_wp2_with ((refine wpList_on (o := ⟨_, .load 3 _, _, _, _, _⟩) rfl (fun K hK => ?_)); (try simp only [Act.put, List.setIfInBounds_toArray, List.set_cons_zero, List.set_cons_succ]); refine wp_load_one H 3 _ rfl rfl (by repeat (first | exact List.mem_cons_self | apply List.mem_cons_of_mem | apply List.mem_append_right)) (by kernel_rfl) (row_get _ (by omega)) ?_; refine hK _ _ ?_; clear hK K)
                    clear hr0 d1 d2
                    go_loopw [85] (fun c wr => ∃ k : Nat, k ≤ 9 ∧ c = .int .i64 k ∧ Has w wr [(gw, 25, row 120 v), (gr, 77, row 9 (finF v N k)), (gz, 77, row 9 fun _ => 0)]) (fun c _ => 9 - (intOf c).toNat)
                    case atStart => exact ⟨0, by omega, rfl, by
                      have e : row 9 (finF v N 0) = row 9 (rawF v) := row_congr fun j hj => by unfold finF; rw [if_neg (by omega)]
                      rw [e]; exact H⟩
                    clear H
                    case round =>
                      obtain ⟨k, hk, rfl, H⟩ := hrel
                      by_cases hlt : k < 9
                      · have ef : finF v N k k = rawF v k := by unfold finF; rw [if_neg (by omega)]
                        obtain ⟨t1, t2⟩ := sc_bd HM.out k hlt
                        have HQ : Hid (rawF v k * 2 ^ (-N).toNat = scQ N (rawF v k)) := by show _ = _; unfold scQ; rw [if_neg (show ¬ 0 < N by omega)]
                        have hstep := fun a b h => fin_step v N k a b h
                        have HS := Lib.hid hstep
                        clear hstep
                        have sh : wrap64 (rawF v k * 2 ^ (-N).toNat) = scQ N (rawF v k) := by rw [HQ.out]; exact IntWalk.wrap64_in _ (by omega)
                        generalize scQ N (rawF v k) = q at *
                        obtain ⟨m1, m2⟩ := mul_bd q k 2147483648 8 (by omega) (by omega) (by omega) (by omega)
                        obtain ⟨m3, m4⟩ := mul_bd (q * k) k 17179869184 8 (by omega) (by omega) (by omega) (by omega)
                        have HL : Hid (q - q * k * k / 8192 = lessQ q k) := rfl
                        have s1 : IntKind.i64.wrap (q * k) = q * k := IntWalk.i64_in _ (by omega)
                        have s2 : IntKind.i64.wrap (q * k * k) = q * k * k := IntWalk.i64_in _ (by omega)
                        have s3 : IntKind.i64.wrap (q - q * k * k / 8192) = q - q * k * k / 8192 := IntWalk.i64_in _ (by omega)
                        have ek : (if k = k then q else finF v N k k) = q := if_pos rfl
                        go_wp2_with (first | ((refine wpList_on (o := ⟨_, .load 3 _, _, _, _, _⟩) rfl (fun K hK => ?_)); (try simp only [Act.put, List.setIfInBounds_toArray, List.set_cons_zero, List.set_cons_succ]); refine wp_load_one H 3 _ rfl rfl (by repeat (first | exact List.mem_cons_self | apply List.mem_cons_of_mem | apply List.mem_append_right)) (by kernel_rfl) (row_get _ (by omega)) ?_; refine hK _ _ ?_; clear hK K) | ((refine wpList_on (o := ⟨_, .store 3 _ _, _, _, _, _⟩) rfl (fun K hK => ?_)); (try simp only [Act.put, List.setIfInBounds_toArray, List.set_cons_zero, List.set_cons_succ]); refine wp_store_row_ (l1 := [_]) H 3 _ _ rfl rfl rfl (by kernel_rfl) (by omega) ?_; clear H; intro u H; refine hK _ _ ?_; clear hK K; try simp only [Value.cells, List.cons_append, List.nil_append] at H))
                        refine wp_region_text [] (by kernel_rfl) (by kernel_rfl) (by kernel_rfl) ?_; replace H := H.drew; generalize World.drew _ = u at *
                        repeat (first | (refine ones_load_one (o := ⟨_, .load 3 _, _, _, _, _⟩) H 3 _ rfl rfl rfl rfl (by repeat (first | exact List.mem_cons_self | apply List.mem_cons_of_mem | apply List.mem_append_right)) (by kernel_rfl) (row_get _ (by omega)) ?_; simp only [Act.put, List.setIfInBounds_toArray, List.set_cons_zero, List.set_cons_succ]) | (refine ones_eff (o := ⟨_, .store 3 _ _, _, _, _, _⟩) rfl rfl (fun K hK => ?_); refine wp_store_row_ (l1 := [_]) H 3 _ _ rfl rfl rfl (by kernel_rfl) (by omega) ?_; clear H; intro u H; refine hK _ _ ?_; clear hK K; simp only [Act.put, List.setIfInBounds_toArray, List.set_cons_zero, List.set_cons_succ]; try simp only [Value.cells, List.cons_append, List.nil_append] at H) | (refine ones_free (v := ?_) rfl rfl ?_ ?_; rotate_left; (intro w'; go_simp; try with_reducible rfl); simp only [Act.put, List.setIfInBounds_toArray, List.set_cons_zero, List.set_cons_succ]))
                        refine ones_nil ?_
                        rw [HS.out _ _ HL.out] at H
                        go_wp2
                        go_roundw
                        case rel => exact ⟨k + 1, by omega, by go_num, H⟩
                        case measure => simp [intOf]; omega
                      · obtain rfl : k = 9 := by omega
                        go_wp2_with (first | ((refine wpList_on (o := ⟨_, .load 77 _, _, _, _, _⟩) rfl (fun K hK => ?_)); (try simp only [Act.put, List.setIfInBounds_toArray, List.set_cons_zero, List.set_cons_succ]); refine wp_load_all H 77 _ rfl rfl (by repeat (first | exact List.mem_cons_self | apply List.mem_cons_of_mem | apply List.mem_append_right)) (by kernel_rfl) ?_; refine hK _ _ ?_; clear hK K) | ((refine wpList_on (o := ⟨_, .store 77 _ _, _, _, _, _⟩) rfl (fun K hK => ?_)); (try simp only [Act.put, List.setIfInBounds_toArray, List.set_cons_zero, List.set_cons_succ]); refine wp_store_all (l1 := [_, _]) H 77 _ _ rfl rfl rfl (by kernel_rfl) (by simp [row_size]) (row_one _ _) ?_; clear H; intro u H; refine hK _ _ ?_; clear hK K; try simp only [Value.cells, List.cons_append, List.nil_append] at H))
                        refine bodyPost_ret (results_has3 rfl _ H rfl (by repeat (first | exact List.mem_cons_self | apply List.mem_cons_of_mem | apply List.mem_append_right)) (by kernel_rfl)) rfl ⟨finF v N 9, N, rfl, (fin_good HM.out).1, (fin_good HM.out).2, H.below⟩
theorem Correlate_l {f : Nat → Int} {v : Value} {u : World} (hf : ∀ i, i < 120 → In16 (f i)) (L : Lies u v 120 f) : Calls Tryd.prog 34 #[v] u (CorrPost u) := by
  obtain ⟨P, cap, g, o, rfl, R⟩ := L
  exact Correlate_any f P cap g o u hf R
end Go.Proofs.YtcoicmbjoaonoaaDoor
/-
  coder.Encode: what it leaves. No statement is proved here.
-/
namespace Go.Proofs.YtcoicmbjoaonoaaDoor
set_option linter.unusedVariables false
set_option linter.unusedSimpArgs false
open Go.RowKit
set_option maxRecDepth 100000
def kindE (r : Bool) (l q : Nat → Int) : Nat := if r = true then 1 else if sqS (hpOut l (hpOf q)) 80 < 1280 then 2 else 0
structure PkE (P : Nat → Nat) (k : Nat) : Prop where
  most : ∀ j, j < 25 → P j ≤ mostF j
  kind : P 0 = k
  quiet : k = 2 → ∀ i, i < 16 → P (9 + i) = 0
def EncPost (h f : Nat → Int) (k : Nat) (w : World) (e : Ending) (w' : World) : Prop :=
  ∃ (n' : Nat → Int) (P : Nat → Nat) (g : Nat) (v : Value) (tl : List (Nat × TypeId × Array Value)), (∀ i, i < 120 → In16 (n' i)) ∧ PkE P k ∧
    e = .returned (.tuple #[.agg (encA h n' (frM f (packI P)) (frS (packI P))), .slice (some ⟨g, 0, none⟩) 15 15, v, .int .i64 0]) ∧
    Rowed 3 1 v 80 (fun i => .int .i64 (frO f (packI P) i)) tl ∧ Has w w' ((g, 5, rowU 15 (packB P (parP P))) :: tl)
theorem hpF_in {h : HP} (hh : h.good) (i : Nat) : In16 (hpF h i) := by
  obtain ⟨a, b, c, d⟩ := hh
  unfold hpF
  split
  · exact a
  · split
    · exact b
    · split
      · exact c
      · exact d
theorem hpOut_in (l : Nat → Int) (h : HP) (i : Nat) : In16 (hpOut l h i) := sat16_bd _
theorem hpS_in {q l : Nat → Int} (hq : ∀ i, i < 4 → In16 (q i)) (hl : ∀ i, i < 80 → In16 (l i)) (i : Nat) : In16 (hpF (hpS l (hpOf q) 80) i) :=
  hpF_in (hpS_good (n := 80) ⟨hq 0 (by omega), hq 1 (by omega), hq 2 (by omega), hq 3 (by omega)⟩ hl 80 (by omega)) i
theorem inpF_in {n c : Nat → Int} (hn : ∀ i, i < 120 → In16 (n i)) (hc : ∀ i, In16 (c i)) (i : Nat) (hi : i < 120) : In16 (inpF n c i) := by
  unfold inpF
  split
  · exact hn _ (by omega)
  · exact hc _
theorem sub_most {p : Nat → Int} (h : SubOk p) (o : Nat) (ho : o = 9 ∨ o = 17) (i : Nat) (hi : i < 8) : 0 ≤ p i ∧ p i ≤ (mostF (o + i) : Nat) := by
  have m9 : ∀ i, i < 8 → mostF (9 + i) = if i = 0 then 59 else if i = 1 then 7 else if i < 6 then 9 else if i = 6 then 15 else 31 := by decide
  have m17 : ∀ i, i < 8 → mostF (17 + i) = if i = 0 then 59 else if i = 1 then 7 else if i < 6 then 9 else if i = 6 then 15 else 31 := by decide
  have hm : mostF (o + i) = if i = 0 then 59 else if i = 1 then 7 else if i < 6 then 9 else if i = 6 then 15 else 31 := by
    rcases ho with rfl | rfl
    · exact m9 i hi
    · exact m17 i hi
  rw [hm]
  by_cases a : i = 0
  · subst a; rw [if_pos rfl]; exact h.lag
  · rw [if_neg a]
    by_cases b : i = 1
    · subst b; rw [if_pos rfl]; exact h.pitch
    · rw [if_neg b]
      by_cases c : i < 6
      · rw [if_pos c]
        have := h.index (i - 2) (by omega)
        rw [show 2 + (i - 2) = i by omega] at this
        exact this
      · rw [if_neg c]
        by_cases d : i = 6
        · subst d; rw [if_pos rfl]; exact h.signs
        · obtain rfl : i = 7 := by omega
          rw [if_neg d]; exact h.level
theorem pk_most {p : Nat → Int} (h : PkOk p) (j : Nat) (hj : j < 25) : 0 ≤ p j ∧ p j ≤ (mostF j : Nat) := by
  by_cases a : j = 0
  · subst a
    have := h.kind
    have e : ((mostF 0 : Nat) : Int) = 2 := rfl
    omega
  · by_cases b : j < 9
    · have := h.refl (j - 1) (by omega)
      rw [many_most (j - 1) (by omega), show 1 + (j - 1) = j by omega] at this
      omega
    · by_cases c : j < 17
      · have := sub_most h.sub0 9 (.inl rfl) (j - 9) (by omega)
        simp only [show 9 + (j - 9) = j by omega] at this
        exact this
      · have := sub_most h.sub1 17 (.inr rfl) (j - 17) (by omega)
        simp only [show 17 + (j - 17) = j by omega] at this
        exact this
def natP (p : Nat → Int) (j : Nat) : Nat := (p j).toNat
theorem natP_row {p : Nat → Int} (h : PkOk p) : row 25 p = row 25 (packI (natP p)) := row_congr fun i hi => by
  have := pk_most h i hi
  unfold packI natP
  omega
theorem natP_most {p : Nat → Int} (h : PkOk p) (j : Nat) (hj : j < 25) : natP p j ≤ mostF j := by
  have := pk_most h j hj
  unfold natP
  omega
def pkK (c : Int) (k : Nat → Int) (j : Nat) : Int := if j = 0 then c else if j < 9 then k (j - 1) else 0
theorem pkK_refl (c : Int) (k : Nat → Int) : row 8 (fun i => pkK c k (1 + i)) = row 8 k := row_congr fun i hi => by
  unfold pkK
  rw [if_neg (by omega), if_pos (by omega), show 1 + i - 1 = i by omega]
theorem pkK_part (c : Int) (k : Nat → Int) : (row 25 (pkK c k)).extract 1 (1 + 8) = row 8 k := (row_extract _ (by omega)).trans (pkK_refl c k)
theorem pkK_put (k : Nat → Int) : patch (row 25 fun _ => 0) 1 (row 8 k).toList = row 25 (pkK 0 k) := (row_patch _ _ (by omega)).trans (row_congr fun i hi => by
  unfold pkK
  by_cases a : i = 0
  · rw [if_neg (by omega), if_pos a]
  · rw [if_neg a]
    by_cases b : i < 9
    · rw [if_pos (by omega), if_pos b]
    · rw [if_neg (by omega), if_neg b])
theorem pkK_kind (c : Int) (k : Nat → Int) : row 25 (fun j => if j = 0 then c else pkK 0 k j) = row 25 (pkK c k) := row_congr fun i hi => by
  unfold pkK
  by_cases a : i = 0
  · rw [if_pos a, if_pos a]
  · rw [if_neg a, if_neg a, if_neg a]
theorem sub0_ok {p : Nat → Int} (h : ∀ i, i < 8 → p i = 0) : SubOk p := by
  refine ⟨?_, ?_, fun i hi => ?_, ?_, ?_⟩
  · rw [h 0 (by omega)]; omega
  · rw [h 1 (by omega)]; omega
  · rw [h (2 + i) (by omega)]; omega
  · rw [h 6 (by omega)]; omega
  · rw [h 7 (by omega)]; omega
theorem pkK_ok {c : Int} {k : Nat → Int} (hc : c = 0 ∨ c = 1 ∨ c = 2) (hk : ∀ i : Nat, i < 8 → 0 ≤ k i ∧ k i < many i) : PkOk (pkK c k) := by
  refine ⟨?_, fun i hi => ?_, sub0_ok fun i hi => ?_, sub0_ok fun i hi => ?_⟩
  · unfold pkK; rw [if_pos rfl]; exact hc
  · unfold pkK; rw [if_neg (by omega), if_pos (by omega), show 1 + i - 1 = i by omega]; exact hk i hi
  · unfold pkK; rw [if_neg (by omega), if_neg (by omega)]
  · unfold pkK; rw [if_neg (by omega), if_neg (by omega)]
theorem lies_n {w u : World} {bs : List (Nat × TypeId × Array Value)} {g cap n : Nat} {t : TypeId} {cs : Array Value} {f : Nat → Int} (H : Has w u bs) (hm : (g, t, cs) ∈ bs) (h : ∀ i, i < n * 1 → cs[i]? = some (.int .i64 (f i))) : Lies u (.slice (some ⟨g, 0, none⟩) n cap) n f :=
  ⟨_, cap, g, 0, rfl, Reads.ofCells H hm (fun i hi => h i (by omega))⟩
theorem Pack_pk {p : Nat → Int} (h : PkOk p) (u : World) (hW : Widths u) : Calls Tryd.prog 23 #[.agg (row 25 p)] u fun e w' => ∃ g, e = .returned (.tuple #[.slice (some ⟨g, 0, none⟩) 15 15, .int .i64 0]) ∧ Has u w' [(g, 5, rowU 15 (packB (natP p) (parP (natP p))))] := by
  rw [natP_row h]
  exact Pack_any _ u hW (natP_most h)
theorem frame_pk (f : Nat → Int) {p : Nat → Int} (s : Bool) (u : World) (hG : GoodM f) (h : PkOk p) (hT : Roots u) (hP : Gains u) (hW : Widths u) : Calls Tryd.prog 42 #[.agg (memA f s), .agg (row 25 p)] u fun e w' => ∃ v tl, e = .returned (.tuple #[.agg (memA (frM f (packI (natP p))) (frS (packI (natP p)))), v]) ∧ Rowed 3 1 v 80 (fun i => .int .i64 (frO f (packI (natP p)) i)) tl ∧ Has u w' tl := by
  rw [natP_row h]
  exact frame_any f _ s u hG (pkOk_of (natP_most h)) hT hP hW
theorem pke_2 {k : Nat → Int} (hk : ∀ i : Nat, i < 8 → 0 ≤ k i ∧ k i < many i) : PkE (natP (pkK 2 k)) 2 :=
  ⟨natP_most (pkK_ok (.inr (.inr rfl)) hk), rfl, fun _ i _ => by unfold natP pkK; rw [if_neg (by omega), if_neg (by omega)]; rfl⟩
theorem levQE {k : Nat → Int} (h : ∀ i, i < 8 → -32000 < k i ∧ k i < 32000) : ∀ i : Nat, i < 8 → -32768 ≤ k i ∧ k i ≤ 32768 := fun i hi => by have := h i hi; omega
/-- The front half of Encode: what High, Good and quiet answer. -/
structure EncFront (q l f h c : Nat → Int) (s : Bool) (P : Option Addr) (cap : Nat) (w : World) : Prop where
  good : ∀ u : World, Calls Tryd.prog 21 #[.agg (memA f s)] u fun e w' => e = .returned (.bool true) ∧ Below u.heap.size u w'
  high : ∀ u : World, Below w.heap.size w u → Calls Tryd.prog 33 #[.agg (row 4 q), .slice P 80 cap] u fun e w' => ∃ v tl, e = .returned (.tuple #[v, .agg (row 4 h), .int .i64 0]) ∧ Rowed 3 1 v 80 (fun i => .int .i64 (c i)) tl ∧ Has u w' tl
  clean : ∀ i, In16 (c i)
end Go.Proofs.YtcoicmbjoaonoaaDoor
