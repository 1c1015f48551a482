/-
  pulses: sat, At, Build, Energy walked; rings; the walk of EnergySwaps. No statement is proved here.
-/
import Derived.Test.YtcoicmbjoaonoaaLies
import Derived.Test.YtcoicmbjoaonoaaCorrLaw
namespace Go.Proofs.Ytcoicmbjoaonoaa
open Go.RowKit
theorem pulsesSat_any (x : Int) (w : World) : Calls Try.prog 39 #[.int .i64 x] w fun e w' => e = .returned (.int .i64 (sat16 x)) ∧ w = w' := by
  go_enter Try.func39, Try.ntmps39
  go_wp2_with (go_at_call 47; (with_reducible refine (Sat16_any _ _).mono ?_); rintro e w1 ⟨rfl, rfl⟩)
  go_ret
  exact ⟨rfl, rfl⟩
theorem pulsesSat_in (x : Int) (w : World) (h : In16 x) : Calls Try.prog 39 #[.int .i64 x] w fun e w' => e = .returned (.int .i64 x) ∧ w = w' := by
  have := pulsesSat_any x w
  rw [sat16_in h] at this; exact this
theorem At_any (t p : Int) (w : World) (h0 : 0 ≤ t) (h1 : t ≤ 3) (h2 : 0 ≤ p) (h3 : p ≤ 9) : Calls Try.prog 52 #[.int .i64 t, .int .i64 p] w fun e w' => e = .returned (.tuple #[.int .i64 (t + 4 * p), .int .i64 0]) ∧ w = w' := by
  have d1 := lt_no h0
  have d2 := le_no (show t < 4 by omega)
  have d3 := lt_no h2
  have d4 := le_no (show p < 10 by omega)
  go_enter Try.func52, Try.ntmps52
  go_wp2
  go_ret2
  exact ⟨rfl, rfl⟩
/-- The samples of pulses. -/
def buildS (x : Nat → Int) (s z : Int) (k : Nat) (i : Nat) : Int := if i % 4 < k ∧ x (i % 4) = (i / 4 : Nat) then (if s.toNat / 2 ^ (i % 4) % 2 = 1 then z else -z) else 0
theorem build_step (x : Nat → Int) (s z : Int) (k : Nat) (hk : k < 4) (hx : 0 ≤ x k ∧ x k ≤ 9) (v : Int) (hv : v = if s.toNat / 2 ^ k % 2 = 1 then z else -z) :
    row 40 (buildS x s z (k + 1)) = row 40 (fun j => if j = k + 4 * (x k).toNat then v else buildS x s z k j) := row_congr fun i hi => by
  unfold buildS
  by_cases e : i = k + 4 * (x k).toNat
  · have h1 : i % 4 = k := by omega
    have h2 : i / 4 = (x k).toNat := by omega
    rw [if_pos e, h1, h2, if_pos ⟨by omega, by omega⟩, hv]
  · rw [if_neg e]
    by_cases h1 : i % 4 < k + 1 ∧ x (i % 4) = (i / 4 : Nat)
    · have h2 : i % 4 ≠ k := fun h2 => by
        rw [h2] at h1
        exact e (by omega)
      have h3 : i % 4 < k ∧ x (i % 4) = (i / 4 : Nat) := ⟨by omega, h1.2⟩
      rw [if_pos h1, if_pos h3]
    · have h3 : ¬ (i % 4 < k ∧ x (i % 4) = (i / 4 : Nat)) := fun h => h1 ⟨by omega, h.2⟩
      rw [if_neg h1, if_neg h3]
theorem twice_row (I : Nat) (u v : Int) (f : Nat → Int) : row 40 (fun j => if j = I then u else f j) = row 40 (fun j => if j = I then u else if j = I then v else f j) := row_congr fun i _ => by
  by_cases h : i = I
  · rw [if_pos h, if_pos h]
  · rw [if_neg h, if_neg h, if_neg h]
theorem and_one (n : Nat) (h : n < 9223372036854775808) : bits .and .i64 (n : Int) 1 = ((n % 2 : Nat) : Int) := by
  have h127 : (BitVec.ofInt 64 1).toNat = 2 ^ 1 - 1 := by decide
  show IntKind.i64.wrap ((BitVec.ofInt 64 (n : Int) &&& BitVec.ofInt 64 1).toNat : Nat) = _
  rw [BitVec.toNat_and, h127, Nat.and_two_pow_sub_one_eq_mod, BitVec.ofInt_natCast, BitVec.toNat_ofNat, IntKind.wrap_i64]
  omega
def BuildPost (x : Nat → Int) (s z : Int) (w : World) (e : Ending) (w' : World) : Prop := ∃ g, e = .returned (.tuple #[.slice (some ⟨g, 0, none⟩) 40 40, .int .i64 0]) ∧ Has w w' [(g, 3, row 40 (buildS x s z 4))]
set_option maxHeartbeats 3200000 in
theorem Build_any (x : Nat → Int) (s z : Int) (w : World) (hx : ∀ i, i < 4 → 0 ≤ x i ∧ x i ≤ 9) (hs0 : 0 ≤ s) (hs : s ≤ 15) (hz0 : 0 ≤ z) (hz : z ≤ 32767) :
    Calls Try.prog 46 #[.agg (row 4 x), .int .i64 s, .int .i64 z] w (BuildPost x s z w) := by
  have H := Has.start w
  have HX := Lib.hid hx
  clear hx
  have d1 := lt_no hs0
  have d2 := le_no (show s < 16 by omega)
  have d3 := lt_no hz0
  have c1 := fun w : World => pulsesSat_in z w ⟨by omega, hz⟩
  have C1 := Lib.hid c1
  clear c1
  go_enter Try.func46, Try.ntmps46
  go_wp2_with (first | ((refine wpList_on (o := ⟨_, .box _ (.tmp 0), _, _, _, _⟩) rfl (fun K hK => ?_)); refine wp_box H _ (.tmp 0) rfl (v := .agg _) rfl ?_; clear H; intro u gx H; refine hK _ _ ?_; clear hK K; try simp only [Value.cells, List.cons_append, List.nil_append] at H) | (go_at_call 39; (with_reducible refine (C1.out _).mono ?_); rintro e w1 ⟨rfl, rfl⟩) | ((refine wpList_on (o := ⟨some 29, .makeSlice _ _ _, _, _, _, _⟩) rfl (fun K hK => ?_)); refine wp_make_has (t_ := 24) (e := 3) H _ _ rfl 40 .i64 .i64 rfl rfl ?_ ?_ ?_ ?_ ?_; (kernel_rfl); (kernel_rfl); (omega); (omega); (clear H; intro u g H; refine hK _ _ ?_; clear hK K; try simp only [Value.cells, List.cons_append, List.nil_append] at H)) | ((refine wpList_on (o := ⟨_, .load 47 _, _, _, _, _⟩) rfl (fun K hK => ?_)); refine wp_load_all H 47 _ rfl rfl (by repeat (first | exact List.mem_cons_self | apply List.mem_cons_of_mem | apply List.mem_append_right)) (by kernel_rfl) ?_; refine hK _ _ ?_; clear hK K))
  simp only [show (40 : Int).toNat = 40 from rfl] at *
  clear d1 d2 d3 C1
  go_loopw [31] (fun c wr => ∃ k : Nat, k ≤ 4 ∧ c = .int .i64 k ∧ Has w wr [(g, 3, row 40 (buildS x s z k)), (gx, 47, row 4 x)]) (fun c _ => 4 - (intOf c).toNat)
  case atStart => exact ⟨0, by omega, rfl, by
    have e : row 40 (buildS x s z 0) = row 40 (fun _ => 0) := row_congr fun i hi => by unfold buildS; rw [if_neg (by omega)]
    rw [e]; exact H⟩
  clear H
  case round =>
    obtain ⟨k, hk, rfl, H⟩ := hrel
    by_cases hlt : k < 4
    · have hix := fun w => run_index_row (P := Try.prog) (n := 4) (i := k) Try.underlying47 Try.underlying3 (by kernel_rfl) (by kernel_rfl) x hlt w
      obtain ⟨x0, x1⟩ := HX.out k hlt
      have HB := Lib.hid (build_step x s z k hlt ⟨x0, x1⟩)
      have hq := Nat.div_le_self s.toNat (2 ^ k)
      have e1 := and_one (s.toNat / 2 ^ k) (by omega)
      have e3 : s / 2 ^ k = ((s.toNat / 2 ^ k : Nat) : Int) := by
        rw [Int.natCast_ediv]
        simp [Int.toNat_of_nonneg hs0]
      have s0 : IntKind.u64.wrap (k : Int) = k := by rw [IntKind.wrap_u64]; omega
      have s1 : ((k : Int) + 4 * x k).toNat = k + 4 * (x k).toNat := by omega
      by_cases hbit : s.toNat / 2 ^ k % 2 = 1
      · have HV : Hid (z = if s.toNat / 2 ^ k % 2 = 1 then z else -z) := (if_pos hbit).symm
        have d : (bits .and .i64 (s / 2 ^ k) 1 == 1) = true := by rw [e3, e1, hbit]; rfl
        clear e1 e3 hq hbit
        go_wp2_with (first | (go_at_call 52; (with_reducible refine (At_any _ _ _ (by omega) (by omega) (by omega) (by omega)).mono ?_); rintro e w1 ⟨rfl, rfl⟩) | ((refine wpList_on (o := ⟨_, .store 3 _ _, _, _, _, _⟩) rfl (fun K hK => ?_)); refine wp_store_row_ (l1 := []) H 3 _ _ rfl rfl rfl (by kernel_rfl) (by omega) ?_; clear H; intro u H; refine hK _ _ ?_; clear hK K; try simp only [Value.cells, List.cons_append, List.nil_append] at H))
        go_roundw
        case rel => exact ⟨k + 1, by omega, by go_num, by rw [HB.out z HV.out, twice_row _ z (-z)]; exact H⟩
        case measure => simp [intOf]; omega
      · have HV : Hid (-z = if s.toNat / 2 ^ k % 2 = 1 then z else -z) := (if_neg hbit).symm
        have hb2 : s.toNat / 2 ^ k % 2 = 0 := by generalize s.toNat / 2 ^ k = q at hbit; omega
        have d : (bits .and .i64 (s / 2 ^ k) 1 == 1) = false := by rw [e3, e1, hb2]; rfl
        clear e1 e3 hq hbit
        go_wp2_with (first | (go_at_call 52; (with_reducible refine (At_any _ _ _ (by omega) (by omega) (by omega) (by omega)).mono ?_); rintro e w1 ⟨rfl, rfl⟩) | ((refine wpList_on (o := ⟨_, .store 3 _ _, _, _, _, _⟩) rfl (fun K hK => ?_)); refine wp_store_row_ (l1 := []) H 3 _ _ rfl rfl rfl (by kernel_rfl) (by omega) ?_; clear H; intro u H; refine hK _ _ ?_; clear hK K; try simp only [Value.cells, List.cons_append, List.nil_append] at H))
        go_roundw
        case rel => exact ⟨k + 1, by omega, by go_num, by rw [HB.out (-z) HV.out]; exact H⟩
        case measure => simp [intOf]; omega
    · obtain rfl : k = 4 := by omega
      go_wp2
      go_ret2
      exact ⟨g, rfl, H.sub (by repeat (first | exact List.Sublist.refl _ | exact List.nil_sublist _ | apply List.Sublist.cons_cons | apply List.Sublist.cons))⟩
/-- The sum of products of a ring begun at two samples. -/
def enS (r : Nat → Int) (a b m n : Nat) : Int := sumTo n (fun i => r (m + i - a) * r (m + i - b))
def energyS (r : Nat → Int) (a b : Nat) : Int := enS r a b (max a b) (40 - max a b)
theorem energy_swap (r : Nat → Int) (a b : Nat) : energyS r a b = energyS r b a := by
  unfold energyS enS
  rw [Nat.max_comm]
  exact sumTo_congr _ fun i _ => Int.mul_comm _ _
theorem sumTo_first {f : Nat → Int} : ∀ n : Nat, (∀ i, i < n → 0 ≤ f i) → 0 < n → f 0 ≤ sumTo n f
  | 0, _, h => by omega
  | n + 1, h, _ => by
    rw [sumTo_front]
    have := sumTo_nonneg n (f := fun i => f (i + 1)) (fun i hi => h (i + 1) (by omega))
    omega
theorem energy_self (r : Nat → Int) {a : Nat} (ha : a < 40) : r 0 * r 0 ≤ energyS r a a ∧ 0 ≤ energyS r a a := by
  unfold energyS enS
  rw [Nat.max_self]
  have h := sumTo_first (f := fun i => r (a + i - a) * r (a + i - a)) (40 - a) (fun i _ => sq_nonneg _) (by omega)
  have h2 := sumTo_nonneg (f := fun i => r (a + i - a) * r (a + i - a)) (40 - a) (fun i _ => sq_nonneg _)
  simp only [Nat.add_zero, Nat.sub_self] at h
  exact ⟨h, h2⟩
theorem en_term {r : Nat → Int} (hr : ∀ i, i < 40 → In16 (r i)) (x y : Nat) (hx : x < 40) (hy : y < 40) : -1073741824 ≤ r x * r y ∧ r x * r y ≤ 1073741824 := by
  have h1 := hr x hx
  have h2 := hr y hy
  unfold In16 at h1 h2
  exact mul_bd _ _ 32768 32768 (by omega) (by omega) (by omega) (by omega)
set_option maxHeartbeats 1600000 in
theorem Energy_in (r : Nat → Int) (P : Option Addr) (cap g o a b M : Nat) (w : World) (hr : ∀ i, i < 40 → In16 (r i)) (ha : a ≤ M) (hb : b ≤ M) (hM : M < 40) (hmx : (if (a : Int) < (b : Int) then (b : Int) else (a : Int)) = (M : Int)) (hR : Reads w P 40 g o r) :
    Calls Try.prog 20 #[.slice P 40 cap, .int .i64 a, .int .i64 b] w fun e w' => e = .returned (.tuple #[.int .i64 (enS r a b M (40 - M)), .int .i64 0]) ∧ Below w.heap.size w w' := by
  obtain rfl := hR.ptr (by omega)
  have H := Has.start w
  have d1 := lt_no (show (0 : Int) ≤ a by omega)
  have d2 : decide (40 ≤ a) = false := by simp; omega
  have d3 := lt_no (show (0 : Int) ≤ b by omega)
  have d4 : decide (40 ≤ b) = false := by simp; omega
  have d2' := le_no (show (a : Int) < 40 by omega)
  have d4' := le_no (show (b : Int) < 40 by omega)
  have HR := Lib.hid hr
  have HS : Hid (∀ n, n ≤ 40 - M → -(n * 1073741824) ≤ enS r a b M n ∧ enS r a b M n ≤ n * 1073741824) := fun n hn => sumTo_bd n fun i hi => en_term hr _ _ (by omega) (by omega)
  clear hr
  go_enter Try.func20, Try.ntmps20
  go_wp2
  all_goals
    go_loopw [8, 9] (fun s c wr => ∃ n : Nat, n ≤ 40 - M ∧ c = .int .i64 ((M + n : Nat) : Int) ∧ s = .int .i64 (enS r a b M n) ∧ Has w wr []) (fun _ c _ => (40 - intOf c).toNat)
    case atStart => exact ⟨0, by omega, by have e := hmx; split at e <;> first | (exfalso; omega) | (congr 1; done) | (congr 1; omega), rfl, H⟩
    clear H hmx
    case round =>
      clear d1 d2 d3 d4 d2' d4'
      obtain ⟨n, hn, rfl, rfl, H⟩ := hrel
      obtain ⟨b1, b2⟩ := HS.out n hn
      by_cases hlt : n < 40 - M
      · have HN : Hid (enS r a b M (n + 1) = enS r a b M n + r (M + n - a) * r (M + n - b)) := rfl
        obtain ⟨t1, t2⟩ := en_term HR.out (M + n - a) (M + n - b) (by omega) (by omega)
        have c1 := fun w : World => pulsesSat_in (r (M + n - a)) w (HR.out _ (by omega))
        have c2 := fun w : World => pulsesSat_in (r (M + n - b)) w (HR.out _ (by omega))
        have C1 := Lib.hid c1
        have C2 := Lib.hid c2
        clear c1 c2
        generalize enS r a b M n = S at *
        have s1 : IntKind.i64.wrap (r (M + n - a) * r (M + n - b)) = r (M + n - a) * r (M + n - b) := IntWalk.i64_in _ (by omega)
        obtain ⟨x, hx⟩ : ∃ x, x = M + n - a := ⟨_, rfl⟩
        obtain ⟨y, hy⟩ : ∃ y, y = M + n - b := ⟨_, rfl⟩
        have k1 : IntKind.i64.wrap ((M : Int) + (n : Int) - (a : Int)) = (x : Int) := by rw [IntWalk.i64_in _ (by omega)]; omega
        have k2 : IntKind.i64.wrap ((M : Int) + (n : Int) - (b : Int)) = (y : Int) := by rw [IntWalk.i64_in _ (by omega)]; omega
        rw [← hx, ← hy] at s1 HN t1 t2
        rw [← hx] at C1
        rw [← hy] at C2
        have k3 : x < 40 := by omega
        have k4 : y < 40 := by omega
        have k5 : (x : Int) < 40 := by omega
        have k6 : (y : Int) < 40 := by omega
        have k7 : (0 : Int) ≤ (x : Int) := by omega
        have k8 : (0 : Int) ≤ (y : Int) := by omega
        have HX := Lib.hid hx
        have HY := Lib.hid hy
        clear hx hy
        go_wp2_with fail
        refine wp_region_text [39] (by kernel_rfl) (by kernel_rfl) (by kernel_rfl) ?_; replace H := H.drew; generalize World.drew _ = u at *
        have R := Reads.has hR H
        repeat (first | (refine ones_load_num R (o := ⟨_, .load 3 _, _, _, _, _⟩) 3 _ rfl rfl rfl rfl (by kernel_rfl) k3 ?_; simp only [Act.put, List.setIfInBounds_toArray, List.set_cons_zero, List.set_cons_succ]) | (refine ones_load_num R (o := ⟨_, .load 3 _, _, _, _, _⟩) 3 _ rfl rfl rfl rfl (by kernel_rfl) k4 ?_; simp only [Act.put, List.setIfInBounds_toArray, List.set_cons_zero, List.set_cons_succ]) | (refine' ones_call (o := ⟨_, .call _, _, _, _, _⟩) rfl rfl _ _; rotate_left; (unfold CallOf; go_simp; exact pulsesSat_in _ _ (HR.out _ (by first | exact k3 | exact k4))); simp only [Act.put, List.setIfInBounds_toArray, List.set_cons_zero, List.set_cons_succ]) | (refine ones_free (v := ?_) rfl rfl ?_ ?_; rotate_left; (intro w'; go_simp; try with_reducible rfl); simp only [Act.put, List.setIfInBounds_toArray, List.set_cons_zero, List.set_cons_succ]))
        refine ones_nil ?_
        go_wp2
        go_roundw
        case rel => exact ⟨n + 1, by omega, by go_num, by rw [HN.out, IntWalk.i64_in (S + r x * r y) (by generalize r x * r y = q at *; omega)], H⟩
        case measure => simp [intOf]; omega
      · obtain rfl : n = 40 - M := by omega
        go_wp2
        go_ret2
        exact ⟨rfl, H.below⟩
theorem Energy_any (r : Nat → Int) (P : Option Addr) (cap g o a b : Nat) (w : World) (hr : ∀ i, i < 40 → In16 (r i)) (ha : a < 40) (hb : b < 40) (hR : Reads w P 40 g o r) :
    Calls Try.prog 20 #[.slice P 40 cap, .int .i64 a, .int .i64 b] w fun e w' => e = .returned (.tuple #[.int .i64 (energyS r a b), .int .i64 0]) ∧ Below w.heap.size w w' :=
  Energy_in r P cap g o a b (max a b) w hr (by omega) (by omega) (by omega) (by split <;> omega) hR
theorem Energy_l (r : Nat → Int) {v : Value} (a b : Nat) {w : World} (hr : ∀ i, i < 40 → In16 (r i)) (ha : a < 40) (hb : b < 40) (L : Lies w v 40 r) :
    Calls Try.prog 20 #[v, .int .i64 a, .int .i64 b] w fun e w' => e = .returned (.tuple #[.int .i64 (energyS r a b), .int .i64 0]) ∧ Below w.heap.size w w' := by
  obtain ⟨p, cap, g, o, rfl, R⟩ := L
  exact Energy_any r p cap g o a b w hr ha hb R
end Go.Proofs.Ytcoicmbjoaonoaa
