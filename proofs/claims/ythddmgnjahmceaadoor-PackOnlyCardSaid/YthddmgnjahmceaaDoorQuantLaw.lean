/-
  Levels of reflections: plain Lean, no program. No statement is proved here.
-/
import Derived.Test.YthddmgnjahmceaaDoorGen
namespace Go.Proofs.YthddmgnjahmceaaDoor
def widthZ : List Int := [6, 6, 5, 5, 4, 4, 3, 3]
/-- W bits and the M levels that they tell apart. -/
def Wide (W M : Int) : Prop := (W = 3 ∧ M = 8) ∨ (W = 4 ∧ M = 16) ∨ (W = 5 ∧ M = 32) ∨ (W = 6 ∧ M = 64)
def levQ (M n : Int) : Int :=
  if 2 * n - (M - 1) < 0 then -(31000 - 31000 * (M - 1 + 1 - -(2 * n - (M - 1))) * (M - 1 + 1 - -(2 * n - (M - 1))) / ((M - 1 + 1) * (M - 1 + 1)))
  else 31000 - 31000 * (M - 1 + 1 - (2 * n - (M - 1))) * (M - 1 + 1 - (2 * n - (M - 1))) / ((M - 1 + 1) * (M - 1 + 1))
def levsQok (M : Nat) : Bool := (List.range M).all fun n => decide (-31000 ≤ levQ M n) && decide (levQ M n ≤ 31000) && decide (levQ M (M - 1 - n) = -levQ M n) && (decide (M ≤ n + 1) || decide (levQ M n < levQ M (n + 1)))
theorem levsQ8 : levsQok 8 = true := by decide +kernel
theorem levsQ16 : levsQok 16 = true := by decide +kernel
theorem levsQ32 : levsQok 32 = true := by decide +kernel
theorem levsQ64 : levsQok 64 = true := by decide +kernel
theorem levQ_nat {M n : Nat} (h : levsQok M = true) (hn : n < M) : (-31000 ≤ levQ M n ∧ levQ M n ≤ 31000) ∧ levQ M (M - 1 - n) = -levQ M n ∧ (n + 1 < M → levQ M n < levQ M (n + 1)) := by
  simp only [levsQok, List.all_eq_true, List.mem_range, Bool.and_eq_true, Bool.or_eq_true, decide_eq_true_eq] at h
  obtain ⟨⟨⟨h1, h2⟩, h3⟩, h4⟩ := h n hn
  exact ⟨⟨h1, h2⟩, h3, fun hlt => by omega⟩
theorem levQ_facts {W M n : Int} (hw : Wide W M) (h0 : 0 ≤ n) (hn : n < M) : (-31000 ≤ levQ M n ∧ levQ M n ≤ 31000) ∧ levQ M (M - 1 - n) = -levQ M n ∧ (n + 1 < M → levQ M n < levQ M (n + 1)) := by
  obtain ⟨k, rfl⟩ := Int.eq_ofNat_of_zero_le h0
  rcases hw with ⟨_, rfl⟩ | ⟨_, rfl⟩ | ⟨_, rfl⟩ | ⟨_, rfl⟩
  · have := levQ_nat levsQ8 (n := k) (by omega); simp only [Int.cast_ofNat_Int] at this; exact ⟨this.1, this.2.1, fun h => this.2.2 (by omega)⟩
  · have := levQ_nat levsQ16 (n := k) (by omega); simp only [Int.cast_ofNat_Int] at this; exact ⟨this.1, this.2.1, fun h => this.2.2 (by omega)⟩
  · have := levQ_nat levsQ32 (n := k) (by omega); simp only [Int.cast_ofNat_Int] at this; exact ⟨this.1, this.2.1, fun h => this.2.2 (by omega)⟩
  · have := levQ_nat levsQ64 (n := k) (by omega); simp only [Int.cast_ofNat_Int] at this; exact ⟨this.1, this.2.1, fun h => this.2.2 (by omega)⟩
theorem levQ_lt {W M : Int} (hw : Wide W M) (n d : Nat) (h : ((n + d + 1 : Nat) : Int) < M) : levQ M n < levQ M ((n + d + 1 : Nat) : Int) := by
  induction d with
  | zero => have := (levQ_facts hw (n := (n : Int)) (by omega) (by omega)).2.2 (by omega); simpa using this
  | succ d ih =>
    have h1 := ih (by omega)
    have h2 := (levQ_facts hw (n := ((n + d + 1 : Nat) : Int)) (by omega) (by omega)).2.2 (by omega)
    have e : ((n + (d + 1) + 1 : Nat) : Int) = ((n + d + 1 : Nat) : Int) + 1 := by omega
    rw [e]; omega
theorem levQ_inj {W M : Int} (hw : Wide W M) {n m : Nat} (hn : (n : Int) < M) (hm : (m : Int) < M) (h : levQ M n = levQ M m) : n = m := by
  by_cases h1 : n < m
  · have := levQ_lt hw n (m - n - 1) (by omega)
    rw [show n + (m - n - 1) + 1 = m by omega] at this; omega
  · by_cases h2 : m < n
    · have := levQ_lt hw m (n - m - 1) (by omega)
      rw [show m + (n - m - 1) + 1 = n by omega] at this; omega
    · omega
/-- How far. -/
def farQ (v k : Int) : Int := if v - k < 0 then -(v - k) else v - k
/-- The search: the first of the nearest, and how far it is. -/
def nearQ (v : Nat → Int) (k : Int) : Nat → Nat × Int
  | 0 => (0, 1048576)
  | n + 1 => if farQ (v n) k < (nearQ v k n).2 then (n, farQ (v n) k) else nearQ v k n
theorem nearQ_law (v : Nat → Int) (k : Int) : ∀ n, (∀ j, j < n → farQ (v j) k < 1048576) → (nearQ v k n).2 ≤ 1048576 ∧ 0 ≤ (nearQ v k n).2 ∧ (0 < n → (nearQ v k n).1 < n ∧ (nearQ v k n).2 = farQ (v (nearQ v k n).1) k ∧ ∀ j, j < n → (nearQ v k n).2 ≤ farQ (v j) k)
  | 0, _ => by simp [nearQ]
  | n + 1, hv => by
    have ih := nearQ_law v k n (fun j hj => hv j (by omega))
    have h1 := hv n (by omega)
    have hp : 0 ≤ farQ (v n) k := by unfold farQ; split <;> omega
    by_cases h : farQ (v n) k < (nearQ v k n).2
    · rw [show nearQ v k (n + 1) = (n, farQ (v n) k) from if_pos h]
      refine ⟨by show farQ (v n) k ≤ 1048576; omega, hp, fun _ => ⟨Nat.lt_succ_self n, rfl, fun j hj => ?_⟩⟩
      by_cases e : j = n
      · subst e; exact Int.le_refl _
      · have := (ih.2.2 (by omega)).2.2 j (by omega)
        show farQ (v n) k ≤ farQ (v j) k
        omega
    · rw [show nearQ v k (n + 1) = nearQ v k n from if_neg h]
      have hn : 0 < n := by
        by_cases e : n = 0
        · subst e; simp only [nearQ] at h; omega
        · omega
      obtain ⟨a1, a2, a3⟩ := ih.2.2 hn
      refine ⟨ih.1, ih.2.1, fun _ => ⟨by omega, a2, fun j hj => ?_⟩⟩
      by_cases e : j = n
      · subst e; omega
      · exact a3 j (by omega)
theorem farQ_zero {v k : Int} (h : farQ v k ≤ 0) : v = k := by unfold farQ at h; split at h <;> omega
theorem farQ_self (v : Int) : farQ v v = 0 := by unfold farQ; split <;> omega
theorem farQ_sq (v k : Int) : farQ v k * farQ v k = (v - k) * (v - k) := by
  unfold farQ; split
  · rw [Int.neg_mul_neg]
  · rfl
theorem levQ_near {W M : Int} (hw : Wide W M) (k : Int) (hk : -32768 ≤ k ∧ k ≤ 32768) (j : Nat) (hj : (j : Int) < M) : farQ (levQ M (j : Int)) k < 1048576 := by
  have a := (levQ_facts hw (n := (j : Int)) (by omega) (by omega)).1
  unfold farQ; split <;> omega
abbrev oneQ (M k : Int) : Nat := (nearQ (fun j => levQ M (j : Int)) k M.toNat).1
theorem oneQ_law {W M : Int} (hw : Wide W M) {k : Int} (hk : -32768 ≤ k ∧ k ≤ 32768) : (oneQ M k : Int) < M ∧ ∀ j : Nat, (j : Int) < M → farQ (levQ M (oneQ M k : Int)) k ≤ farQ (levQ M (j : Int)) k := by
  have hM : 8 ≤ M ∧ M ≤ 64 := by unfold Wide at hw; omega
  obtain ⟨a1, a2, a3⟩ := (nearQ_law (fun j => levQ M (j : Int)) k M.toNat (fun j hj => levQ_near hw k hk j (by omega))).2.2 (by omega)
  refine ⟨by show ((nearQ (fun j => levQ M (j : Int)) k M.toNat).1 : Int) < M; omega, fun j hj => ?_⟩
  have := a3 j (by omega)
  rw [a2] at this
  exact this
theorem oneQ_back {W M : Int} (hw : Wide W M) {n : Nat} (hn : (n : Int) < M) : oneQ M (levQ M n) = n := by
  have b := (levQ_facts hw (n := (n : Int)) (by omega) hn).1
  obtain ⟨h1, h2⟩ := oneQ_law hw (k := levQ M n) (by omega)
  have h3 := h2 n hn
  rw [farQ_self] at h3
  exact levQ_inj hw h1 hn (farQ_zero h3)
end Go.Proofs.YthddmgnjahmceaaDoor
