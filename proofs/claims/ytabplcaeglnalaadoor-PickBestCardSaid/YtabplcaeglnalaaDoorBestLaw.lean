/-
  Sums of products, and which one goes best: laws. No statement is proved here.
-/
import Derived.Test.YtabplcaeglnalaaDoorBetter
import Derived.Test.YtabplcaeglnalaaDoorCorrLaw
namespace Go.Proofs.YtabplcaeglnalaaDoor
open Go.RowKit
theorem best_self (c e : Int) : betterB c e c e = false := by
  unfold betterB
  split
  · rename_i h; simp; omega
  · simp
theorem best_chain {c e d f g h : Int} (he : 0 < e) (hf : 0 < f) (hh : 0 < h) (h1 : betterB c e d f = true) (h2 : betterB d f g h = true) : betterB c e g h = true := by
  unfold betterB at *
  rw [if_neg (by omega)] at *
  simp only [decide_eq_true_eq] at *
  generalize max c 0 * max c 0 = C at *
  generalize hD : max d 0 * max d 0 = D at *
  have hG0 : 0 ≤ max g 0 * max g 0 := Int.mul_nonneg (by omega) (by omega)
  generalize max g 0 * max g 0 = G at *
  have a1 : D * e * h < C * f * h := Int.mul_lt_mul_of_pos_right h1 hh
  have a2 : G * f * e < D * h * e := Int.mul_lt_mul_of_pos_right h2 he
  have e1 : D * e * h = D * h * e := by rw [Int.mul_assoc, Int.mul_comm e h, ← Int.mul_assoc]
  have e2 : C * f * h = C * h * f := by rw [Int.mul_assoc, Int.mul_comm f h, ← Int.mul_assoc]
  have e3 : G * f * e = G * e * f := by rw [Int.mul_assoc, Int.mul_comm f e, ← Int.mul_assoc]
  have a3 : G * e * f < C * h * f := by omega
  exact Int.lt_of_mul_lt_mul_right a3 (by omega)
def dotF (a b : Nat → Int) (n : Nat) : Int := sumTo n (fun i => a i * b i)
theorem sum_zero_all {f : Nat → Int} : ∀ n : Nat, (∀ i, i < n → 0 ≤ f i) → sumTo n f = 0 → ∀ i, i < n → f i = 0
  | 0, _, _, i, hi => by omega
  | n + 1, h, hs, i, hi => by
    have h1 := sumTo_nonneg n (fun i hi => h i (by omega))
    have h2 := h n (by omega)
    rw [sumTo] at hs
    by_cases e : i = n
    · subst e; omega
    · exact sum_zero_all n (fun i hi => h i (by omega)) (by omega) i (by omega)
theorem dot_nonneg (b : Nat → Int) (n : Nat) : 0 ≤ dotF b b n := sumTo_nonneg n fun i _ => sq_nonneg _
theorem dot_pos {a b : Nat → Int} {n : Nat} (h : 0 < dotF a b n) : 0 < dotF b b n := by
  have h0 := dot_nonneg b n
  by_cases hz : dotF b b n = 0
  · exfalso
    have hall := sum_zero_all n (fun i _ => sq_nonneg (b i)) hz
    have : dotF a b n = 0 := sumTo_zero n fun i hi => by
      have := hall i hi
      have hb : b i = 0 := by
        rcases Int.mul_eq_zero.1 this with h | h <;> exact h
      rw [hb, Int.mul_zero]
    omega
  · omega
theorem dot_bd {a b : Nat → Int} {n : Nat} (ha : ∀ i, i < n → In16 (a i)) (hb : ∀ i, i < n → In16 (b i)) : -(n * 1073741824) ≤ dotF a b n ∧ dotF a b n ≤ n * 1073741824 :=
  sumTo_bd n fun i hi => by
    have h1 := ha i hi
    have h2 := hb i hi
    unfold In16 at h1 h2
    exact mul_bd _ _ 32768 32768 (by omega) (by omega) (by omega) (by omega)
/-- The best one so far. -/
def BestOf (c e : Nat → Int) (k : Nat) (bc be : Int) (best : Nat) : Prop :=
  (bc = 0 ∧ be = 0 ∧ best = 20 ∧ ∀ j, 20 ≤ j → j < k → c j ≤ 0) ∨ (20 ≤ best ∧ best < k ∧ bc = c best ∧ be = e best ∧ 0 < bc ∧ 0 < be ∧ ∀ j, 20 ≤ j → j < k → 0 < c j → betterB (c j) (e j) bc be = false)
theorem best_none (c e : Nat → Int) : BestOf c e 20 0 0 20 := .inl ⟨rfl, rfl, rfl, fun j h1 h2 => by omega⟩
theorem best_skip {c e : Nat → Int} {k : Nat} {bc be : Int} {best : Nat} (h : BestOf c e k bc be best) (hc : c k ≤ 0) : BestOf c e (k + 1) bc be best := by
  rcases h with ⟨h1, h2, h3, h4⟩ | ⟨h1, h2, h3, h4, h5, h6, h7⟩
  · refine .inl ⟨h1, h2, h3, fun j hj hk => ?_⟩
    by_cases e : j = k
    · subst e; exact hc
    · exact h4 j hj (by omega)
  · refine .inr ⟨h1, by omega, h3, h4, h5, h6, fun j hj hk hp => ?_⟩
    by_cases e : j = k
    · subst e; omega
    · exact h7 j hj (by omega) hp
theorem best_keep {c e : Nat → Int} {k : Nat} {bc be : Int} {best : Nat} (h : BestOf c e k bc be best) (hb : be ≠ 0) (hn : betterB (c k) (e k) bc be = false) : BestOf c e (k + 1) bc be best := by
  rcases h with ⟨_, h2, _⟩ | ⟨h1, h2, h3, h4, h5, h6, h7⟩
  · exact absurd h2 hb
  · refine .inr ⟨h1, by omega, h3, h4, h5, h6, fun j hj hk hp => ?_⟩
    by_cases e : j = k
    · subst e; exact hn
    · exact h7 j hj (by omega) hp
theorem best_take {c e : Nat → Int} {k : Nat} {bc be : Int} {best : Nat} (h : BestOf c e k bc be best) (hk : 20 ≤ k) (he : ∀ j, 0 < c j → 0 < e j) (hc : 0 < c k) (hb : be = 0 ∨ betterB (c k) (e k) bc be = true) : BestOf c e (k + 1) (c k) (e k) k := by
  refine .inr ⟨hk, by omega, rfl, rfl, hc, he k hc, fun j hj hlt hp => ?_⟩
  by_cases e0 : j = k
  · subst e0; exact best_self _ _
  · rcases h with ⟨_, _, _, h4⟩ | ⟨h1, h2, h3, h4, h5, h6, h7⟩
    · have := h4 j hj (by omega); omega
    · rcases hb with hb | hb
      · omega
      · by_cases hx : betterB (c j) (e j) (c k) (e k) = true
        · have := best_chain (he j hp) (he k hc) h6 hx hb
          rw [h7 j hj (by omega) hp] at this
          cases this
        · simpa using hx
theorem best_lag {c e : Nat → Int} {k : Nat} {bc be : Int} {best : Nat} (h : BestOf c e k bc be best) (hk : 20 ≤ k) : 20 ≤ best ∧ (best < k ∨ best = 20) ∧ 0 ≤ bc ∧ 0 ≤ be := by
  rcases h with ⟨h1, h2, h3, _⟩ | ⟨h1, h2, h3, h4, h5, h6, _⟩ <;> omega
end Go.Proofs.YtabplcaeglnalaaDoor
