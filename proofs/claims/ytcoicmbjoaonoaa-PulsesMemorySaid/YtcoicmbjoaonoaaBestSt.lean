/-
  The best of many places, in the order in which they are named: plain laws. No statement is proved here.
-/
import Derived.Test.YtcoicmbjoaonoaaBetter
import Derived.Test.YtcoicmbjoaonoaaHeard
namespace Go.Proofs.Ytcoicmbjoaonoaa
open Go.RowKit
theorem best_not {c e d f : Int} : betterB c e d f = false ↔ (e ≤ 0 ∨ (0 < e ∧ 0 < f ∧ max c 0 * max c 0 * f ≤ max d 0 * max d 0 * e)) := by
  unfold betterB
  by_cases h : e ≤ 0 ∨ f ≤ 0
  · rw [if_pos h]; simp; omega
  · rw [if_neg h]
    simp
    constructor
    · intro h1; exact .inr ⟨by omega, by omega, h1⟩
    · rintro (h1 | ⟨_, _, h1⟩)
      · omega
      · exact h1
theorem nb_self (c e : Int) : betterB c e c e = false := best_not.2 (by by_cases h : e ≤ 0; exact .inl h; exact .inr ⟨by omega, by omega, Int.le_refl _⟩)
theorem nb_trans {c e d f g h : Int} (h1 : betterB c e d f = false) (h2 : betterB d f g h = false) : betterB c e g h = false := by
  rw [best_not] at *
  rcases h1 with h1 | ⟨a1, a2, a3⟩
  · exact .inl h1
  · rcases h2 with h2 | ⟨b1, b2, b3⟩
    · omega
    · refine .inr ⟨a1, b2, ?_⟩
      generalize max c 0 * max c 0 = C at *
      generalize max d 0 * max d 0 = D at *
      generalize max g 0 * max g 0 = G at *
      have k1 : C * f * h ≤ D * e * h := Int.mul_le_mul_of_nonneg_right a3 (by omega)
      have k2 : D * h * e ≤ G * f * e := Int.mul_le_mul_of_nonneg_right b3 (by omega)
      have e1 : D * e * h = D * h * e := by rw [Int.mul_assoc, Int.mul_comm e h, ← Int.mul_assoc]
      have e2 : C * f * h = C * h * f := by rw [Int.mul_assoc, Int.mul_comm f h, ← Int.mul_assoc]
      have e3 : G * f * e = G * e * f := by rw [Int.mul_assoc, Int.mul_comm f e, ← Int.mul_assoc]
      have a3 : C * h * f ≤ G * e * f := by omega
      exact Int.le_of_mul_le_mul_right a3 a2
theorem nb_asym {c e d f : Int} (h : betterB c e d f = true) : betterB d f c e = false := by
  rw [best_not]
  unfold betterB at h
  by_cases h1 : e ≤ 0 ∨ f ≤ 0
  · rw [if_pos h1] at h
    simp at h
    omega
  · rw [if_neg h1] at h
    simp only [decide_eq_true_eq] at h
    exact .inr ⟨by omega, by omega, by omega⟩
/-- The state of a search: is it the first one, its sums, its places. -/
structure St where
  first : Bool
  bc : Int
  be : Int
  at_ : Nat → Int
def bstep (c e : (Nat → Int) → Int) (s : St) (x : Nat → Int) : St := if s.first = true ∨ betterB (c x) (e x) s.bc s.be = true then ⟨false, c x, e x, x⟩ else s
def st0 : St := ⟨true, 0, 0, fun _ => 0⟩
/-- What holds of a state behind some places. -/
structure StOk (c e : (Nat → Int) → Int) (V : (Nat → Int) → Prop) (s : St) : Prop where
  own : s.first = true ∨ (V s.at_ ∧ s.bc = c s.at_ ∧ s.be = e s.at_)
  best : ∀ x, V x → s.first = false ∧ betterB (c x) (e x) s.bc s.be = false
theorem stOk_0 (c e : (Nat → Int) → Int) : StOk c e (fun _ => False) st0 := ⟨.inl rfl, fun _ h => h.elim⟩
theorem stOk_step {c e : (Nat → Int) → Int} {V : (Nat → Int) → Prop} {s : St} (h : StOk c e V s) (x : Nat → Int) : StOk c e (fun y => V y ∨ y = x) (bstep c e s x) := by
  unfold bstep
  by_cases h1 : s.first = true ∨ betterB (c x) (e x) s.bc s.be = true
  · rw [if_pos h1]
    refine ⟨.inr ⟨.inr rfl, rfl, rfl⟩, fun y hy => ⟨rfl, ?_⟩⟩
    rcases hy with hy | rfl
    · obtain ⟨a1, a2⟩ := h.best y hy
      rcases h1 with h1 | h1
      · rw [a1] at h1; cases h1
      · exact nb_trans a2 (nb_asym h1)
    · exact nb_self _ _
  · rw [if_neg h1]
    have h2 : s.first = false := by
      cases hf : s.first
      · rfl
      · exact absurd (.inl hf) h1
    have h3 : betterB (c x) (e x) s.bc s.be = false := by
      cases hb : betterB (c x) (e x) s.bc s.be
      · rfl
      · exact absurd (.inr hb) h1
    refine ⟨?_, fun y hy => ?_⟩
    · rcases h.own with h4 | ⟨h4, h5⟩
      · rw [h2] at h4; cases h4
      · exact .inr ⟨.inl h4, h5⟩
    · rcases hy with hy | rfl
      · exact h.best y hy
      · exact ⟨h2, h3⟩
def runS (c e : (Nat → Int) → Int) (xs : Nat → Nat → Int) : Nat → St
  | 0 => st0
  | n + 1 => bstep c e (runS c e xs n) (xs n)
theorem runS_ok (c e : (Nat → Int) → Int) (xs : Nat → Nat → Int) : ∀ n, StOk c e (fun y => ∃ k, k < n ∧ y = xs k) (runS c e xs n)
  | 0 => ⟨.inl rfl, fun _ ⟨k, hk, _⟩ => by omega⟩
  | n + 1 => by
    have h := stOk_step (runS_ok c e xs n) (xs n)
    refine ⟨?_, fun y hy => h.best y ?_⟩
    · rcases h.own with h1 | ⟨h1, h2⟩
      · exact .inl h1
      · refine .inr ⟨?_, h2⟩
        rcases h1 with ⟨k, hk, e1⟩ | e1
        · exact ⟨k, by omega, e1⟩
        · exact ⟨n, by omega, e1⟩
    · obtain ⟨k, hk, e1⟩ := hy
      by_cases e2 : k = n
      · subst e2; exact .inr e1
      · exact .inl ⟨k, by omega, e1⟩
/-- The best one of n places. -/
theorem runS_best (c e : (Nat → Int) → Int) (xs : Nat → Nat → Int) {n : Nat} (hn : 0 < n) : (∃ k, k < n ∧ (runS c e xs n).at_ = xs k) ∧ ∀ k, k < n → betterB (c (xs k)) (e (xs k)) (c (runS c e xs n).at_) (e (runS c e xs n).at_) = false := by
  have h := runS_ok c e xs n
  have h0 := (h.best (xs 0) ⟨0, hn, rfl⟩).1
  rcases h.own with h1 | ⟨⟨k, hk, e1⟩, e2, e3⟩
  · rw [h0] at h1; cases h1
  · refine ⟨⟨k, hk, e1⟩, fun j hj => ?_⟩
    have := (h.best (xs j) ⟨j, hj, rfl⟩).2
    rwa [e2, e3] at this
/-- Places that are the same go the same. -/
theorem scC_congr {d x y : Nat → Int} (h : ∀ i, i < 4 → x i = y i) : scC d x 4 = scC d y 4 := sumTo_congr 4 fun i hi => by
  have : atN x i = atN y i := by unfold atN; rw [h i hi]
  rw [this]
theorem scE_congr {d T x y : Nat → Int} (h : ∀ i, i < 4 → x i = y i) : scE d T x 4 = scE d T y 4 := sumTo_congr 4 fun i hi => by
  have e1 : atN x i = atN y i := by unfold atN; rw [h i hi]
  unfold scR
  exact sumTo_congr 4 fun j hj => by
    have e2 : atN x j = atN y j := by unfold atN; rw [h j hj]
    rw [e1, e2]
/-- Place n of all. -/
def digX (n i : Nat) : Int := ((n / 10 ^ (3 - i) % 10 : Nat) : Int)
theorem digX_in (n : Nat) : ∀ i, i < 4 → 0 ≤ digX n i ∧ digX n i ≤ 9 := fun i _ => by unfold digX; omega
theorem digX_of {x : Nat → Int} (hx : ∀ i, i < 4 → 0 ≤ x i ∧ x i ≤ 9) : ∃ n, n < 10000 ∧ ∀ i, i < 4 → x i = digX n i := by
  have h0 := hx 0 (by omega)
  have h1 := hx 1 (by omega)
  have h2 := hx 2 (by omega)
  have h3 := hx 3 (by omega)
  refine ⟨(x 0 * 1000 + x 1 * 100 + x 2 * 10 + x 3).toNat, by omega, fun i hi => ?_⟩
  unfold digX
  have : i = 0 ∨ i = 1 ∨ i = 2 ∨ i = 3 := by omega
  rcases this with rfl | rfl | rfl | rfl <;> simp <;> omega
/-- A place with another number on one track. -/
def onT (x : Nat → Int) (t k i : Nat) : Int := if i = t then (k : Int) else x i
theorem onT_in {x : Nat → Int} (hx : ∀ i, i < 4 → 0 ≤ x i ∧ x i ≤ 9) (t k : Nat) (hk : k < 10) : ∀ i, i < 4 → 0 ≤ onT x t k i ∧ onT x t k i ≤ 9 := fun i hi => by
  unfold onT
  split
  · omega
  · exact hx i hi
theorem onT_self {x : Nat → Int} (hx : ∀ i, i < 4 → 0 ≤ x i ∧ x i ≤ 9) {t : Nat} (ht : t < 4) : ∃ k, k < 10 ∧ ∀ i, i < 4 → x i = onT x t k i := by
  have := hx t ht
  refine ⟨(x t).toNat, by omega, fun i _ => ?_⟩
  unfold onT
  by_cases e : i = t
  · rw [if_pos e, e]; omega
  · rw [if_neg e]
end Go.Proofs.Ytcoicmbjoaonoaa
