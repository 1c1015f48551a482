/-
  The filter that makes speech and the one that undoes it, folding: plain Lean, no program. No statement is proved here.
-/
import Derived.Test.YtcoicmbjoaonoaaGen
import Derived.Test.YtcoicmbjoaonoaaSat
namespace Go.Proofs.Ytcoicmbjoaonoaa
/-- The sum of the first n. -/
def sumTo : Nat → (Nat → Int) → Int
  | 0, _ => 0
  | n + 1, f => sumTo n f + f n
theorem sumTo_congr {f g : Nat → Int} : ∀ n, (∀ i, i < n → f i = g i) → sumTo n f = sumTo n g
  | 0, _ => rfl
  | n + 1, h => by rw [sumTo, sumTo, sumTo_congr n (fun i hi => h i (by omega)), h n (by omega)]
theorem sumTo_front (f : Nat → Int) : ∀ n, sumTo (n + 1) f = f 0 + sumTo n (fun i => f (i + 1))
  | 0 => by simp [sumTo]
  | n + 1 => by rw [sumTo, sumTo_front f n, sumTo, Int.add_assoc]
theorem sumTo_rev (f : Nat → Int) : ∀ n, sumTo n f = sumTo n (fun i => f (n - 1 - i))
  | 0 => rfl
  | n + 1 => by
    rw [sumTo_front (fun i => f (n + 1 - 1 - i)) n, sumTo, sumTo_rev f n, Int.add_comm]
    simp only [Nat.add_sub_cancel, Nat.sub_zero]
    congr 1
    exact sumTo_congr n fun i hi => by congr 1; omega
theorem sumTo_bd {f : Nat → Int} {B : Int} : ∀ n : Nat, (∀ i, i < n → -B ≤ f i ∧ f i ≤ B) → -(n * B) ≤ sumTo n f ∧ sumTo n f ≤ n * B
  | 0, _ => by simp [sumTo]
  | n + 1, h => by
    have ih := sumTo_bd n (fun i hi => h i (by omega))
    have h1 := h n (by omega)
    rw [sumTo]
    have : ((n + 1 : Nat) : Int) * B = n * B + B := by rw [Int.natCast_add, Int.add_mul]; simp
    omega
theorem sumTo_zero {f : Nat → Int} : ∀ n : Nat, (∀ i, i < n → f i = 0) → sumTo n f = 0
  | 0, _ => rfl
  | n + 1, h => by rw [sumTo, sumTo_zero n (fun i hi => h i (by omega)), h n (by omega)]; rfl
theorem sumTo_nonneg {f : Nat → Int} : ∀ n : Nat, (∀ i, i < n → 0 ≤ f i) → 0 ≤ sumTo n f
  | 0, _ => Int.le_refl _
  | n + 1, h => by
    have := sumTo_nonneg n (fun i hi => h i (by omega))
    have := h n (by omega)
    rw [sumTo]; omega

/-- What a predictor takes away of the next sample. -/
def guessS (a p : Nat → Int) : Int := (2048 + sumTo 8 (fun i => a (i + 1) * p i)) / 4096
def pushS (p : Nat → Int) (x : Int) : Nat → Int := fun i => if i = 0 then x else p (i - 1)
/-- The past behind k samples of Make. -/
def mk (a f p : Nat → Int) : Nat → Nat → Int
  | 0 => p
  | k + 1 => pushS (mk a f p k) (sat16 (f k - guessS a (mk a f p k)))
/-- The samples that Make makes. -/
def mkOut (a f p : Nat → Int) (k : Nat) : Int := sat16 (f k - guessS a (mk a f p k))
/-- The past behind k samples of Undo. -/
def ud (f p : Nat → Int) : Nat → Nat → Int
  | 0 => p
  | k + 1 => pushS (ud f p k) (f k)
def udOut (a f p : Nat → Int) (k : Nat) : Int := sat16 (f k + guessS a (ud f p k))
theorem mkOut_bd (a f p : Nat → Int) (k : Nat) : -32768 ≤ mkOut a f p k ∧ mkOut a f p k ≤ 32767 := sat16_bd _
theorem udOut_bd (a f p : Nat → Int) (k : Nat) : -32768 ≤ udOut a f p k ∧ udOut a f p k ≤ 32767 := sat16_bd _
def In16 (x : Int) : Prop := -32768 ≤ x ∧ x ≤ 32767
theorem pushS_bd {p : Nat → Int} {x : Int} (hp : ∀ i, i < 8 → In16 (p i)) (hx : In16 x) : ∀ i, i < 8 → In16 (pushS p x i) := fun i hi => by
  unfold pushS
  split
  · exact hx
  · exact hp _ (by omega)
theorem mk_bd (a f : Nat → Int) {p : Nat → Int} (hp : ∀ i, i < 8 → In16 (p i)) : ∀ k i, i < 8 → In16 (mk a f p k i)
  | 0 => hp
  | k + 1 => pushS_bd (mk_bd a f hp k) (sat16_bd _)
theorem ud_bd {f p : Nat → Int} (hp : ∀ i, i < 8 → In16 (p i)) {n : Nat} (hf : ∀ i, i < n → In16 (f i)) : ∀ k, k ≤ n → ∀ i, i < 8 → In16 (ud f p k i)
  | 0, _ => hp
  | k + 1, h => pushS_bd (ud_bd hp hf k (by omega)) (hf k (by omega))
/-- Undo of what Make made has the same past. -/
theorem ud_mk (a f p : Nat → Int) : ∀ k, ud (mkOut a f p) p k = mk a f p k
  | 0 => rfl
  | k + 1 => by rw [ud, ud_mk a f p k, mk]; rfl
theorem mk_ud (a f p : Nat → Int) (n : Nat) (h : ∀ i, i < n → mkOut a (udOut a f p) p i = f i) : ∀ k, k ≤ n → mk a (udOut a f p) p k = ud f p k
  | 0, _ => rfl
  | k + 1, hk => by
    have e := mk_ud a f p n h k (by omega)
    have e2 := h k (by omega)
    unfold mkOut at e2
    rw [mk, ud, e2, e]
def Free (x : Int) : Prop := x ≠ 32767 ∧ x ≠ -32768
theorem sat_free {x : Int} (h : Free (sat16 x)) : sat16 x = x := by
  by_cases h1 : x < -32768
  · exact absurd (clamp_lo h1) h.2
  · by_cases h2 : 32767 < x
    · exact absurd (clamp_hi h1 h2) h.1
    · exact clamp_in h1 h2
/-- Undo undoes Make where nothing came to an end. -/
theorem undo_make (a f p : Nat → Int) {n : Nat} (hf : ∀ i, i < n → In16 (f i)) (h : ∀ i, i < n → Free (mkOut a f p i)) : ∀ i, i < n → udOut a (mkOut a f p) p i = f i := fun i hi => by
  unfold udOut
  rw [ud_mk]
  have e := sat_free (h i hi)
  show sat16 (mkOut a f p i + _) = f i
  unfold mkOut
  rw [e]
  have : f i - guessS a (mk a f p i) + guessS a (mk a f p i) = f i := by omega
  rw [this]
  exact sat16_in (hf i hi)
/-- Make undoes Undo where nothing came to an end. -/
theorem make_undo (a f p : Nat → Int) {n : Nat} (hf : ∀ i, i < n → In16 (f i)) (h : ∀ i, i < n → Free (udOut a f p i)) : ∀ i, i < n → mkOut a (udOut a f p) p i = f i := by
  intro i
  induction i using Nat.strongRecOn with
  | _ i ih =>
    intro hi
    have e := mk_ud a f p i (fun j hj => ih j hj (by omega)) i (Nat.le_refl _)
    unfold mkOut
    rw [e]
    have e2 := sat_free (h i hi)
    unfold udOut
    rw [e2]
    have : f i + guessS a (ud f p i) - guessS a (ud f p i) = f i := by omega
    rw [this]
    exact sat16_in (hf i hi)
/-- Speaking goes on by the past. -/
theorem mk_cut (a f p : Nat → Int) (m : Nat) : ∀ k, mk a f p (m + k) = mk a (fun i => f (m + i)) (mk a f p m) k
  | 0 => rfl
  | k + 1 => by rw [← Nat.add_assoc, mk, mk_cut a f p m k, mk]
theorem mkOut_cut (a f p : Nat → Int) (m k : Nat) : mkOut a f p (m + k) = mkOut a (fun i => f (m + i)) (mk a f p m) k := by
  unfold mkOut; rw [mk_cut]
theorem mk_congr {a f g p : Nat → Int} : ∀ n, (∀ i, i < n → f i = g i) → mk a f p n = mk a g p n
  | 0, _ => rfl
  | n + 1, h => by rw [mk, mk, mk_congr n (fun i hi => h i (by omega)), h n (by omega)]
theorem mkOut_congr {a f g p : Nat → Int} {n : Nat} (h : ∀ i, i < n + 1 → f i = g i) : mkOut a f p n = mkOut a g p n := by
  unfold mkOut; rw [mk_congr n (fun i hi => h i (by omega)), h n (by omega)]
/-- At rest. -/
theorem guess_rest (a p : Nat → Int) (h : ∀ i, i < 8 → p i = 0) : guessS a p = 0 := by
  unfold guessS
  rw [sumTo_zero 8 (fun i hi => by rw [h i hi]; simp)]
  rfl
theorem mk_rest (a f p : Nat → Int) (hp : ∀ i, i < 8 → p i = 0) (n : Nat) (hf : ∀ i, i < n → f i = 0) : ∀ k, k ≤ n → ∀ i, i < 8 → mk a f p k i = 0
  | 0, _ => hp
  | k + 1, hk => fun i hi => by
    have ih := mk_rest a f p hp n hf k (by omega)
    rw [mk]
    unfold pushS
    split
    · rw [guess_rest a _ ih, hf k (by omega)]; rfl
    · exact ih _ (by omega)
theorem mkOut_rest (a f p : Nat → Int) (hp : ∀ i, i < 8 → p i = 0) (n : Nat) (hf : ∀ i, i < n → f i = 0) (k : Nat) (hk : k < n) : mkOut a f p k = 0 := by
  unfold mkOut
  rw [guess_rest a _ (mk_rest a f p hp n hf k (by omega)), hf k hk]; rfl
/-- Folding. -/
def conv (a b : Nat → Int) (n : Nat) : Int := sumTo (n + 1) (fun i => a i * b (n - i))
def foldOut (a b : Nat → Int) (n : Nat) : Int := sat16 ((2048 + conv a b n) / 4096)
theorem foldOut_bd (a b : Nat → Int) (n : Nat) : In16 (foldOut a b n) := sat16_bd _
theorem conv_swap (a b : Nat → Int) (n : Nat) : conv a b n = conv b a n := by
  unfold conv
  rw [sumTo_rev]
  refine sumTo_congr _ fun i hi => ?_
  rw [show n + 1 - 1 - i = n - i by omega, show n - (n - i) = i by omega, Int.mul_comm]
def oneAt : Nat → Int := fun i => if i = 0 then 4096 else 0
theorem conv_one (a : Nat → Int) (n : Nat) : conv a oneAt n = a n * 4096 := by
  unfold conv
  rw [sumTo, sumTo_zero n (fun i hi => by unfold oneAt; rw [if_neg (by omega)]; simp)]
  simp [oneAt]
theorem fold_one {a : Nat → Int} {n : Nat} (h : In16 (a n)) : foldOut a oneAt n = a n := by
  unfold foldOut
  rw [conv_one, show (2048 + a n * 4096) / 4096 = a n by omega]
  exact sat16_in h
/-- The high-pass. -/
structure HP where
  (x0 x1 y0 y1 : Int)
def hpY (h : HP) (x : Int) : Int := sat16 ((3798 * x - 7596 * h.x0 + 3798 * h.x1 + 7807 * h.y0 - 3733 * h.y1 + 2048) / 4096)
def hpStep (h : HP) (x : Int) : HP := ⟨x, h.x0, hpY h x, h.y0⟩
def hpS (f : Nat → Int) (h : HP) : Nat → HP
  | 0 => h
  | k + 1 => hpStep (hpS f h k) (f k)
def hpOut (f : Nat → Int) (h : HP) (k : Nat) : Int := hpY (hpS f h k) (f k)
def HP.good (h : HP) : Prop := In16 h.x0 ∧ In16 h.x1 ∧ In16 h.y0 ∧ In16 h.y1
theorem hpS_good {f : Nat → Int} {h : HP} (hh : h.good) {n : Nat} (hf : ∀ i, i < n → In16 (f i)) : ∀ k, k ≤ n → (hpS f h k).good
  | 0, _ => hh
  | k + 1, hk => by
    have ih := hpS_good hh hf k (by omega)
    exact ⟨hf k (by omega), ih.1, sat16_bd _, ih.2.2.1⟩
theorem hpS_cut (f : Nat → Int) (h : HP) (m : Nat) : ∀ k, hpS f h (m + k) = hpS (fun i => f (m + i)) (hpS f h m) k
  | 0 => rfl
  | k + 1 => by rw [← Nat.add_assoc, hpS, hpS_cut f h m k, hpS]
theorem hpOut_cut (f : Nat → Int) (h : HP) (m k : Nat) : hpOut f h (m + k) = hpOut (fun i => f (m + i)) (hpS f h m) k := by
  unfold hpOut; rw [hpS_cut]
end Go.Proofs.Ytcoicmbjoaonoaa
