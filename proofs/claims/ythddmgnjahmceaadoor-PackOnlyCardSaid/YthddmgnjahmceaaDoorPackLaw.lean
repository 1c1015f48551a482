/-
  Packets as bits and bytes: plain Lean, no program. No statement is proved here.
-/
import Derived.Test.YthddmgnjahmceaaDoorGen
namespace Go.Proofs.YthddmgnjahmceaaDoor
/-- How many bits the fields have, what they may be at most, where they begin. -/
def bitsL : List Nat := [2, 6, 6, 5, 5, 4, 4, 3, 3, 6, 3, 4, 4, 4, 4, 4, 5, 6, 3, 4, 4, 4, 4, 4, 5]
def mostL : List Nat := [2, 63, 63, 31, 31, 15, 15, 7, 7, 59, 7, 9, 9, 9, 9, 15, 31, 59, 7, 9, 9, 9, 9, 15, 31]
def startL : List Nat := [0, 2, 8, 14, 19, 24, 28, 32, 35, 38, 44, 47, 51, 55, 59, 63, 67, 72, 78, 81, 85, 89, 93, 97, 101, 106]
def bitsF (j : Nat) : Nat := bitsL.getD j 0
def mostF (j : Nat) : Nat := mostL.getD j 0
def startF (j : Nat) : Nat := startL.getD j 0
theorem start_next {j : Nat} (h : j < 25) : startF (j + 1) = startF j + bitsF j := by
  have : ∀ j < 25, startF (j + 1) = startF j + bitsF j := by decide
  exact this j h
theorem most_lt {j : Nat} (h : j < 25) : mostF j < 2 ^ bitsF j := by
  have : ∀ j < 25, mostF j < 2 ^ bitsF j := by decide
  exact this j h
theorem bits_le {j : Nat} (h : j < 25) : 2 ≤ bitsF j ∧ bitsF j ≤ 6 := by
  have : ∀ j < 25, 2 ≤ bitsF j ∧ bitsF j ≤ 6 := by decide
  exact this j h
theorem start_le {j : Nat} (h : j < 25) : startF j + bitsF j ≤ 106 := by
  have : ∀ j < 25, startF j + bitsF j ≤ 106 := by decide
  exact this j h
/-- The field in which a bit lies. -/
def fieldL : List Nat := (List.range 25).flatMap fun j => List.replicate (bitsF j) j
def fieldF (i : Nat) : Nat := fieldL.getD i 25
theorem field_at {j m : Nat} (hj : j < 25) (hm : m < bitsF j) : fieldF (startF j + m) = j := by
  have : ∀ j < 25, ∀ m < 6, m < bitsF j → fieldF (startF j + m) = j := by decide
  exact this j hj m (by have := bits_le hj; omega) hm
theorem field_of {i : Nat} (hi : i < 106) : fieldF i < 25 ∧ startF (fieldF i) ≤ i ∧ i < startF (fieldF i) + bitsF (fieldF i) := by
  have : ∀ i < 106, fieldF i < 25 ∧ startF (fieldF i) ≤ i ∧ i < startF (fieldF i) + bitsF (fieldF i) := by decide
  exact this i hi
/-- n bits from place s on, as a number. -/
def valB (B : Nat → Nat) (s : Nat) : Nat → Nat
  | 0 => 0
  | n + 1 => 2 * valB B s n + B (s + n)
theorem valB_congr {B C : Nat → Nat} {s : Nat} : ∀ n, (∀ m, m < n → B (s + m) = C (s + m)) → valB B s n = valB C s n
  | 0, _ => rfl
  | n + 1, h => by rw [valB, valB, valB_congr n (fun m hm => h m (by omega)), h n (by omega)]
theorem valB_lt {B : Nat → Nat} {s : Nat} : ∀ n, (∀ m, m < n → B (s + m) < 2) → valB B s n < 2 ^ n
  | 0, _ => by simp [valB]
  | n + 1, h => by
    have := valB_lt n (fun m hm => h m (by omega))
    have := h n (by omega)
    rw [valB, Nat.pow_succ]; omega
/-- Bit m of n, from the top. -/
def bitOf (v n m : Nat) : Nat := v / 2 ^ (n - 1 - m) % 2
theorem bitOf_lt (v n m : Nat) : bitOf v n m < 2 := Nat.mod_lt _ (by omega)
theorem val_of_bits {B : Nat → Nat} {s : Nat} : ∀ (n v : Nat), (∀ m, m < n → B (s + m) = bitOf v n m) → valB B s n = v % 2 ^ n
  | 0, v, _ => by simp [valB, Nat.mod_one]
  | n + 1, v, h => by
    have ih := val_of_bits (B := B) (s := s) n (v / 2) (fun m hm => by
      rw [h m (by omega)]
      unfold bitOf
      rw [Nat.div_div_eq_div_mul, show n + 1 - 1 - m = (n - 1 - m) + 1 by omega, Nat.pow_succ, Nat.mul_comm])
    have h0 := h n (by omega)
    unfold bitOf at h0
    rw [show n + 1 - 1 - n = 0 by omega, Nat.pow_zero, Nat.div_one] at h0
    rw [valB, ih, h0, Nat.pow_succ, Nat.mul_comm (2 ^ n) 2, Nat.mod_mul]
    omega
theorem bits_of_val {B : Nat → Nat} {s : Nat} : ∀ n, (∀ m, m < n → B (s + m) < 2) → ∀ m, m < n → bitOf (valB B s n) n m = B (s + m)
  | 0, _, m, hm => by omega
  | n + 1, h, m, hm => by
    have h0 := h n (by omega)
    by_cases e : m = n
    · subst e
      unfold bitOf
      rw [show m + 1 - 1 - m = 0 by omega, Nat.pow_zero, Nat.div_one, valB]
      omega
    · have ih := bits_of_val n (fun m hm => h m (by omega)) m (by omega)
      unfold bitOf at ih ⊢
      rw [← ih, valB, show n + 1 - 1 - m = (n - 1 - m) + 1 by omega, Nat.pow_succ, Nat.mul_comm (2 ^ (n - 1 - m)) 2, ← Nat.div_div_eq_div_mul]
      congr 2
      omega
/-- The bits of a packet: its fields, then a bit of parity, then noughts. -/
def bitP (p : Nat → Nat) (par : Nat) (i : Nat) : Nat := if i < 106 then bitOf (p (fieldF i)) (bitsF (fieldF i)) (i - startF (fieldF i)) else if i = 106 then par else 0
theorem bitP_lt {p : Nat → Nat} {par : Nat} (hp : par < 2) (i : Nat) : bitP p par i < 2 := by
  unfold bitP
  split
  · exact bitOf_lt _ _ _
  · split <;> omega
theorem bitP_field {p : Nat → Nat} {par j m : Nat} (hj : j < 25) (hm : m < bitsF j) : bitP p par (startF j + m) = bitOf (p j) (bitsF j) m := by
  have := start_le hj
  unfold bitP
  rw [if_pos (by omega), field_at hj hm, show startF j + m - startF j = m by omega]
theorem field_back {p : Nat → Nat} {par j : Nat} (hj : j < 25) (hp : p j ≤ mostF j) : valB (bitP p par) (startF j) (bitsF j) = p j := by
  rw [val_of_bits (bitsF j) (p j) (fun m hm => bitP_field hj hm)]
  have := most_lt hj
  exact Nat.mod_eq_of_lt (by omega)
theorem par_back {p : Nat → Nat} {par : Nat} : bitP p par 106 = par := by simp [bitP]
theorem bits_back {B : Nat → Nat} (hB : ∀ i, B i < 2) (p : Nat → Nat) (hp : ∀ j, j < 25 → p j = valB B (startF j) (bitsF j)) (h0 : ∀ i, 107 ≤ i → i < 112 → B i = 0) : ∀ i, i < 112 → bitP p (B 106) i = B i := fun i hi => by
  unfold bitP
  by_cases h : i < 106
  · rw [if_pos h]
    obtain ⟨a1, a2, a3⟩ := field_of h
    rw [hp _ a1, bits_of_val _ (fun m _ => hB _) _ (by omega), show startF (fieldF i) + (i - startF (fieldF i)) = i by omega]
  · rw [if_neg h]
    by_cases h6 : i = 106
    · rw [if_pos h6, h6]
    · rw [if_neg h6, h0 i (by omega) hi]
/-- The bits of bytes. -/
def bitB (b : Nat → Nat) (i : Nat) : Nat := b (i / 8) / 2 ^ (7 - i % 8) % 2
theorem bitB_lt (b : Nat → Nat) (i : Nat) : bitB b i < 2 := Nat.mod_lt _ (by omega)
theorem byte_of_bits {b : Nat → Nat} {j : Nat} (h : b j < 256) : valB (bitB b) (8 * j) 8 = b j := by
  rw [val_of_bits 8 (b j) (fun m hm => by unfold bitB bitOf; rw [show (8 * j + m) / 8 = j by omega, show (8 * j + m) % 8 = m by omega])]
  exact Nat.mod_eq_of_lt (by omega)
theorem bits_of_byte {B : Nat → Nat} (hB : ∀ i, B i < 2) {b : Nat → Nat} {i : Nat} (h : b (i / 8) = valB B (8 * (i / 8)) 8) : bitB b i = B i := by
  unfold bitB
  rw [h]
  have := bits_of_val (B := B) (s := 8 * (i / 8)) 8 (fun m _ => hB _) (i % 8) (by omega)
  unfold bitOf at this
  rw [show 8 - 1 - i % 8 = 7 - i % 8 by omega] at this
  rw [this, show 8 * (i / 8) + i % 8 = i by omega]
/-- Only the first bits. -/
def upTo (B : Nat → Nat) (at_ : Nat) : Nat → Nat := fun i => if i < at_ then B i else 0
def byteN (B : Nat → Nat) (at_ j : Nat) : Nat := valB (upTo B at_) (8 * j) 8
theorem or_bits : ∀ r < 8, ∀ x < 256, x % 2 ^ (8 - r) = 0 → ∀ b < 2, x ||| (b * 2 ^ (7 - r)) = x + b * 2 ^ (7 - r) := by decide +kernel
theorem valB_8 (B : Nat → Nat) (s : Nat) : valB B s 8 = 128 * B s + 64 * B (s + 1) + 32 * B (s + 2) + 16 * B (s + 3) + 8 * B (s + 4) + 4 * B (s + 5) + 2 * B (s + 6) + B (s + 7) := by
  simp only [valB, Nat.add_zero]; omega
theorem byteN_lt {B : Nat → Nat} (hB : ∀ i, B i < 2) (a j : Nat) : byteN B a j < 256 := valB_lt 8 fun m _ => by
  unfold upTo
  split
  · exact hB _
  · omega
theorem byteN_same {B : Nat → Nat} {a j : Nat} (h : j ≠ a / 8) : byteN B (a + 1) j = byteN B a j := valB_congr 8 fun m hm => by
  unfold upTo
  by_cases h1 : 8 * j + m < a
  · rw [if_pos (by omega), if_pos h1]
  · rw [if_neg (by omega), if_neg h1]
theorem byteN_step {B : Nat → Nat} (hB : ∀ i, B i < 2) (a : Nat) : byteN B (a + 1) (a / 8) = byteN B a (a / 8) ||| (B a * 2 ^ (7 - a % 8)) := by
  have hr : a % 8 < 8 := by omega
  have key : byteN B (a + 1) (a / 8) = byteN B a (a / 8) + B a * 2 ^ (7 - a % 8) ∧ byteN B a (a / 8) % 2 ^ (8 - a % 8) = 0 := by
    have ha : a = 8 * (a / 8) + a % 8 := by omega
    generalize a / 8 = q at *
    generalize a % 8 = r at *
    subst ha
    unfold byteN
    rw [valB_8, valB_8]
    have up : ∀ c m, upTo B (8 * q + c) (8 * q + m) = if m < c then B (8 * q + m) else 0 := fun c m => by
      unfold upTo
      by_cases h : m < c
      · rw [if_pos (by omega), if_pos h]
      · rw [if_neg (by omega), if_neg h]
    have up0 : ∀ c, upTo B (8 * q + c) (8 * q) = if 0 < c then B (8 * q) else 0 := fun c => up c 0
    have : r = 0 ∨ r = 1 ∨ r = 2 ∨ r = 3 ∨ r = 4 ∨ r = 5 ∨ r = 6 ∨ r = 7 := by omega
    simp only [Nat.add_assoc, up, up0]
    clear up up0
    rcases this with rfl | rfl | rfl | rfl | rfl | rfl | rfl | rfl <;> simp <;> omega
  rw [or_bits (a % 8) hr _ (byteN_lt hB _ _) key.2 (B a) (hB a)]
  exact key.1
theorem byteN_all {B : Nat → Nat} {a j : Nat} (h : 8 * j + 8 ≤ a) : byteN B a j = valB B (8 * j) 8 := valB_congr 8 fun m hm => by unfold upTo; rw [if_pos (by omega)]
theorem byteN_zero (B : Nat → Nat) (j : Nat) : byteN B 0 j = 0 := by
  unfold byteN
  have : ∀ n, valB (upTo B 0) (8 * j) n = 0 := by
    intro n
    induction n with
    | zero => rfl
    | succ n ih => rw [valB, ih]; simp [upTo]
  exact this 8
/-- The sum ahead of the last byte. -/
def sumN (b : Nat → Nat) : Nat → Nat
  | 0 => 90
  | n + 1 => sumN b n + b n
theorem sumN_congr {b c : Nat → Nat} : ∀ n, (∀ i, i < n → b i = c i) → sumN b n = sumN c n
  | 0, _ => rfl
  | n + 1, h => by rw [sumN, sumN, sumN_congr n (fun i hi => h i (by omega)), h n (by omega)]
theorem sumN_le {b : Nat → Nat} (h : ∀ i, b i < 256) : ∀ n, sumN b n ≤ 90 + 255 * n
  | 0 => by simp [sumN]
  | n + 1 => by have := sumN_le h n; have := h n; rw [sumN]; omega
/-- The bytes of a packet. -/
def packB (p : Nat → Nat) (par : Nat) : Nat → Nat := fun j => if j < 14 then byteN (bitP p par) 112 j else if j = 14 then sumN (byteN (bitP p par) 112) 14 % 256 else 0
/-- One byte that is another one: another sum. -/
theorem sumN_turned {b : Nat → Nat} {k x : Nat} (hk : ∀ i, b i < 256) (hx : x < 256) (hne : x ≠ b k) : ∀ n, k < n → sumN (fun i => if i = k then x else b i) n % 256 ≠ sumN b n % 256 := by
  have low : ∀ n, n ≤ k → sumN (fun i => if i = k then x else b i) n = sumN b n := fun n hn => sumN_congr n fun i hi => by rw [if_neg (by omega)]
  have high : ∀ n, k < n → sumN (fun i => if i = k then x else b i) n + b k = sumN b n + x := by
    intro n hn
    induction n with
    | zero => omega
    | succ n ih =>
      by_cases e : n = k
      · subst e
        rw [sumN, sumN, low n (Nat.le_refl _), if_pos rfl]; omega
      · have := ih (by omega)
        rw [sumN, sumN, if_neg e]; omega
  intro n hn
  have h := high n hn
  have := hk k
  omega
end Go.Proofs.YthddmgnjahmceaaDoor
