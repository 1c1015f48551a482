/-
  Several texts of this claim, one behind the other: PackLaw, Fields. No statement is proved here.
-/
import Derived.Test.YtcoicmbjoaonoaaDoorZaa
import Derived.Test.YtcoicmbjoaonoaaDoorZaj
import Derived.Test.YtcoicmbjoaonoaaDoorZad
import Derived.Test.YtcoicmbjoaonoaaDoorZae
/-
  Packets as bits and bytes: plain Lean, no program. No statement is proved here.
-/
namespace Go.Proofs.YtcoicmbjoaonoaaDoor
set_option linter.unusedVariables false
set_option linter.unusedSimpArgs false
/-- How many bits the fields have, what they may be at most, where they begin. -/
def bitsL : List Nat := [2, 6, 6, 5, 5, 4, 4, 3, 3, 6, 3, 4, 4, 4, 4, 4, 5, 6, 3, 4, 4, 4, 4, 4, 5]
def mostL : List Nat := [2, 63, 63, 31, 31, 15, 15, 7, 7, 59, 7, 9, 9, 9, 9, 15, 31, 59, 7, 9, 9, 9, 9, 15, 31]
def startL : List Nat := [0, 2, 8, 14, 19, 24, 28, 32, 35, 38, 44, 47, 51, 55, 59, 63, 67, 72, 78, 81, 85, 89, 93, 97, 101, 106]
def bitsF (j : Nat) : Nat := bitsL.getD j 0
def mostF (j : Nat) : Nat := mostL.getD j 0
def startF (j : Nat) : Nat := startL.getD j 0
theorem start_next {j : Nat} (h : j < 25) : startF (j + 1) = startF j + bitsF j := by
  have : ∀ j < 25, startF (j + 1) = startF j + bitsF j := by decide
  exact this j h
theorem most_lt {j : Nat} (h : j < 25) : mostF j < 2 ^ bitsF j := by
  have : ∀ j < 25, mostF j < 2 ^ bitsF j := by decide
  exact this j h
theorem bits_le {j : Nat} (h : j < 25) : 2 ≤ bitsF j ∧ bitsF j ≤ 6 := by
  have : ∀ j < 25, 2 ≤ bitsF j ∧ bitsF j ≤ 6 := by decide
  exact this j h
theorem start_le {j : Nat} (h : j < 25) : startF j + bitsF j ≤ 106 := by
  have : ∀ j < 25, startF j + bitsF j ≤ 106 := by decide
  exact this j h
/-- The field in which a bit lies. -/
def fieldL : List Nat := (List.range 25).flatMap fun j => List.replicate (bitsF j) j
def fieldF (i : Nat) : Nat := fieldL.getD i 25
theorem field_at {j m : Nat} (hj : j < 25) (hm : m < bitsF j) : fieldF (startF j + m) = j := by
  have : ∀ j < 25, ∀ m < 6, m < bitsF j → fieldF (startF j + m) = j := by decide
  exact this j hj m (by have := bits_le hj; omega) hm
theorem field_of {i : Nat} (hi : i < 106) : fieldF i < 25 ∧ startF (fieldF i) ≤ i ∧ i < startF (fieldF i) + bitsF (fieldF i) := by
  have : ∀ i < 106, fieldF i < 25 ∧ startF (fieldF i) ≤ i ∧ i < startF (fieldF i) + bitsF (fieldF i) := by decide
  exact this i hi
/-- n bits from place s on, as a number. -/
def valB (B : Nat → Nat) (s : Nat) : Nat → Nat
  | 0 => 0
  | n + 1 => 2 * valB B s n + B (s + n)
theorem valB_congr {B C : Nat → Nat} {s : Nat} : ∀ n, (∀ m, m < n → B (s + m) = C (s + m)) → valB B s n = valB C s n
  | 0, _ => rfl
  | n + 1, h => by rw [valB, valB, valB_congr n (fun m hm => h m (by omega)), h n (by omega)]
theorem valB_lt {B : Nat → Nat} {s : Nat} : ∀ n, (∀ m, m < n → B (s + m) < 2) → valB B s n < 2 ^ n
  | 0, _ => by simp [valB]
  | n + 1, h => by
    have := valB_lt n (fun m hm => h m (by omega))
    have := h n (by omega)
    rw [valB, Nat.pow_succ]; omega
/-- Bit m of n, from the top. -/
def bitOf (v n m : Nat) : Nat := v / 2 ^ (n - 1 - m) % 2
theorem bitOf_lt (v n m : Nat) : bitOf v n m < 2 := Nat.mod_lt _ (by omega)
theorem val_of_bits {B : Nat → Nat} {s : Nat} : ∀ (n v : Nat), (∀ m, m < n → B (s + m) = bitOf v n m) → valB B s n = v % 2 ^ n
  | 0, v, _ => by simp [valB, Nat.mod_one]
  | n + 1, v, h => by
    have ih := val_of_bits (B := B) (s := s) n (v / 2) (fun m hm => by
      rw [h m (by omega)]
      unfold bitOf
      rw [Nat.div_div_eq_div_mul, show n + 1 - 1 - m = (n - 1 - m) + 1 by omega, Nat.pow_succ, Nat.mul_comm])
    have h0 := h n (by omega)
    unfold bitOf at h0
    rw [show n + 1 - 1 - n = 0 by omega, Nat.pow_zero, Nat.div_one] at h0
    rw [valB, ih, h0, Nat.pow_succ, Nat.mul_comm (2 ^ n) 2, Nat.mod_mul]
    omega
theorem bits_of_val {B : Nat → Nat} {s : Nat} : ∀ n, (∀ m, m < n → B (s + m) < 2) → ∀ m, m < n → bitOf (valB B s n) n m = B (s + m)
  | 0, _, m, hm => by omega
  | n + 1, h, m, hm => by
    have h0 := h n (by omega)
    by_cases e : m = n
    · subst e
      unfold bitOf
      rw [show m + 1 - 1 - m = 0 by omega, Nat.pow_zero, Nat.div_one, valB]
      omega
    · have ih := bits_of_val n (fun m hm => h m (by omega)) m (by omega)
      unfold bitOf at ih ⊢
      rw [← ih, valB, show n + 1 - 1 - m = (n - 1 - m) + 1 by omega, Nat.pow_succ, Nat.mul_comm (2 ^ (n - 1 - m)) 2, ← Nat.div_div_eq_div_mul]
      congr 2
      omega
/-- The bits of a packet: its fields, then a bit of parity, then noughts. -/
def bitP (p : Nat → Nat) (par : Nat) (i : Nat) : Nat := if i < 106 then bitOf (p (fieldF i)) (bitsF (fieldF i)) (i - startF (fieldF i)) else if i = 106 then par else 0
theorem bitP_lt {p : Nat → Nat} {par : Nat} (hp : par < 2) (i : Nat) : bitP p par i < 2 := by
  unfold bitP
  split
  · exact bitOf_lt _ _ _
  · split <;> omega
theorem bitP_field {p : Nat → Nat} {par j m : Nat} (hj : j < 25) (hm : m < bitsF j) : bitP p par (startF j + m) = bitOf (p j) (bitsF j) m := by
  have := start_le hj
  unfold bitP
  rw [if_pos (by omega), field_at hj hm, show startF j + m - startF j = m by omega]
theorem field_back {p : Nat → Nat} {par j : Nat} (hj : j < 25) (hp : p j ≤ mostF j) : valB (bitP p par) (startF j) (bitsF j) = p j := by
  rw [val_of_bits (bitsF j) (p j) (fun m hm => bitP_field hj hm)]
  have := most_lt hj
  exact Nat.mod_eq_of_lt (by omega)
theorem par_back {p : Nat → Nat} {par : Nat} : bitP p par 106 = par := by simp [bitP]
theorem bits_back {B : Nat → Nat} (hB : ∀ i, B i < 2) (p : Nat → Nat) (hp : ∀ j, j < 25 → p j = valB B (startF j) (bitsF j)) (h0 : ∀ i, 107 ≤ i → i < 112 → B i = 0) : ∀ i, i < 112 → bitP p (B 106) i = B i := fun i hi => by
  unfold bitP
  by_cases h : i < 106
  · rw [if_pos h]
    obtain ⟨a1, a2, a3⟩ := field_of h
    rw [hp _ a1, bits_of_val _ (fun m _ => hB _) _ (by omega), show startF (fieldF i) + (i - startF (fieldF i)) = i by omega]
  · rw [if_neg h]
    by_cases h6 : i = 106
    · rw [if_pos h6, h6]
    · rw [if_neg h6, h0 i (by omega) hi]
/-- The bits of bytes. -/
def bitB (b : Nat → Nat) (i : Nat) : Nat := b (i / 8) / 2 ^ (7 - i % 8) % 2
theorem bitB_lt (b : Nat → Nat) (i : Nat) : bitB b i < 2 := Nat.mod_lt _ (by omega)
theorem byte_of_bits {b : Nat → Nat} {j : Nat} (h : b j < 256) : valB (bitB b) (8 * j) 8 = b j := by
  rw [val_of_bits 8 (b j) (fun m hm => by unfold bitB bitOf; rw [show (8 * j + m) / 8 = j by omega, show (8 * j + m) % 8 = m by omega])]
  exact Nat.mod_eq_of_lt (by omega)
theorem bits_of_byte {B : Nat → Nat} (hB : ∀ i, B i < 2) {b : Nat → Nat} {i : Nat} (h : b (i / 8) = valB B (8 * (i / 8)) 8) : bitB b i = B i := by
  unfold bitB
  rw [h]
  have := bits_of_val (B := B) (s := 8 * (i / 8)) 8 (fun m _ => hB _) (i % 8) (by omega)
  unfold bitOf at this
  rw [show 8 - 1 - i % 8 = 7 - i % 8 by omega] at this
  rw [this, show 8 * (i / 8) + i % 8 = i by omega]
/-- Only the first bits. -/
def upTo (B : Nat → Nat) (at_ : Nat) : Nat → Nat := fun i => if i < at_ then B i else 0
def byteN (B : Nat → Nat) (at_ j : Nat) : Nat := valB (upTo B at_) (8 * j) 8
theorem or_bits : ∀ r < 8, ∀ x < 256, x % 2 ^ (8 - r) = 0 → ∀ b < 2, x ||| (b * 2 ^ (7 - r)) = x + b * 2 ^ (7 - r) := by decide +kernel
theorem valB_8 (B : Nat → Nat) (s : Nat) : valB B s 8 = 128 * B s + 64 * B (s + 1) + 32 * B (s + 2) + 16 * B (s + 3) + 8 * B (s + 4) + 4 * B (s + 5) + 2 * B (s + 6) + B (s + 7) := by
  simp only [valB, Nat.add_zero]; omega
theorem byteN_lt {B : Nat → Nat} (hB : ∀ i, B i < 2) (a j : Nat) : byteN B a j < 256 := valB_lt 8 fun m _ => by
  unfold upTo
  split
  · exact hB _
  · omega
theorem byteN_same {B : Nat → Nat} {a j : Nat} (h : j ≠ a / 8) : byteN B (a + 1) j = byteN B a j := valB_congr 8 fun m hm => by
  unfold upTo
  by_cases h1 : 8 * j + m < a
  · rw [if_pos (by omega), if_pos h1]
  · rw [if_neg (by omega), if_neg h1]
theorem byteN_step {B : Nat → Nat} (hB : ∀ i, B i < 2) (a : Nat) : byteN B (a + 1) (a / 8) = byteN B a (a / 8) ||| (B a * 2 ^ (7 - a % 8)) := by
  have hr : a % 8 < 8 := by omega
  have key : byteN B (a + 1) (a / 8) = byteN B a (a / 8) + B a * 2 ^ (7 - a % 8) ∧ byteN B a (a / 8) % 2 ^ (8 - a % 8) = 0 := by
    have ha : a = 8 * (a / 8) + a % 8 := by omega
    generalize a / 8 = q at *
    generalize a % 8 = r at *
    subst ha
    unfold byteN
    rw [valB_8, valB_8]
    have up : ∀ c m, upTo B (8 * q + c) (8 * q + m) = if m < c then B (8 * q + m) else 0 := fun c m => by
      unfold upTo
      by_cases h : m < c
      · rw [if_pos (by omega), if_pos h]
      · rw [if_neg (by omega), if_neg h]
    have up0 : ∀ c, upTo B (8 * q + c) (8 * q) = if 0 < c then B (8 * q) else 0 := fun c => up c 0
    have : r = 0 ∨ r = 1 ∨ r = 2 ∨ r = 3 ∨ r = 4 ∨ r = 5 ∨ r = 6 ∨ r = 7 := by omega
    simp only [Nat.add_assoc, up, up0]
    clear up up0
    rcases this with rfl | rfl | rfl | rfl | rfl | rfl | rfl | rfl <;> simp <;> omega
  rw [or_bits (a % 8) hr _ (byteN_lt hB _ _) key.2 (B a) (hB a)]
  exact key.1
theorem byteN_all {B : Nat → Nat} {a j : Nat} (h : 8 * j + 8 ≤ a) : byteN B a j = valB B (8 * j) 8 := valB_congr 8 fun m hm => by unfold upTo; rw [if_pos (by omega)]
theorem byteN_zero (B : Nat → Nat) (j : Nat) : byteN B 0 j = 0 := by
  unfold byteN
  have : ∀ n, valB (upTo B 0) (8 * j) n = 0 := by
    intro n
    induction n with
    | zero => rfl
    | succ n ih => rw [valB, ih]; simp [upTo]
  exact this 8
/-- The sum ahead of the last byte. -/
def sumN (b : Nat → Nat) : Nat → Nat
  | 0 => 90
  | n + 1 => sumN b n + b n
theorem sumN_congr {b c : Nat → Nat} : ∀ n, (∀ i, i < n → b i = c i) → sumN b n = sumN c n
  | 0, _ => rfl
  | n + 1, h => by rw [sumN, sumN, sumN_congr n (fun i hi => h i (by omega)), h n (by omega)]
theorem sumN_le {b : Nat → Nat} (h : ∀ i, b i < 256) : ∀ n, sumN b n ≤ 90 + 255 * n
  | 0 => by simp [sumN]
  | n + 1 => by have := sumN_le h n; have := h n; rw [sumN]; omega
/-- The bytes of a packet. -/
def packB (p : Nat → Nat) (par : Nat) : Nat → Nat := fun j => if j < 14 then byteN (bitP p par) 112 j else if j = 14 then sumN (byteN (bitP p par) 112) 14 % 256 else 0
/-- One byte that is another one: another sum. -/
theorem sumN_turned {b : Nat → Nat} {k x : Nat} (hk : ∀ i, b i < 256) (hx : x < 256) (hne : x ≠ b k) : ∀ n, k < n → sumN (fun i => if i = k then x else b i) n % 256 ≠ sumN b n % 256 := by
  have low : ∀ n, n ≤ k → sumN (fun i => if i = k then x else b i) n = sumN b n := fun n hn => sumN_congr n fun i hi => by rw [if_neg (by omega)]
  have high : ∀ n, k < n → sumN (fun i => if i = k then x else b i) n + b k = sumN b n + x := by
    intro n hn
    induction n with
    | zero => omega
    | succ n ih =>
      by_cases e : n = k
      · subst e
        rw [sumN, sumN, low n (Nat.le_refl _), if_pos rfl]; omega
      · have := ih (by omega)
        rw [sumN, sumN, if_neg e]; omega
  intro n hn
  have h := high n hn
  have := hk k
  omega
end Go.Proofs.YtcoicmbjoaonoaaDoor
/-
  pack.fields walked. No statement is proved here.
-/
namespace Go.Proofs.YtcoicmbjoaonoaaDoor
set_option linter.unusedVariables false
set_option linter.unusedSimpArgs false
open Go.RowKit
set_option maxRecDepth 100000
/-- A field: where it stands, how many bits it has, how much it may be. -/
def fieldRow (g j : Nat) : Array Value := #[.pointer (some ⟨g, j, none⟩), .int .i64 (bitsF j : Nat), .int .i64 (mostF j : Nat)]
def fieldC (g : Nat) (i : Nat) : Value := (fieldRow g (i / 3)).getD (i % 3) undef
theorem fieldC_at (g j r : Nat) (h : r < 3) : fieldC g (3 * j + r) = (fieldRow g j).getD r undef := by
  unfold fieldC
  rw [show (3 * j + r) / 3 = j by omega, show (3 * j + r) % 3 = r by omega]
theorem fieldRow_get (g j r : Nat) (h : r < 3) : (fieldRow g j)[r]? = some (fieldC g (3 * j + r)) := by
  rw [fieldC_at g j r h]
  have : r = 0 ∨ r = 1 ∨ r = 2 := by omega
  rcases this with rfl | rfl | rfl <;> rfl
theorem fieldRow2_get (g j r : Nat) (h : r < 6) : (fieldRow g j ++ fieldRow g (j + 1))[r]? = some (fieldC g (3 * j + r)) := by
  by_cases h3 : r < 3
  · rw [Array.getElem?_append_left (by show r < 3; exact h3)]
    exact fieldRow_get g j r h3
  · rw [Array.getElem?_append_right (by show 3 ≤ r; omega)]
    have := fieldRow_get g (j + 1) (r - 3) (by omega)
    rw [show 3 * (j + 1) + (r - 3) = 3 * j + r by omega] at this
    exact this
theorem fieldC_one (g i : Nat) : (fieldC g i).oneCell' = true := by
  unfold fieldC
  have : i % 3 = 0 ∨ i % 3 = 1 ∨ i % 3 = 2 := by omega
  rcases this with h | h | h <;> rw [h] <;> rfl
theorem Rowed.more {e : TypeId} {v : Value} {n m g : Nat} {tl : List (Nat × TypeId × Array Value)} (R : Rowed e 3 v (n + m) (glue (n * 3) (fieldC g) (fun j => fieldC g (3 * n + j))) tl) : Rowed e 3 v (n + m) (fieldC g) tl :=
  R.congr fun i hi => by
    unfold glue
    split
    · rfl
    · show fieldC g (3 * n + (i - n * 3)) = _
      rw [show 3 * n + (i - n * 3) = i by omega]
def FieldsPost (g : Nat) (w : World) (e : Ending) (w' : World) : Prop := ∃ v tl, e = .returned v ∧ Rowed 98 3 v 25 (fieldC g) tl ∧ Has w w' tl
set_option maxHeartbeats 6400000 in
set_option maxRecDepth 100000 in
theorem fields_any (g : Nat) (w : World) (hT : Widths w) : Calls Tryd.prog 45 #[.pointer (some ⟨g, 0, none⟩)] w (FieldsPost g w) := by
  have H := Has.start w
  go_enter Tryd.func45, Tryd.ntmps45
  go_wp2_with ((refine wpList_on (o := ⟨some 13, .buildSlice _ _ _, _, _, _, _⟩) rfl (fun K hK => ?_)); refine wp_made H (elem := 98) (n := 1) (cs := fieldRow g 0) (by kernel_rfl) ?_; clear H; intro u g1 H; refine hK _ _ ?_; clear hK K)
  have RO : Rowed 98 3 (.slice (some ⟨g1, 0, none⟩) 1 1) 1 (fieldC g) [(g1, 98, fieldRow g 0)] := .inr ⟨g1, 1, fieldRow g 0, rfl, rfl, Nat.le_refl _, (by unfold maxLen; omega), rfl, fun i hi => by have := fieldRow_get g 0 i (by omega); rwa [show 3 * 0 + i = i by omega] at this⟩
  go_loopw [3, 14] (fun v c wr => ∃ (k : Nat) (tl : List (Nat × TypeId × Array Value)), k ≤ 8 ∧ c = .int .i64 k ∧ Hid (Rowed 98 3 v (1 + k) (fieldC g) tl) ∧ Has w wr tl) (fun _ c _ => 8 - (intOf c).toNat)
  case atStart => exact ⟨0, _, by omega, rfl, RO, H⟩
  clear H RO
  case round =>
    obtain ⟨k, tl, hk, rfl, RO, H⟩ := hrel
    replace RO := RO.out
    by_cases hlt : k < 8
    · obtain rfl | rfl | rfl | rfl | rfl | rfl | rfl | rfl : k = 0 ∨ k = 1 ∨ k = 2 ∨ k = 3 ∨ k = 4 ∨ k = 5 ∨ k = 6 ∨ k = 7 := by omega
      · have c1 := Lib.hid (show Calls Tryd.prog 84 #[.int .i64 0] wr (fun e w' => e = .returned (.int .i64 6) ∧ wr = w') from Width_any 0 wr (hT.has H) (by omega) (by omega))
        go_wp2_with (first | (go_at_call 84; (with_reducible refine (c1.out).mono ?_); rintro e w1 ⟨rfl, rfl⟩) | ((refine wpList_on (o := ⟨some 31, .buildSlice _ _ _, _, _, _, _⟩) rfl (fun K hK => ?_)); refine wp_made H (elem := 98) (n := 1) (cs := fieldRow g 1) (by kernel_rfl) ?_; clear H; intro u gs H; refine hK _ _ ?_; clear hK K) | ((refine wpList_on (o := ⟨some 32, .call { callee := .builtin .append, args := #[_, _], argTypes := #[93, 93] }, _, _, _, _⟩) rfl (fun K hK => ?_)); refine wp_append_has (bs := [_]) (e := 98) (s := 3) (B := 24) (m := 1) (nw := fun i => fieldC g (3 * (1 + 0) + i)) _ _ 93 rfl H RO rfl rfl (by kernel_rfl) (From.block (e := 98) (B := 24) H (by kernel_rfl) List.mem_cons_self (fun i hi => fieldRow_get g _ i (by omega)) (fun i hi => fieldC_one _ _)) (by unfold maxLen; omega) (by omega) ?_; clear H RO; intro v' u tl' RO H; refine hK _ _ ?_; clear hK K))
        go_roundw
        case rel => exact ⟨1, tl', by omega, by go_num, RO.more, H.tail⟩
        case measure => simp [intOf]
      · have c1 := Lib.hid (show Calls Tryd.prog 84 #[.int .i64 1] wr (fun e w' => e = .returned (.int .i64 6) ∧ wr = w') from Width_any 1 wr (hT.has H) (by omega) (by omega))
        go_wp2_with (first | (go_at_call 84; (with_reducible refine (c1.out).mono ?_); rintro e w1 ⟨rfl, rfl⟩) | ((refine wpList_on (o := ⟨some 31, .buildSlice _ _ _, _, _, _, _⟩) rfl (fun K hK => ?_)); refine wp_made H (elem := 98) (n := 1) (cs := fieldRow g 2) (by kernel_rfl) ?_; clear H; intro u gs H; refine hK _ _ ?_; clear hK K) | ((refine wpList_on (o := ⟨some 32, .call { callee := .builtin .append, args := #[_, _], argTypes := #[93, 93] }, _, _, _, _⟩) rfl (fun K hK => ?_)); refine wp_append_has (bs := [_]) (e := 98) (s := 3) (B := 24) (m := 1) (nw := fun i => fieldC g (3 * (1 + 1) + i)) _ _ 93 rfl H RO rfl rfl (by kernel_rfl) (From.block (e := 98) (B := 24) H (by kernel_rfl) List.mem_cons_self (fun i hi => fieldRow_get g _ i (by omega)) (fun i hi => fieldC_one _ _)) (by unfold maxLen; omega) (by omega) ?_; clear H RO; intro v' u tl' RO H; refine hK _ _ ?_; clear hK K))
        go_roundw
        case rel => exact ⟨2, tl', by omega, by go_num, RO.more, H.tail⟩
        case measure => simp [intOf]
      · have c1 := Lib.hid (show Calls Tryd.prog 84 #[.int .i64 2] wr (fun e w' => e = .returned (.int .i64 5) ∧ wr = w') from Width_any 2 wr (hT.has H) (by omega) (by omega))
        go_wp2_with (first | (go_at_call 84; (with_reducible refine (c1.out).mono ?_); rintro e w1 ⟨rfl, rfl⟩) | ((refine wpList_on (o := ⟨some 31, .buildSlice _ _ _, _, _, _, _⟩) rfl (fun K hK => ?_)); refine wp_made H (elem := 98) (n := 1) (cs := fieldRow g 3) (by kernel_rfl) ?_; clear H; intro u gs H; refine hK _ _ ?_; clear hK K) | ((refine wpList_on (o := ⟨some 32, .call { callee := .builtin .append, args := #[_, _], argTypes := #[93, 93] }, _, _, _, _⟩) rfl (fun K hK => ?_)); refine wp_append_has (bs := [_]) (e := 98) (s := 3) (B := 24) (m := 1) (nw := fun i => fieldC g (3 * (1 + 2) + i)) _ _ 93 rfl H RO rfl rfl (by kernel_rfl) (From.block (e := 98) (B := 24) H (by kernel_rfl) List.mem_cons_self (fun i hi => fieldRow_get g _ i (by omega)) (fun i hi => fieldC_one _ _)) (by unfold maxLen; omega) (by omega) ?_; clear H RO; intro v' u tl' RO H; refine hK _ _ ?_; clear hK K))
        go_roundw
        case rel => exact ⟨3, tl', by omega, by go_num, RO.more, H.tail⟩
        case measure => simp [intOf]
      · have c1 := Lib.hid (show Calls Tryd.prog 84 #[.int .i64 3] wr (fun e w' => e = .returned (.int .i64 5) ∧ wr = w') from Width_any 3 wr (hT.has H) (by omega) (by omega))
        go_wp2_with (first | (go_at_call 84; (with_reducible refine (c1.out).mono ?_); rintro e w1 ⟨rfl, rfl⟩) | ((refine wpList_on (o := ⟨some 31, .buildSlice _ _ _, _, _, _, _⟩) rfl (fun K hK => ?_)); refine wp_made H (elem := 98) (n := 1) (cs := fieldRow g 4) (by kernel_rfl) ?_; clear H; intro u gs H; refine hK _ _ ?_; clear hK K) | ((refine wpList_on (o := ⟨some 32, .call { callee := .builtin .append, args := #[_, _], argTypes := #[93, 93] }, _, _, _, _⟩) rfl (fun K hK => ?_)); refine wp_append_has (bs := [_]) (e := 98) (s := 3) (B := 24) (m := 1) (nw := fun i => fieldC g (3 * (1 + 3) + i)) _ _ 93 rfl H RO rfl rfl (by kernel_rfl) (From.block (e := 98) (B := 24) H (by kernel_rfl) List.mem_cons_self (fun i hi => fieldRow_get g _ i (by omega)) (fun i hi => fieldC_one _ _)) (by unfold maxLen; omega) (by omega) ?_; clear H RO; intro v' u tl' RO H; refine hK _ _ ?_; clear hK K))
        go_roundw
        case rel => exact ⟨4, tl', by omega, by go_num, RO.more, H.tail⟩
        case measure => simp [intOf]
      · have c1 := Lib.hid (show Calls Tryd.prog 84 #[.int .i64 4] wr (fun e w' => e = .returned (.int .i64 4) ∧ wr = w') from Width_any 4 wr (hT.has H) (by omega) (by omega))
        go_wp2_with (first | (go_at_call 84; (with_reducible refine (c1.out).mono ?_); rintro e w1 ⟨rfl, rfl⟩) | ((refine wpList_on (o := ⟨some 31, .buildSlice _ _ _, _, _, _, _⟩) rfl (fun K hK => ?_)); refine wp_made H (elem := 98) (n := 1) (cs := fieldRow g 5) (by kernel_rfl) ?_; clear H; intro u gs H; refine hK _ _ ?_; clear hK K) | ((refine wpList_on (o := ⟨some 32, .call { callee := .builtin .append, args := #[_, _], argTypes := #[93, 93] }, _, _, _, _⟩) rfl (fun K hK => ?_)); refine wp_append_has (bs := [_]) (e := 98) (s := 3) (B := 24) (m := 1) (nw := fun i => fieldC g (3 * (1 + 4) + i)) _ _ 93 rfl H RO rfl rfl (by kernel_rfl) (From.block (e := 98) (B := 24) H (by kernel_rfl) List.mem_cons_self (fun i hi => fieldRow_get g _ i (by omega)) (fun i hi => fieldC_one _ _)) (by unfold maxLen; omega) (by omega) ?_; clear H RO; intro v' u tl' RO H; refine hK _ _ ?_; clear hK K))
        go_roundw
        case rel => exact ⟨5, tl', by omega, by go_num, RO.more, H.tail⟩
        case measure => simp [intOf]
      · have c1 := Lib.hid (show Calls Tryd.prog 84 #[.int .i64 5] wr (fun e w' => e = .returned (.int .i64 4) ∧ wr = w') from Width_any 5 wr (hT.has H) (by omega) (by omega))
        go_wp2_with (first | (go_at_call 84; (with_reducible refine (c1.out).mono ?_); rintro e w1 ⟨rfl, rfl⟩) | ((refine wpList_on (o := ⟨some 31, .buildSlice _ _ _, _, _, _, _⟩) rfl (fun K hK => ?_)); refine wp_made H (elem := 98) (n := 1) (cs := fieldRow g 6) (by kernel_rfl) ?_; clear H; intro u gs H; refine hK _ _ ?_; clear hK K) | ((refine wpList_on (o := ⟨some 32, .call { callee := .builtin .append, args := #[_, _], argTypes := #[93, 93] }, _, _, _, _⟩) rfl (fun K hK => ?_)); refine wp_append_has (bs := [_]) (e := 98) (s := 3) (B := 24) (m := 1) (nw := fun i => fieldC g (3 * (1 + 5) + i)) _ _ 93 rfl H RO rfl rfl (by kernel_rfl) (From.block (e := 98) (B := 24) H (by kernel_rfl) List.mem_cons_self (fun i hi => fieldRow_get g _ i (by omega)) (fun i hi => fieldC_one _ _)) (by unfold maxLen; omega) (by omega) ?_; clear H RO; intro v' u tl' RO H; refine hK _ _ ?_; clear hK K))
        go_roundw
        case rel => exact ⟨6, tl', by omega, by go_num, RO.more, H.tail⟩
        case measure => simp [intOf]
      · have c1 := Lib.hid (show Calls Tryd.prog 84 #[.int .i64 6] wr (fun e w' => e = .returned (.int .i64 3) ∧ wr = w') from Width_any 6 wr (hT.has H) (by omega) (by omega))
        go_wp2_with (first | (go_at_call 84; (with_reducible refine (c1.out).mono ?_); rintro e w1 ⟨rfl, rfl⟩) | ((refine wpList_on (o := ⟨some 31, .buildSlice _ _ _, _, _, _, _⟩) rfl (fun K hK => ?_)); refine wp_made H (elem := 98) (n := 1) (cs := fieldRow g 7) (by kernel_rfl) ?_; clear H; intro u gs H; refine hK _ _ ?_; clear hK K) | ((refine wpList_on (o := ⟨some 32, .call { callee := .builtin .append, args := #[_, _], argTypes := #[93, 93] }, _, _, _, _⟩) rfl (fun K hK => ?_)); refine wp_append_has (bs := [_]) (e := 98) (s := 3) (B := 24) (m := 1) (nw := fun i => fieldC g (3 * (1 + 6) + i)) _ _ 93 rfl H RO rfl rfl (by kernel_rfl) (From.block (e := 98) (B := 24) H (by kernel_rfl) List.mem_cons_self (fun i hi => fieldRow_get g _ i (by omega)) (fun i hi => fieldC_one _ _)) (by unfold maxLen; omega) (by omega) ?_; clear H RO; intro v' u tl' RO H; refine hK _ _ ?_; clear hK K))
        go_roundw
        case rel => exact ⟨7, tl', by omega, by go_num, RO.more, H.tail⟩
        case measure => simp [intOf]
      · have c1 := Lib.hid (show Calls Tryd.prog 84 #[.int .i64 7] wr (fun e w' => e = .returned (.int .i64 3) ∧ wr = w') from Width_any 7 wr (hT.has H) (by omega) (by omega))
        go_wp2_with (first | (go_at_call 84; (with_reducible refine (c1.out).mono ?_); rintro e w1 ⟨rfl, rfl⟩) | ((refine wpList_on (o := ⟨some 31, .buildSlice _ _ _, _, _, _, _⟩) rfl (fun K hK => ?_)); refine wp_made H (elem := 98) (n := 1) (cs := fieldRow g 8) (by kernel_rfl) ?_; clear H; intro u gs H; refine hK _ _ ?_; clear hK K) | ((refine wpList_on (o := ⟨some 32, .call { callee := .builtin .append, args := #[_, _], argTypes := #[93, 93] }, _, _, _, _⟩) rfl (fun K hK => ?_)); refine wp_append_has (bs := [_]) (e := 98) (s := 3) (B := 24) (m := 1) (nw := fun i => fieldC g (3 * (1 + 7) + i)) _ _ 93 rfl H RO rfl rfl (by kernel_rfl) (From.block (e := 98) (B := 24) H (by kernel_rfl) List.mem_cons_self (fun i hi => fieldRow_get g _ i (by omega)) (fun i hi => fieldC_one _ _)) (by unfold maxLen; omega) (by omega) ?_; clear H RO; intro v' u tl' RO H; refine hK _ _ ?_; clear hK K))
        go_roundw
        case rel => exact ⟨8, tl', by omega, by go_num, RO.more, H.tail⟩
        case measure => simp [intOf]
    · obtain rfl : k = 8 := by omega
      go_wp2
      simp only [show ((8 : Nat) : Int) = 8 from rfl]
      go_loopw [3, 34] (fun v c wr => ∃ (k : Nat) (tl : List (Nat × TypeId × Array Value)), k ≤ 2 ∧ c = .int .i64 k ∧ Hid (Rowed 98 3 v (9 + 8 * k) (fieldC g) tl) ∧ Has w wr tl) (fun _ c _ => 2 - (intOf c).toNat)
      case atStart => exact ⟨0, _, by omega, rfl, RO, H⟩
      clear H RO
      case round =>
        obtain ⟨k, tl, hk, rfl, RO, H⟩ := hrel
        replace RO := RO.out
        by_cases hlt : k < 2
        · obtain rfl | rfl : k = 0 ∨ k = 1 := by omega
          · go_wp2
            refine wp_region_text [] (by kernel_rfl) (by kernel_rfl) (by kernel_rfl) ?_; replace H := H.drew; generalize World.drew _ = u at *
            repeat (first | (refine ones_eff (o := ⟨some 51, .buildSlice _ _ _, _, _, _, _⟩) rfl rfl (fun K hK => ?_); refine wp_made H (elem := 98) (n := 2) (cs := fieldRow g 9 ++ fieldRow g 10) (by kernel_rfl) ?_; clear H; intro u gs H; refine hK _ _ ?_; clear hK K; simp only [Act.put, List.setIfInBounds_toArray, List.set_cons_zero, List.set_cons_succ]) | (refine ones_eff (o := ⟨some 52, .call { callee := .builtin .append, args := #[_, _], argTypes := #[93, 93] }, _, _, _, _⟩) rfl rfl (fun K hK => ?_); refine wp_append_has (bs := [_]) (e := 98) (s := 3) (B := 24) (m := 2) (nw := fun i => fieldC g (3 * (9) + i)) _ _ 93 rfl H RO rfl rfl (by kernel_rfl) (From.block (e := 98) (B := 24) H (by kernel_rfl) List.mem_cons_self (fun i hi => fieldRow2_get g (9) i (by omega)) (fun i hi => fieldC_one _ _)) (by unfold maxLen; omega) (by omega) ?_; clear H RO; intro v' u tl' RO H; refine hK _ _ ?_; clear hK K; simp only [Act.put, List.setIfInBounds_toArray, List.set_cons_zero, List.set_cons_succ]) | (refine ones_free (v := ?_) rfl rfl ?_ ?_; rotate_left; (intro w'; go_simp; try with_reducible rfl); simp only [Act.put, List.setIfInBounds_toArray, List.set_cons_zero, List.set_cons_succ]))
            refine ones_nil ?_
            replace RO := RO.more
            replace H := H.tail
            go_wp2
            simp only [show ((0 : Nat) : Int) = 0 from rfl, show ((1 : Nat) : Int) = 1 from rfl]
            go_loopw [3, 53] (fun v c wr => ∃ (t : Nat) (tl : List (Nat × TypeId × Array Value)), t ≤ 4 ∧ c = .int .i64 t ∧ Hid (Rowed 98 3 v (11 + t) (fieldC g) tl) ∧ Has w wr tl) (fun _ c _ => 4 - (intOf c).toNat)
            case atStart => exact ⟨0, _, by omega, rfl, RO, H⟩
            clear H RO
            case round =>
              obtain ⟨t, tl, ht, rfl, RO, H⟩ := hrel
              replace RO := RO.out
              by_cases hlt : t < 4
              · obtain rfl | rfl | rfl | rfl : t = 0 ∨ t = 1 ∨ t = 2 ∨ t = 3 := by omega
                · go_wp2_with (first | ((refine wpList_on (o := ⟨some 63, .buildSlice _ _ _, _, _, _, _⟩) rfl (fun K hK => ?_)); refine wp_made H (elem := 98) (n := 1) (cs := fieldRow g 11) (by kernel_rfl) ?_; clear H; intro u gs H; refine hK _ _ ?_; clear hK K) | ((refine wpList_on (o := ⟨some 64, .call { callee := .builtin .append, args := #[_, _], argTypes := #[93, 93] }, _, _, _, _⟩) rfl (fun K hK => ?_)); refine wp_append_has (bs := [_]) (e := 98) (s := 3) (B := 24) (m := 1) (nw := fun i => fieldC g (3 * (11 + 0) + i)) _ _ 93 rfl H RO rfl rfl (by kernel_rfl) (From.block (e := 98) (B := 24) H (by kernel_rfl) List.mem_cons_self (fun i hi => fieldRow_get g _ i (by omega)) (fun i hi => fieldC_one _ _)) (by unfold maxLen; omega) (by omega) ?_; clear H RO; intro v' u tl' RO H; refine hK _ _ ?_; clear hK K))
                  go_roundw
                  case rel => exact ⟨1, tl', by omega, by go_num, RO.more, H.tail⟩
                  case measure => simp [intOf]
                · go_wp2_with (first | ((refine wpList_on (o := ⟨some 63, .buildSlice _ _ _, _, _, _, _⟩) rfl (fun K hK => ?_)); refine wp_made H (elem := 98) (n := 1) (cs := fieldRow g 12) (by kernel_rfl) ?_; clear H; intro u gs H; refine hK _ _ ?_; clear hK K) | ((refine wpList_on (o := ⟨some 64, .call { callee := .builtin .append, args := #[_, _], argTypes := #[93, 93] }, _, _, _, _⟩) rfl (fun K hK => ?_)); refine wp_append_has (bs := [_]) (e := 98) (s := 3) (B := 24) (m := 1) (nw := fun i => fieldC g (3 * (11 + 1) + i)) _ _ 93 rfl H RO rfl rfl (by kernel_rfl) (From.block (e := 98) (B := 24) H (by kernel_rfl) List.mem_cons_self (fun i hi => fieldRow_get g _ i (by omega)) (fun i hi => fieldC_one _ _)) (by unfold maxLen; omega) (by omega) ?_; clear H RO; intro v' u tl' RO H; refine hK _ _ ?_; clear hK K))
                  go_roundw
                  case rel => exact ⟨2, tl', by omega, by go_num, RO.more, H.tail⟩
                  case measure => simp [intOf]
                · go_wp2_with (first | ((refine wpList_on (o := ⟨some 63, .buildSlice _ _ _, _, _, _, _⟩) rfl (fun K hK => ?_)); refine wp_made H (elem := 98) (n := 1) (cs := fieldRow g 13) (by kernel_rfl) ?_; clear H; intro u gs H; refine hK _ _ ?_; clear hK K) | ((refine wpList_on (o := ⟨some 64, .call { callee := .builtin .append, args := #[_, _], argTypes := #[93, 93] }, _, _, _, _⟩) rfl (fun K hK => ?_)); refine wp_append_has (bs := [_]) (e := 98) (s := 3) (B := 24) (m := 1) (nw := fun i => fieldC g (3 * (11 + 2) + i)) _ _ 93 rfl H RO rfl rfl (by kernel_rfl) (From.block (e := 98) (B := 24) H (by kernel_rfl) List.mem_cons_self (fun i hi => fieldRow_get g _ i (by omega)) (fun i hi => fieldC_one _ _)) (by unfold maxLen; omega) (by omega) ?_; clear H RO; intro v' u tl' RO H; refine hK _ _ ?_; clear hK K))
                  go_roundw
                  case rel => exact ⟨3, tl', by omega, by go_num, RO.more, H.tail⟩
                  case measure => simp [intOf]
                · go_wp2_with (first | ((refine wpList_on (o := ⟨some 63, .buildSlice _ _ _, _, _, _, _⟩) rfl (fun K hK => ?_)); refine wp_made H (elem := 98) (n := 1) (cs := fieldRow g 14) (by kernel_rfl) ?_; clear H; intro u gs H; refine hK _ _ ?_; clear hK K) | ((refine wpList_on (o := ⟨some 64, .call { callee := .builtin .append, args := #[_, _], argTypes := #[93, 93] }, _, _, _, _⟩) rfl (fun K hK => ?_)); refine wp_append_has (bs := [_]) (e := 98) (s := 3) (B := 24) (m := 1) (nw := fun i => fieldC g (3 * (11 + 3) + i)) _ _ 93 rfl H RO rfl rfl (by kernel_rfl) (From.block (e := 98) (B := 24) H (by kernel_rfl) List.mem_cons_self (fun i hi => fieldRow_get g _ i (by omega)) (fun i hi => fieldC_one _ _)) (by unfold maxLen; omega) (by omega) ?_; clear H RO; intro v' u tl' RO H; refine hK _ _ ?_; clear hK K))
                  go_roundw
                  case rel => exact ⟨4, tl', by omega, by go_num, RO.more, H.tail⟩
                  case measure => simp [intOf]
              · obtain rfl : t = 4 := by omega
                go_wp2
                simp only [show ((4 : Nat) : Int) = 4 from rfl]
                refine wp_region_text [] (by kernel_rfl) (by kernel_rfl) (by kernel_rfl) ?_; replace H := H.drew; generalize World.drew _ = u at *
                repeat (first | (refine ones_eff (o := ⟨some 75, .buildSlice _ _ _, _, _, _, _⟩) rfl rfl (fun K hK => ?_); refine wp_made H (elem := 98) (n := 2) (cs := fieldRow g 15 ++ fieldRow g 16) (by kernel_rfl) ?_; clear H; intro u gs H; refine hK _ _ ?_; clear hK K; simp only [Act.put, List.setIfInBounds_toArray, List.set_cons_zero, List.set_cons_succ]) | (refine ones_eff (o := ⟨some 76, .call { callee := .builtin .append, args := #[_, _], argTypes := #[93, 93] }, _, _, _, _⟩) rfl rfl (fun K hK => ?_); refine wp_append_has (bs := [_]) (e := 98) (s := 3) (B := 24) (m := 2) (nw := fun i => fieldC g (3 * (15) + i)) _ _ 93 rfl H RO rfl rfl (by kernel_rfl) (From.block (e := 98) (B := 24) H (by kernel_rfl) List.mem_cons_self (fun i hi => fieldRow2_get g (15) i (by omega)) (fun i hi => fieldC_one _ _)) (by unfold maxLen; omega) (by omega) ?_; clear H RO; intro v' u tl' RO H; refine hK _ _ ?_; clear hK K; simp only [Act.put, List.setIfInBounds_toArray, List.set_cons_zero, List.set_cons_succ]) | (refine ones_free (v := ?_) rfl rfl ?_ ?_; rotate_left; (intro w'; go_simp; try with_reducible rfl); simp only [Act.put, List.setIfInBounds_toArray, List.set_cons_zero, List.set_cons_succ]))
                refine ones_nil ?_
                replace RO := RO.more
                replace H := H.tail
                go_wp2
                go_roundw
                case rel => exact ⟨1, tl', by omega, by go_num, RO, H⟩
                case measure => simp [intOf]
          · go_wp2
            refine wp_region_text [] (by kernel_rfl) (by kernel_rfl) (by kernel_rfl) ?_; replace H := H.drew; generalize World.drew _ = u at *
            repeat (first | (refine ones_eff (o := ⟨some 51, .buildSlice _ _ _, _, _, _, _⟩) rfl rfl (fun K hK => ?_); refine wp_made H (elem := 98) (n := 2) (cs := fieldRow g 17 ++ fieldRow g 18) (by kernel_rfl) ?_; clear H; intro u gs H; refine hK _ _ ?_; clear hK K; simp only [Act.put, List.setIfInBounds_toArray, List.set_cons_zero, List.set_cons_succ]) | (refine ones_eff (o := ⟨some 52, .call { callee := .builtin .append, args := #[_, _], argTypes := #[93, 93] }, _, _, _, _⟩) rfl rfl (fun K hK => ?_); refine wp_append_has (bs := [_]) (e := 98) (s := 3) (B := 24) (m := 2) (nw := fun i => fieldC g (3 * (17) + i)) _ _ 93 rfl H RO rfl rfl (by kernel_rfl) (From.block (e := 98) (B := 24) H (by kernel_rfl) List.mem_cons_self (fun i hi => fieldRow2_get g (17) i (by omega)) (fun i hi => fieldC_one _ _)) (by unfold maxLen; omega) (by omega) ?_; clear H RO; intro v' u tl' RO H; refine hK _ _ ?_; clear hK K; simp only [Act.put, List.setIfInBounds_toArray, List.set_cons_zero, List.set_cons_succ]) | (refine ones_free (v := ?_) rfl rfl ?_ ?_; rotate_left; (intro w'; go_simp; try with_reducible rfl); simp only [Act.put, List.setIfInBounds_toArray, List.set_cons_zero, List.set_cons_succ]))
            refine ones_nil ?_
            replace RO := RO.more
            replace H := H.tail
            go_wp2
            simp only [show ((0 : Nat) : Int) = 0 from rfl, show ((1 : Nat) : Int) = 1 from rfl]
            go_loopw [3, 53] (fun v c wr => ∃ (t : Nat) (tl : List (Nat × TypeId × Array Value)), t ≤ 4 ∧ c = .int .i64 t ∧ Hid (Rowed 98 3 v (19 + t) (fieldC g) tl) ∧ Has w wr tl) (fun _ c _ => 4 - (intOf c).toNat)
            case atStart => exact ⟨0, _, by omega, rfl, RO, H⟩
            clear H RO
            case round =>
              obtain ⟨t, tl, ht, rfl, RO, H⟩ := hrel
              replace RO := RO.out
              by_cases hlt : t < 4
              · obtain rfl | rfl | rfl | rfl : t = 0 ∨ t = 1 ∨ t = 2 ∨ t = 3 := by omega
                · go_wp2_with (first | ((refine wpList_on (o := ⟨some 63, .buildSlice _ _ _, _, _, _, _⟩) rfl (fun K hK => ?_)); refine wp_made H (elem := 98) (n := 1) (cs := fieldRow g 19) (by kernel_rfl) ?_; clear H; intro u gs H; refine hK _ _ ?_; clear hK K) | ((refine wpList_on (o := ⟨some 64, .call { callee := .builtin .append, args := #[_, _], argTypes := #[93, 93] }, _, _, _, _⟩) rfl (fun K hK => ?_)); refine wp_append_has (bs := [_]) (e := 98) (s := 3) (B := 24) (m := 1) (nw := fun i => fieldC g (3 * (19 + 0) + i)) _ _ 93 rfl H RO rfl rfl (by kernel_rfl) (From.block (e := 98) (B := 24) H (by kernel_rfl) List.mem_cons_self (fun i hi => fieldRow_get g _ i (by omega)) (fun i hi => fieldC_one _ _)) (by unfold maxLen; omega) (by omega) ?_; clear H RO; intro v' u tl' RO H; refine hK _ _ ?_; clear hK K))
                  go_roundw
                  case rel => exact ⟨1, tl', by omega, by go_num, RO.more, H.tail⟩
                  case measure => simp [intOf]
                · go_wp2_with (first | ((refine wpList_on (o := ⟨some 63, .buildSlice _ _ _, _, _, _, _⟩) rfl (fun K hK => ?_)); refine wp_made H (elem := 98) (n := 1) (cs := fieldRow g 20) (by kernel_rfl) ?_; clear H; intro u gs H; refine hK _ _ ?_; clear hK K) | ((refine wpList_on (o := ⟨some 64, .call { callee := .builtin .append, args := #[_, _], argTypes := #[93, 93] }, _, _, _, _⟩) rfl (fun K hK => ?_)); refine wp_append_has (bs := [_]) (e := 98) (s := 3) (B := 24) (m := 1) (nw := fun i => fieldC g (3 * (19 + 1) + i)) _ _ 93 rfl H RO rfl rfl (by kernel_rfl) (From.block (e := 98) (B := 24) H (by kernel_rfl) List.mem_cons_self (fun i hi => fieldRow_get g _ i (by omega)) (fun i hi => fieldC_one _ _)) (by unfold maxLen; omega) (by omega) ?_; clear H RO; intro v' u tl' RO H; refine hK _ _ ?_; clear hK K))
                  go_roundw
                  case rel => exact ⟨2, tl', by omega, by go_num, RO.more, H.tail⟩
                  case measure => simp [intOf]
                · go_wp2_with (first | ((refine wpList_on (o := ⟨some 63, .buildSlice _ _ _, _, _, _, _⟩) rfl (fun K hK => ?_)); refine wp_made H (elem := 98) (n := 1) (cs := fieldRow g 21) (by kernel_rfl) ?_; clear H; intro u gs H; refine hK _ _ ?_; clear hK K) | ((refine wpList_on (o := ⟨some 64, .call { callee := .builtin .append, args := #[_, _], argTypes := #[93, 93] }, _, _, _, _⟩) rfl (fun K hK => ?_)); refine wp_append_has (bs := [_]) (e := 98) (s := 3) (B := 24) (m := 1) (nw := fun i => fieldC g (3 * (19 + 2) + i)) _ _ 93 rfl H RO rfl rfl (by kernel_rfl) (From.block (e := 98) (B := 24) H (by kernel_rfl) List.mem_cons_self (fun i hi => fieldRow_get g _ i (by omega)) (fun i hi => fieldC_one _ _)) (by unfold maxLen; omega) (by omega) ?_; clear H RO; intro v' u tl' RO H; refine hK _ _ ?_; clear hK K))
                  go_roundw
                  case rel => exact ⟨3, tl', by omega, by go_num, RO.more, H.tail⟩
                  case measure => simp [intOf]
                · go_wp2_with (first | ((refine wpList_on (o := ⟨some 63, .buildSlice _ _ _, _, _, _, _⟩) rfl (fun K hK => ?_)); refine wp_made H (elem := 98) (n := 1) (cs := fieldRow g 22) (by kernel_rfl) ?_; clear H; intro u gs H; refine hK _ _ ?_; clear hK K) | ((refine wpList_on (o := ⟨some 64, .call { callee := .builtin .append, args := #[_, _], argTypes := #[93, 93] }, _, _, _, _⟩) rfl (fun K hK => ?_)); refine wp_append_has (bs := [_]) (e := 98) (s := 3) (B := 24) (m := 1) (nw := fun i => fieldC g (3 * (19 + 3) + i)) _ _ 93 rfl H RO rfl rfl (by kernel_rfl) (From.block (e := 98) (B := 24) H (by kernel_rfl) List.mem_cons_self (fun i hi => fieldRow_get g _ i (by omega)) (fun i hi => fieldC_one _ _)) (by unfold maxLen; omega) (by omega) ?_; clear H RO; intro v' u tl' RO H; refine hK _ _ ?_; clear hK K))
                  go_roundw
                  case rel => exact ⟨4, tl', by omega, by go_num, RO.more, H.tail⟩
                  case measure => simp [intOf]
              · obtain rfl : t = 4 := by omega
                go_wp2
                simp only [show ((4 : Nat) : Int) = 4 from rfl]
                refine wp_region_text [] (by kernel_rfl) (by kernel_rfl) (by kernel_rfl) ?_; replace H := H.drew; generalize World.drew _ = u at *
                repeat (first | (refine ones_eff (o := ⟨some 75, .buildSlice _ _ _, _, _, _, _⟩) rfl rfl (fun K hK => ?_); refine wp_made H (elem := 98) (n := 2) (cs := fieldRow g 23 ++ fieldRow g 24) (by kernel_rfl) ?_; clear H; intro u gs H; refine hK _ _ ?_; clear hK K; simp only [Act.put, List.setIfInBounds_toArray, List.set_cons_zero, List.set_cons_succ]) | (refine ones_eff (o := ⟨some 76, .call { callee := .builtin .append, args := #[_, _], argTypes := #[93, 93] }, _, _, _, _⟩) rfl rfl (fun K hK => ?_); refine wp_append_has (bs := [_]) (e := 98) (s := 3) (B := 24) (m := 2) (nw := fun i => fieldC g (3 * (23) + i)) _ _ 93 rfl H RO rfl rfl (by kernel_rfl) (From.block (e := 98) (B := 24) H (by kernel_rfl) List.mem_cons_self (fun i hi => fieldRow2_get g (23) i (by omega)) (fun i hi => fieldC_one _ _)) (by unfold maxLen; omega) (by omega) ?_; clear H RO; intro v' u tl' RO H; refine hK _ _ ?_; clear hK K; simp only [Act.put, List.setIfInBounds_toArray, List.set_cons_zero, List.set_cons_succ]) | (refine ones_free (v := ?_) rfl rfl ?_ ?_; rotate_left; (intro w'; go_simp; try with_reducible rfl); simp only [Act.put, List.setIfInBounds_toArray, List.set_cons_zero, List.set_cons_succ]))
                refine ones_nil ?_
                replace RO := RO.more
                replace H := H.tail
                go_wp2
                go_roundw
                case rel => exact ⟨2, tl', by omega, by go_num, RO, H⟩
                case measure => simp [intOf]
        · obtain rfl : k = 2 := by omega
          go_wp2
          go_ret
          exact ⟨_, _, rfl, RO, H⟩
end Go.Proofs.YtcoicmbjoaonoaaDoor
