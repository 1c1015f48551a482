/-
  gain.Fade, gain.Noise walked. No statement is proved here.
-/
import Derived.Test.YthddmgnjahmceaaParts
import Derived.Test.YthddmgnjahmceaaShift
namespace Go.Proofs.Ythddmgnjahmceaa
open Go.RowKit
/-- A gain so many frames later. -/
def fadeI : Nat → Int → Int
  | 0, g => g
  | k + 1, g => fadeI k g * 26214 / 32768
theorem fadeI_bd (g : Int) (h0 : 0 ≤ g) : ∀ k, 0 ≤ fadeI k g ∧ fadeI k g ≤ g
  | 0 => ⟨h0, Int.le_refl _⟩
  | k + 1 => by have := fadeI_bd g h0 k; unfold fadeI; omega
def fade (g n : Int) : Int := if 6 ≤ n then 0 else fadeI n.toNat g
theorem fade_bd {g n : Int} (h0 : 0 ≤ g) : 0 ≤ fade g n ∧ fade g n ≤ g := by
  have := fadeI_bd g h0 n.toNat
  unfold fade; split <;> omega
theorem fade_falls {g n : Int} (h0 : 0 ≤ g) (hn : 0 ≤ n) : fade g (n + 1) ≤ fade g n ∧ (g = 0 ∨ fade g n = 0 ∨ fade g (n + 1) < fade g n) := by
  have h1 := fadeI_bd g h0 n.toNat
  have h2 := fadeI_bd g h0 (n.toNat + 1)
  have h3 : fadeI (n.toNat + 1) g = fadeI n.toNat g * 26214 / 32768 := rfl
  unfold fade
  rw [show (n + 1).toNat = n.toNat + 1 by omega]
  split <;> split <;> omega
set_option maxHeartbeats 800000 in
theorem Fade_any (g n : Int) (w : World) (h0 : 0 ≤ g) (h1 : g ≤ 32767) (hn0 : 0 ≤ n) (hn : n ≤ 1000) :
    Calls Try.prog 15 #[.int .i64 g, .int .i64 n] w fun e w' => e = .returned (.int .i64 (fade g n)) ∧ w = w' := by
  have d1 := lt_no h0
  by_cases h6 : 6 ≤ n
  · have d2 := le_yes h6
    have E0 : Hid (fade g n = 0) := if_pos h6
    go_enter Try.func15, Try.ntmps15
    go_wp2
    go_ret
    exact ⟨by rw [E0.out]; rfl, rfl⟩
  · have d2 := le_no (show n < 6 by omega)
    have E0 : Hid (fade g n = fadeI n.toNat g) := if_neg h6
    go_enter Try.func15, Try.ntmps15
    go_wp2
    go_loop [0, 14] (fun x i => ∃ k : Nat, (k : Int) ≤ n ∧ i = .int .i64 k ∧ x = .int .i64 (fadeI k g)) (fun _ i => (n - intOf i).toNat)
    case atStart => exact ⟨0, by omega, rfl, rfl⟩
    case round =>
      clear d1 d2
      obtain ⟨k, hk, rfl, rfl⟩ := hrel
      have hb := fadeI_bd g h0 k
      by_cases hlt : (k : Int) < n
      · have HF : Hid (fadeI (k + 1) g = fadeI k g * 26214 / 32768) := rfl
        generalize fadeI k g = y at *
        go_wp2
        go_round
        case rel => exact ⟨k + 1, by omega, by go_num, by rw [HF.out]⟩
        case measure => simp [intOf]; omega
      · have HK : Hid (n.toNat = k) := by show n.toNat = k; omega
        go_wp2
        go_ret
        exact ⟨by rw [E0.out, HK.out]; rfl, rfl⟩
/-- The next seed, and the sample that belongs to it. -/
def seedN (s : Int) : Int := (s * 31821 + 13849) % 65536
def noiseN (s size : Int) : Int := (seedN s - 32768) * (min (max size 0) 32767) / 32768
theorem seedN_bd (s : Int) : 0 ≤ seedN s ∧ seedN s < 65536 := by unfold seedN; omega
theorem and_16 (n : Int) : bits .and .i64 n 65535 = n % 65536 := by
  have h127 : (BitVec.ofInt 64 65535).toNat = 2 ^ 16 - 1 := by decide
  have key : (BitVec.ofInt 64 n &&& BitVec.ofInt 64 65535).toNat = (n % ((2 ^ 64 : Nat) : Int)).toNat % 2 ^ 16 := by
    rw [BitVec.toNat_and, BitVec.toNat_ofInt, h127, Nat.and_two_pow_sub_one_eq_mod]
  show IntKind.i64.wrap ((BitVec.ofInt 64 n &&& BitVec.ofInt 64 65535).toNat : Nat) = n % 65536
  rw [key, IntKind.wrap_i64]
  omega
theorem Noise_any (s size : Int) (w : World) :
    Calls Try.prog 21 #[.int .i64 s, .int .i64 size] w fun e w' => e = .returned (.tuple #[.int .i64 (seedN s), .int .i64 (noiseN s size)]) ∧ w = w' := by
  have e1 : bits .and .i64 (wrap64 (wrap64 (s * 31821) + 13849)) 65535 = seedN s := by
    rw [and_16]
    unfold seedN wrap64
    omega
  have hs := seedN_bd s
  have hn : noiseN s size = (seedN s - 32768) * (min (max size 0) 32767) / 32768 := rfl
  generalize seedN s = S at *
  by_cases h1 : size < 0
  · have HN : Hid (noiseN s size = 0) := by
      show noiseN s size = 0
      rw [hn, show min (max size 0) 32767 = 0 by omega]; simp
    have z0 : wrap64 0 = 0 := by unfold wrap64; rfl
    clear hn
    go_enter Try.func21, Try.ntmps21
    go_wp2
    all_goals go_ret2
    all_goals first | (exfalso; omega) | exact ⟨by rw [HN.out]; rfl, rfl⟩
  · by_cases h2 : size ≤ 32767
    · have HN : Hid (noiseN s size = (S - 32768) * size / 32768) := by
        show noiseN s size = (S - 32768) * size / 32768
        rw [hn, show min (max size 0) 32767 = size by omega]
      have m := mul_bd (S - 32768) size 32768 32767 (by omega) (by omega) (by omega) (by omega)
      have s1 : IntKind.i64.wrap ((S - 32768) * size) = (S - 32768) * size := IntWalk.i64_in _ (by omega)
      have h1' : 0 ≤ size := by omega
      clear hn h1 m
      go_enter Try.func21, Try.ntmps21
      go_wp2
      all_goals go_ret2
      all_goals first | (exfalso; omega) | exact ⟨by rw [HN.out]; rfl, rfl⟩
    · have HN : Hid (noiseN s size = (S - 32768) * 32767 / 32768) := by
        show noiseN s size = (S - 32768) * 32767 / 32768
        rw [hn, show min (max size 0) 32767 = 32767 by omega]
      have h1' : 0 ≤ size := by omega
      have h2' : 32767 < size := by omega
      clear hn h1 h2
      go_enter Try.func21, Try.ntmps21
      go_wp2
      all_goals go_ret2
      all_goals first | (exfalso; omega) | exact ⟨by rw [HN.out]; rfl, rfl⟩
end Go.Proofs.Ythddmgnjahmceaa
