/-
  gain.Level, One, Fade, Noise walked. No statement is proved here.
-/
import Derived.Test.YtdpnadcoehmhbaaDoorPow
namespace Go.Proofs.YtdpnadcoehmhbaaDoor
open Go.RowKit
theorem Level_any (n : Int) (w : World) (hR : Roots w) (h0 : 0 ≤ n) (h1 : n ≤ 31) :
    Calls Tryd.prog 13 #[.int .i64 n] w fun e w' => e = .returned (.tuple #[.int .i64 (lev n), .int .i64 0]) ∧ w = w' := by
  have d1 := lt_no h0
  have d2 := lt_no h1
  have e0 : lev n = (powN (3 + 3 * n / 8).toNat (3 * n % 8 * 4096).toNat : Nat) := by
    unfold lev levN
    rw [show (3 + 3 * n / 8).toNat = 3 + 3 * n.toNat / 8 by omega, show (3 * n % 8 * 4096).toNat = 3 * n.toNat % 8 * 4096 by omega]
  have E0 := Lib.hid e0
  clear e0
  go_enter Tryd.func13, Tryd.ntmps13
  go_wp2_with (go_at_call 11; (with_reducible refine (Pow_any _ _ _ hR (by omega) (by omega) (by omega) (by omega)).mono ?_); rintro e w1 ⟨rfl, rfl⟩)
  go_ret2
  exact ⟨by rw [E0.out]; rfl, rfl⟩
theorem lev_bd {n : Int} (h0 : 0 ≤ n) (h1 : n ≤ 31) : 8 ≤ lev n ∧ lev n ≤ 32767 := by
  have := levN_bd (n := n.toNat) (by omega)
  unfold lev; omega
theorem lev_mono {n m : Int} (h0 : 0 ≤ n) (h : n ≤ m) (h1 : m ≤ 31) : lev n ≤ lev m := by
  have := levN_mono (n := n.toNat) (m := m.toNat) (by omega) (by omega)
  unfold lev; omega
abbrev levK : Nat → Int := fun k => lev (k : Int)
set_option maxHeartbeats 1600000 in
theorem One_any (c e : Int) (w : World) (hR : Roots w) (hc0 : 1 ≤ c) (hc : c ≤ 1099511627776) (he0 : 1 ≤ e) (he : e ≤ 1073741824) :
    Calls Tryd.prog 15 #[.int .i64 c, .int .i64 e] w fun x w' => x = .returned (.int .i64 (bestN levK e (2 * c) 31)) ∧ w = w' := by
  have d1 := le_no (show 0 < c by omega)
  have d2 := le_no (show 0 < e by omega)
  go_enter Tryd.func15, Tryd.ntmps15
  go_wp2
  go_loop [5, 6] (fun b n => ∃ k : Nat, k ≤ 31 ∧ n = .int .i64 ((k : Int) + 1) ∧ b = .int .i64 (bestN levK e (2 * c) k : Nat)) (fun _ n => (32 - intOf n).toNat)
  case atStart => exact ⟨0, by omega, rfl, rfl⟩
  case round =>
    clear d1 d2
    obtain ⟨k, hk, rfl, rfl⟩ := hrel
    have hbl := bestN_le levK e (2 * c) k
    by_cases hlt : k < 31
    · have l1 := lev_bd (n := (k : Int)) (by omega) (by omega)
      have l2 := lev_bd (n := (k : Int) + 1) (by omega) (by omega)
      have m1 := mul_le_of (lev (k : Int) + lev ((k : Int) + 1)) e 65534 1073741824 (by omega) (by omega) (by omega) he
      have s1 : IntKind.i64.wrap ((lev (k : Int) + lev ((k : Int) + 1)) * e) = (lev (k : Int) + lev ((k : Int) + 1)) * e := IntWalk.i64_in _ (by omega)
      have HB : Hid (bestN levK e (2 * c) (k + 1) = if (lev (k : Int) + lev ((k : Int) + 1)) * e < 2 * c then k + 1 else bestN levK e (2 * c) k) := rfl
      generalize hbe : bestN levK e (2 * c) k = B at *
      clear hbe
      have c1 := fun w : World => fun h : Roots w => Level_any (k : Int) w h (by omega) (by omega)
      have c2 := fun w : World => fun h : Roots w => Level_any ((k : Int) + 1) w h (by omega) (by omega)
      generalize lev (k : Int) = X at *
      generalize lev ((k : Int) + 1) = Y at *
      by_cases hc : (X + Y) * e < 2 * c
      · have HB2 : Hid (bestN levK e (2 * c) (k + 1) = k + 1) := HB.out.trans (if_pos hc)
        have d := lt_yes hc
        clear hc HB m1
        go_wp2_with (first | (go_at_call 13; (with_reducible refine (c1 _ hR).mono ?_); rintro e w1 ⟨rfl, rfl⟩) | (go_at_call 13; (with_reducible refine (c2 _ hR).mono ?_); rintro e w1 ⟨rfl, rfl⟩))
        go_round
        case rel => exact ⟨k + 1, by omega, by go_num, by rw [HB2.out]; go_num⟩
        case measure => simp [intOf]; omega
      · have HB2 : Hid (bestN levK e (2 * c) (k + 1) = B) := HB.out.trans (if_neg hc)
        have d := lt_no (show 2 * c ≤ (X + Y) * e by omega)
        clear hc HB m1
        go_wp2_with (first | (go_at_call 13; (with_reducible refine (c1 _ hR).mono ?_); rintro e w1 ⟨rfl, rfl⟩) | (go_at_call 13; (with_reducible refine (c2 _ hR).mono ?_); rintro e w1 ⟨rfl, rfl⟩))
        go_round
        case rel => exact ⟨k + 1, by omega, by go_num, by rw [HB2.out]⟩
        case measure => simp [intOf]; omega
    · obtain rfl : k = 31 := by omega
      go_wp2
      go_ret
      exact ⟨rfl, rfl⟩
/-- A gain so many frames later. -/
def fadeI : Nat → Int → Int
  | 0, g => g
  | k + 1, g => fadeI k g * 26214 / 32768
theorem fadeI_bd (g : Int) (h0 : 0 ≤ g) : ∀ k, 0 ≤ fadeI k g ∧ fadeI k g ≤ g
  | 0 => ⟨h0, Int.le_refl _⟩
  | k + 1 => by have := fadeI_bd g h0 k; unfold fadeI; omega
def fade (g n : Int) : Int := if 6 ≤ n then 0 else fadeI n.toNat g
theorem fade_bd {g n : Int} (h0 : 0 ≤ g) : 0 ≤ fade g n ∧ fade g n ≤ g := by
  have := fadeI_bd g h0 n.toNat
  unfold fade; split <;> omega
theorem fade_falls {g n : Int} (h0 : 0 ≤ g) (hn : 0 ≤ n) : fade g (n + 1) ≤ fade g n ∧ (g = 0 ∨ fade g n = 0 ∨ fade g (n + 1) < fade g n) := by
  have h1 := fadeI_bd g h0 n.toNat
  have h2 := fadeI_bd g h0 (n.toNat + 1)
  have h3 : fadeI (n.toNat + 1) g = fadeI n.toNat g * 26214 / 32768 := rfl
  unfold fade
  rw [show (n + 1).toNat = n.toNat + 1 by omega]
  split <;> split <;> omega
set_option maxHeartbeats 800000 in
theorem Fade_any (g n : Int) (w : World) (h0 : 0 ≤ g) (h1 : g ≤ 32767) (hn0 : 0 ≤ n) (hn : n ≤ 1000) :
    Calls Tryd.prog 16 #[.int .i64 g, .int .i64 n] w fun e w' => e = .returned (.int .i64 (fade g n)) ∧ w = w' := by
  have d1 := lt_no h0
  by_cases h6 : 6 ≤ n
  · have d2 := le_yes h6
    have E0 : Hid (fade g n = 0) := if_pos h6
    go_enter Tryd.func16, Tryd.ntmps16
    go_wp2
    go_ret
    exact ⟨by rw [E0.out]; rfl, rfl⟩
  · have d2 := le_no (show n < 6 by omega)
    have E0 : Hid (fade g n = fadeI n.toNat g) := if_neg h6
    go_enter Tryd.func16, Tryd.ntmps16
    go_wp2
    go_loop [0, 14] (fun x i => ∃ k : Nat, (k : Int) ≤ n ∧ i = .int .i64 k ∧ x = .int .i64 (fadeI k g)) (fun _ i => (n - intOf i).toNat)
    case atStart => exact ⟨0, by omega, rfl, rfl⟩
    case round =>
      clear d1 d2
      obtain ⟨k, hk, rfl, rfl⟩ := hrel
      have hb := fadeI_bd g h0 k
      by_cases hlt : (k : Int) < n
      · have HF : Hid (fadeI (k + 1) g = fadeI k g * 26214 / 32768) := rfl
        generalize fadeI k g = y at *
        go_wp2
        go_round
        case rel => exact ⟨k + 1, by omega, by go_num, by rw [HF.out]⟩
        case measure => simp [intOf]; omega
      · have HK : Hid (n.toNat = k) := by show n.toNat = k; omega
        go_wp2
        go_ret
        exact ⟨by rw [E0.out, HK.out]; rfl, rfl⟩
/-- The next seed, and the sample that belongs to it. -/
def seedN (s : Int) : Int := (s * 31821 + 13849) % 65536
def noiseN (s size : Int) : Int := (seedN s - 32768) * (min (max size 0) 32767) / 32768
theorem seedN_bd (s : Int) : 0 ≤ seedN s ∧ seedN s < 65536 := by unfold seedN; omega
theorem and_16 (n : Int) : bits .and .i64 n 65535 = n % 65536 := by
  have h127 : (BitVec.ofInt 64 65535).toNat = 2 ^ 16 - 1 := by decide
  have key : (BitVec.ofInt 64 n &&& BitVec.ofInt 64 65535).toNat = (n % ((2 ^ 64 : Nat) : Int)).toNat % 2 ^ 16 := by
    rw [BitVec.toNat_and, BitVec.toNat_ofInt, h127, Nat.and_two_pow_sub_one_eq_mod]
  show IntKind.i64.wrap ((BitVec.ofInt 64 n &&& BitVec.ofInt 64 65535).toNat : Nat) = n % 65536
  rw [key, IntKind.wrap_i64]
  omega
theorem Noise_any (s size : Int) (w : World) :
    Calls Tryd.prog 17 #[.int .i64 s, .int .i64 size] w fun e w' => e = .returned (.tuple #[.int .i64 (seedN s), .int .i64 (noiseN s size)]) ∧ w = w' := by
  have e1 : bits .and .i64 (wrap64 (wrap64 (s * 31821) + 13849)) 65535 = seedN s := by
    rw [and_16]
    unfold seedN wrap64
    omega
  have hs := seedN_bd s
  have hn : noiseN s size = (seedN s - 32768) * (min (max size 0) 32767) / 32768 := rfl
  generalize seedN s = S at *
  by_cases h1 : size < 0
  · have HN : Hid (noiseN s size = 0) := by
      show noiseN s size = 0
      rw [hn, show min (max size 0) 32767 = 0 by omega]; simp
    have z0 : wrap64 0 = 0 := by unfold wrap64; rfl
    clear hn
    go_enter Tryd.func17, Tryd.ntmps17
    go_wp2
    all_goals go_ret2
    all_goals first | (exfalso; omega) | exact ⟨by rw [HN.out]; rfl, rfl⟩
  · by_cases h2 : size ≤ 32767
    · have HN : Hid (noiseN s size = (S - 32768) * size / 32768) := by
        show noiseN s size = (S - 32768) * size / 32768
        rw [hn, show min (max size 0) 32767 = size by omega]
      have m := mul_bd (S - 32768) size 32768 32767 (by omega) (by omega) (by omega) (by omega)
      have s1 : IntKind.i64.wrap ((S - 32768) * size) = (S - 32768) * size := IntWalk.i64_in _ (by omega)
      have h1' : 0 ≤ size := by omega
      clear hn h1 m
      go_enter Tryd.func17, Tryd.ntmps17
      go_wp2
      all_goals go_ret2
      all_goals first | (exfalso; omega) | exact ⟨by rw [HN.out]; rfl, rfl⟩
    · have HN : Hid (noiseN s size = (S - 32768) * 32767 / 32768) := by
        show noiseN s size = (S - 32768) * 32767 / 32768
        rw [hn, show min (max size 0) 32767 = 32767 by omega]
      have h1' : 0 ≤ size := by omega
      have h2' : 32767 < size := by omega
      clear hn h1 h2
      go_enter Tryd.func17, Tryd.ntmps17
      go_wp2
      all_goals go_ret2
      all_goals first | (exfalso; omega) | exact ⟨by rw [HN.out]; rfl, rfl⟩
end Go.Proofs.YtdpnadcoehmhbaaDoor
