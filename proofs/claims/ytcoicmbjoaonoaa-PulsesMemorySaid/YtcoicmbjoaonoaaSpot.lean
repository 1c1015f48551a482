import Derived.Test.YtcoicmbjoaonoaaGen
namespace Go.Proofs.Ytcoicmbjoaonoaa
open Go.RowKit

theorem tmod_up (v n : Int) (hn : 0 < n) (h : v.tmod n < 0) : v.tmod n + n = v % n := by
  rw [Int.tmod_eq_emod] at h ⊢
  have h1 := Int.emod_nonneg v (show n ≠ 0 by omega)
  have h2 := Int.emod_lt_of_pos v hn
  split at h <;> split <;> omega
theorem tmod_still (v n : Int) (hn : 0 < n) (h : ¬ v.tmod n < 0) : v.tmod n = v % n := by
  rw [Int.tmod_eq_emod] at h ⊢
  have h1 := Int.emod_nonneg v (show n ≠ 0 by omega)
  have h2 := Int.emod_lt_of_pos v hn
  split at h <;> split <;> omega

/-- spot: the remainder that is not below 0. -/
theorem spot_any (v n : Int) (w : World) (hn : 0 < n) (hn' : n ≤ 4611686018427387904) :
    Calls Try.prog 26 #[.int .i64 v, .int .i64 n] w fun e w' => e = .returned (.int .i64 (v % n)) ∧ w = w' := by
  have h1 := Int.emod_nonneg v (show n ≠ 0 by omega)
  have h2 := Int.emod_lt_of_pos v hn
  have h0 : ¬ n = 0 := by omega
  have hb : -n < v.tmod n ∧ v.tmod n < n := by
    rw [Int.tmod_eq_emod]
    split <;> omega
  by_cases h : v.tmod n < 0
  · have e := tmod_up v n hn h
    go_enter Try.func26, Try.ntmps26
    go_wp2
    go_ret
    exact ⟨rfl, rfl⟩
  · have e := tmod_still v n hn h
    go_enter Try.func26, Try.ntmps26
    go_wp2
    go_ret
    exact ⟨rfl, rfl⟩
end Go.Proofs.Ytcoicmbjoaonoaa
