import Derived.Test.YtnjblifbkfppoaaGen
namespace Go.Proofs.Ytnjblifbkfppoaa
open Go.RowKit

def mixOne (a b n : Int) : Int := (a * (4 - n) + b * n).tdiv 4
def mixTo (a b : Nat → Int) (n : Int) (k : Nat) : Nat → Int := fun i => if i < k then mixOne (a i) (b i) n else 0

theorem mul_bd (x y X Y : Int) (h1 : -X ≤ x) (h2 : x ≤ X) (h3 : -Y ≤ y) (h4 : y ≤ Y) : -(X * Y) ≤ x * y ∧ x * y ≤ X * Y := by
  have hx : x.natAbs ≤ X.natAbs := by omega
  have hy : y.natAbs ≤ Y.natAbs := by omega
  have h := Nat.mul_le_mul hx hy
  rw [← Int.natAbs_mul, ← Int.natAbs_mul] at h
  have hp : 0 ≤ X * Y := Int.mul_nonneg (by omega) (by omega)
  omega

theorem mix_any (a b : Nat → Int) (n : Int) (w : World) (h0 : 0 ≤ n) (h4 : n ≤ 4) (ha : ∀ i, i < 8 → -32768 < a i ∧ a i < 32768) (hb : ∀ i, i < 8 → -32768 < b i ∧ b i < 32768) :
    Calls Try.prog 8 #[.agg (row 8 a), .agg (row 8 b), .int .i64 n] w fun e w' =>
      e = .returned (.tuple #[.agg (row 8 fun i => mixOne (a i) (b i) n), .int .i64 0]) ∧ Below w.heap.size w w' := by
  have HA := Lib.hid ha
  have HB := Lib.hid hb
  clear ha hb
  go_enter Try.func8, Try.ntmps8
  go_wp2
  go_loopw [17] (fun i wr => ∃ k : Nat, k ≤ 8 ∧ i = .int .i64 k ∧ At wr w.heap.size 22 (row 8 a) ∧ At wr (w.heap.size + 1) 22 (row 8 b) ∧ At wr (w.heap.size + 1 + 1) 22 (row 8 fun _ => 0)
      ∧ At wr (w.heap.size + 1 + 1 + 1) 22 (row 8 (mixTo a b n k)) ∧ Below w.heap.size w wr) (fun i _ => 8 - (intOf i).toNat)
  case atStart =>
    refine ⟨0, by omega, rfl, ?_, ?_, ?_, ?_, ?_⟩
    · exact (((At.new _ _ _).alloc _).alloc _).alloc _
    · exact ((At.new_ (by simp)).alloc _).alloc _
    · exact (At.new_ (by simp)).alloc _
    · exact At.new_ (by simp)
    · exact ((((Below.refl _ _).alloc (by simp) _).alloc (by simp) _).alloc (by simp <;> omega) _).alloc (by simp <;> omega) _
  case round =>
    obtain ⟨k, hk, rfl, hA, hB, hR, hO, hW⟩ := hrel
    by_cases hlt : k < 8
    · have ca := hA.cellRow hlt
      have cb := hB.cellRow hlt
      have co := hO.cellRow hlt
      have fo := hO.frozen k
      obtain ⟨ba1, ba2⟩ := HA.out k hlt
      obtain ⟨bb1, bb2⟩ := HB.out k hlt
      obtain ⟨m1, m2⟩ := mul_bd (a k) (4 - n) 32768 4 (by omega) (by omega) (by omega) (by omega)
      obtain ⟨m3, m4⟩ := mul_bd (b k) n 32768 4 (by omega) (by omega) (by omega) (by omega)
      go_wp2
      go_region
      all_goals go_wp2
      all_goals go_roundw
      case rel =>
        refine ⟨k + 1, by omega, by go_num, (hA.far (by simp <;> omega) _).drew, (hB.far (by simp <;> omega) _).drew, (hR.far (by simp <;> omega) _).drew, ?_, (hW.setCell (by simp <;> omega) _).drew⟩
        have := hO.set_ k (.int .i64 (mixOne (a k) (b k) n))
        rw [row_set_to (g := mixTo a b n (k + 1))] at this
        · exact this.drew
        · intro i hi
          unfold mixTo
          by_cases e : i = k
          · subst e; simp
          · have : i < k + 1 ↔ i < k := by omega
            simp [e, this]
      case measure => simp [intOf]; omega
    · obtain rfl : k = 8 := by omega
      go_wp2_with (first | (refine wpList_load_row rfl 22 (.tmp 8) rfl _ rfl _ _ _ _ hO Try.underlying22 rfl (by kernel_rfl) ?_) | (refine wpList_store_row rfl 22 (.tmp 6) (.tmp 59) rfl _ _ rfl rfl _ _ hR (by kernel_rfl) (by simp [row_size]) (row_one _ _) ?_))
      have hR' := At.setRow hR (row 8 (mixTo a b n 8))
      refine bodyPost_ret (results_at rfl _ rfl hR' Try.underlying22 rfl (by kernel_rfl)) rfl ⟨?_, ?_⟩
      · rw [row_congr (g := fun i => mixOne (a i) (b i) n) (fun i hi => by simp [mixTo, hi])]; rfl
      · exact below_setRow hW (by omega) _
end Go.Proofs.Ytnjblifbkfppoaa
