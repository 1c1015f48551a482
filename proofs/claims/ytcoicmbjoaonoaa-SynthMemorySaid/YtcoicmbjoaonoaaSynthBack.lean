/-
  The walk of SynthBack. No statement is proved here.
-/
import Derived.Test.YtcoicmbjoaonoaaFilters
import Derived.Test.YtcoicmbjoaonoaaLies
namespace Go.Proofs.Ytcoicmbjoaonoaa
open Go.RowKit
theorem pastI_bd (p : Nat → Int) : ∀ i, i < 8 → In16 (pastI p i) := fun i _ => s16I_bd _
theorem listF_in (n : Nat) (f : Nat → Int) : ∀ i, In16 (listF n f i) := fun i => listF_bd n f i
theorem predI_0 (a : Nat → Int) : predI a 0 = 4096 := rfl
theorem Make_l {a p f : Nat → Int} {n : Nat} {v : Value} {u : World} (hn : n ≤ 17592186044416) (ha : ∀ i, i < 9 → -1048576 ≤ a i ∧ a i ≤ 1048576) (h0 : a 0 = 4096) (hp : ∀ i, i < 8 → In16 (p i)) (hf : ∀ i, i < n → In16 (f i)) (L : Lies u v n f) :
    Calls Try.prog 9 #[.agg (row 9 a), .agg (row 8 p), v] u (MkPost a f p n u) := by
  obtain ⟨P, cap, b, o, rfl, R⟩ := L
  exact Make_any a p f P n cap b o u hn ha hp hf h0 R
theorem Undo_l {a p f : Nat → Int} {n : Nat} {v : Value} {u : World} (hn : n ≤ 17592186044416) (ha : ∀ i, i < 9 → -1048576 ≤ a i ∧ a i ≤ 1048576) (h0 : a 0 = 4096) (hp : ∀ i, i < 8 → In16 (p i)) (hf : ∀ i, i < n → In16 (f i)) (L : Lies u v n f) :
    Calls Try.prog 10 #[.agg (row 9 a), .agg (row 8 p), v] u (UdPost a f p n u) := by
  obtain ⟨P, cap, b, o, rfl, R⟩ := L
  exact Undo_any a p f P n cap b o u hn ha hp hf h0 R
end Go.Proofs.Ytcoicmbjoaonoaa
