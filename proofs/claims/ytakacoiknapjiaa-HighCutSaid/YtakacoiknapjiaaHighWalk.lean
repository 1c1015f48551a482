/-
  HighCut's walk, all cases; and a slice of integers opened with its size. No statement is proved here.
-/
import Derived.Test.YtakacoiknapjiaaHighCut
import Derived.Test.YtakacoiknapjiaaHighCutB
import Derived.Test.YtakacoiknapjiaaOpenS
import Derived.SizedLaws
namespace Go.Proofs.Ytakacoiknapjiaa
open Go.ChangeShapes Go.WideShapes Go.ChangeAt Go.RowKit
theorem lits_len (k : IntKind) (zs : List Int) {H : Type} : (lits (H := H) k zs).length = zs.length := by
  induction zs with
  | nil => rfl
  | cons z zs ih => exact congrArg (· + 1) ih
theorem open_numsZ {H : Type} {enc : TypeId × Value → H} {P : Program} {w : World} {base : Nat} {spare : Nat → Bool} {held : Bool} {t e : TypeId} {A : Option Addr} {len cap : Nat} {d : DataW H} {p : List MemPlace}
    (ht : P.underlying t = some (.slice e)) (he : P.underlying e = some (.int .i64)) (hc : P.cellsOf e = 1) (h : DataW.Trod enc P w base spare held t (.slice A len cap) d p) :
    (A = none ∧ len = 0 ∧ cap = 0) ∨ ∃ (ad : Addr) (f : Nat → Int) (es sp : List (DataW H)), A = some ad ∧ len ≤ cap ∧ d = .slice es sp ∧ len ≤ es.length + sp.length ∧ ReadsA w A len ad f := by
  obtain ⟨fuel, hf⟩ := h
  have hv : (Value.slice A len cap).cells.toList = [.slice A len cap] := rfl
  rw [hv] at hf
  rcases open_ints ht he hc hf with ⟨h1, _⟩ | ⟨a, len', cap', zs, h1, _, hl, hm, hlen, hx, hcell, _⟩
  · injection h1 with h1
    injection h1 with e1 e2 e3
    exact .inl ⟨e1, e2, e3⟩
  · injection h1 with h1
    injection h1 with e1 e2 e3
    subst e1 e2 e3
    have hz : len ≤ zs.length := by rw [hlen]; split <;> omega
    refine .inr ⟨a, fun i => zs.getD i 0, _, _, rfl, hl, congrArg Prod.fst hx, ?_, ⟨fun _ => rfl, fun i hi => hcell i (by omega)⟩⟩
    rw [lits_len, lits_len, List.length_take, List.length_drop]
    omega
theorem highCut_walk (q : Nat → Int) (A : Option Addr) (n cap : Nat) (k : Int) (w : World) (hn : n ≤ 17592186044416)
    (h : (A = none ∧ n = 0 ∧ cap = 0) ∨ ∃ (ad : Addr) (f : Nat → Int), A = some ad ∧ n ≤ cap ∧ ReadsA w A n ad f) :
    Calls Try.prog 3 #[.agg (row 4 q), .slice A n cap, .int .i64 k] w fun e w' => e = .returned (.bool true) ∧ Below w.heap.size w w' := by
  rcases h with ⟨rfl, rfl, rfl⟩ | ⟨ad, f, rfl, hcap, R⟩
  · have r0 : ReadsA w none 0 ⟨0, 0, none⟩ (fun _ => 0) := ⟨fun h => by omega, fun i hi => by omega⟩
    have c4 : ∀ w : World, Calls Try.prog 10 #[.int .i64 k, .int .i64 1] w fun e w' => e = .returned (.int .i64 0) ∧ w = w' := fun w => by
      have := spot_any k 1 w (by omega) (by omega)
      rwa [show k % 1 = 0 by omega] at this
    by_cases hG : HighIn q (fun _ => 0) 0
    · exact highCut_nil_yes q _ _ k w hG r0 r0 r0 c4
    · exact highCut_nil_no q _ _ k w hG r0 r0 r0 c4
  · have hb : 0 ≤ k % ((n : Nat) + 1 : Int) ∧ k % ((n : Nat) + 1 : Int) < (n : Nat) + 1 := ⟨Int.emod_nonneg _ (by omega), Int.emod_lt_of_pos _ (by omega)⟩
    obtain ⟨kN, hkN⟩ : ∃ kN : Nat, (kN : Int) = k % ((n : Nat) + 1 : Int) := ⟨(k % ((n : Nat) + 1 : Int)).toNat, by omega⟩
    have c4 : ∀ w : World, Calls Try.prog 10 #[.int .i64 k, .int .i64 ((n : Nat) + 1)] w fun e w' => e = .returned (.int .i64 (kN : Nat)) ∧ w = w' := fun w => by
      have := spot_any k ((n : Nat) + 1 : Int) w (by omega) (by omega)
      rwa [← hkN] at this
    have r1 : ReadsA w (some ad) kN ad f := ⟨fun _ => rfl, fun i hi => R.cell i (by omega)⟩
    have r2 : ReadsA w (if cap = kN then some ad else some (ad.add kN)) (n - kN) (ad.add kN) (fun i => f (kN + i)) := by
      refine ⟨fun h => ?_, fun i hi => ?_⟩
      · exact if_neg (show ¬ cap = kN by omega)
      · have := R.cell (kN + i) (by omega)
        rw [show (ad.add kN).add i = ad.add (kN + i) by
          by_cases h1 : kN = 0 <;> by_cases h2 : i = 0 <;> simp [Addr.add, h1, h2, Nat.add_assoc]]
        exact this
    by_cases hG : HighIn q f n
    · exact highCut_some_yes q f ad n cap kN k w hn hcap (by omega) hG R r1 r2 c4
    · exact highCut_some_no q f ad n cap kN k w hn hcap (by omega) hG R r1 r2 c4
end Go.Proofs.Ytakacoiknapjiaa
