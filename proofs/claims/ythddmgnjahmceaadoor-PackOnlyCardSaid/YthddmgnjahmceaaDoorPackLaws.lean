/-
  Packing and unpacking, plain laws: what is packed is unpacked as it was; what is unpacked is packed so; one byte turned is refused. No statement is proved here.
-/
import Derived.Test.YthddmgnjahmceaaDoorUnpack
namespace Go.Proofs.YthddmgnjahmceaaDoor
open Go.RowKit
theorem packB_lt (p : Nat → Nat) (i : Nat) : packB p (parP p) i < 256 := by
  unfold packB
  split
  · exact byteN_lt (bitP_lt (parP_lt p)) _ _
  · split <;> omega
theorem packB_low (p : Nat → Nat) {j : Nat} (h : j < 14) : packB p (parP p) j = byteN (bitP p (parP p)) 112 j := by unfold packB; rw [if_pos h]
theorem packB_sum (p : Nat → Nat) : sumN (packB p (parP p)) 14 % 256 = packB p (parP p) 14 := by
  rw [sumN_congr (c := byteN (bitP p (parP p)) 112) 14 (fun i hi => packB_low p hi)]
  unfold packB
  rw [if_neg (by omega), if_pos rfl]
theorem packB_bit (p : Nat → Nat) {i : Nat} (hi : i < 112) : bitB (packB p (parP p)) i = bitP p (parP p) i :=
  bits_of_byte (bitP_lt (parP_lt p)) (by rw [packB_low p (by omega), byteN_all (by omega)])
theorem packB_unp {p : Nat → Nat} (hp : ∀ j, j < 25 → p j ≤ mostF j) {j : Nat} (hj : j < 25) : unpF (packB p (parP p)) j = p j := by
  unfold unpF
  rw [valB_congr (C := bitP p (parP p)) _ (fun m hm => packB_bit p (by have := start_le hj; omega))]
  exact field_back hj (hp j hj)
theorem goodB_congr {q r : Nat → Int} (h : ∀ j, j < 25 → q j = r j) : goodB q = goodB r := by
  cases e : goodB r
  · cases e2 : goodB q
    · rfl
    · rw [goodB_iff] at e2
      have : goodB r = true := goodB_iff.2 fun j hj => by rw [← h j hj]; exact e2 j hj
      rw [e] at this; cases this
  · rw [goodB_iff] at e ⊢
    exact fun j hj => by rw [h j hj]; exact e j hj
theorem packI_congr {p r : Nat → Nat} (h : ∀ j, j < 25 → p j = r j) : ∀ j, j < 25 → packI p j = packI r j := fun j hj => by unfold packI; rw [h j hj]
theorem pack_code {p : Nat → Nat} (hp : ∀ j, j < 25 → p j ≤ mostF j) : unpE (packB p (parP p)) = 0 := by
  have h := fun j hj => packB_unp hp (j := j) hj
  refine unpE_yes (packB_sum p) (restZ_yes fun i hi => ?_) ?_ ?_
  · rw [packB_bit p (by omega)]
    unfold bitP
    rw [if_neg (by omega), if_neg (by omega)]
  · rw [goodB_congr (packI_congr h)]; exact packI_good hp
  · rw [packB_bit p (by omega), par_back]
    exact (parU_congr (packI_congr h) 3).symm
theorem pack_back {p : Nat → Nat} (hp : ∀ j, j < 25 → p j ≤ mostF j) : row 25 (unpR (packB p (parP p))) = row 25 (packI p) := by
  rw [unpR_yes (pack_code hp)]
  exact row_congr (packI_congr fun j hj => packB_unp hp hj)
/-- What is unpacked. -/
theorem unp_parts {b : Nat → Nat} (h : unpE b = 0) : sumN b 14 % 256 = b 14 ∧ restZ b = true ∧ goodB (packI (unpF b)) = true ∧ bitB b 106 = parP (unpF b) := by
  unfold unpE at h
  by_cases h1 : sumN b 14 % 256 = b 14
  · rw [if_pos h1] at h
    by_cases h2 : restZ b = true
    · rw [if_pos h2] at h
      by_cases h3 : goodB (packI (unpF b)) = true
      · rw [if_pos h3] at h
        by_cases h4 : bitB b 106 = parP (unpF b)
        · exact ⟨h1, h2, h3, h4⟩
        · rw [if_neg h4] at h; omega
      · rw [if_neg h3] at h; omega
    · rw [if_neg h2] at h; omega
  · rw [if_neg h1] at h; omega
theorem unp_good {b : Nat → Nat} (h : unpE b = 0) : ∀ j, j < 25 → unpF b j ≤ mostF j := fun j hj => by
  have := (goodB_iff.1 (unp_parts h).2.2.1 j hj).2
  unfold packI at this
  omega
theorem pack_only {b : Nat → Nat} (hb : ∀ i, b i < 256) (h : unpE b = 0) {j : Nat} (hj : j < 15) : packB (unpF b) (parP (unpF b)) j = b j := by
  obtain ⟨h1, h2, h3, h4⟩ := unp_parts h
  have hz : ∀ i, 107 ≤ i → i < 112 → bitB b i = 0 := fun i hi hi2 => by
    have := List.all_eq_true.1 h2 (i - 107) (List.mem_range.2 (by omega))
    rw [show 107 + (i - 107) = i by omega] at this
    simpa using this
  have hbit := bits_back (bitB_lt b) (unpF b) (fun j _ => rfl) hz
  rw [h4] at hbit
  have low : ∀ k, k < 14 → packB (unpF b) (parP (unpF b)) k = b k := fun k hk => by
    rw [packB_low _ hk, byteN_all (by omega), valB_congr (C := bitB b) 8 (fun m hm => hbit _ (by omega))]
    exact byte_of_bits (hb k)
  by_cases e : j = 14
  · subst e
    rw [← packB_sum, sumN_congr 14 low, h1]
  · exact low j (by omega)
theorem pack_turned (p : Nat → Nat) {k x : Nat} (hk : k < 15) (hx : x < 256) (hne : x ≠ packB p (parP p) k) : unpE (fun i => if i = k then x else packB p (parP p) i) = 5 := by
  refine unpE_sum ?_
  by_cases e : k = 14
  · subst e
    rw [if_pos rfl, sumN_congr (c := packB p (parP p)) 14 (fun i hi => by rw [if_neg (by omega)]), packB_sum]
    exact fun h => hne h.symm
  · rw [if_neg (by omega), ← packB_sum]
    exact sumN_turned (packB_lt p) hx hne 14 (by omega)
/-- A packet of the first kind. -/
def kindN (c : Nat) (j : Nat) : Nat := if j = 0 then c else 0
theorem kindN_le {c : Nat} (h : c ≤ 2) : ∀ j, j < 25 → kindN c j ≤ mostF j := fun j _ => by
  unfold kindN
  split
  · rename_i e; subst e; exact h
  · omega
theorem kind_64 : packB (kindN 1) (parP (kindN 1)) 0 = 64 := by
  rw [packB_low _ (by omega), byteN_all (by omega), valB_congr (C := bitP (kindN 1) 0) 8 (fun m hm => by unfold bitP; rw [if_pos (by omega), if_pos (by omega)])]
  decide
theorem kind_ok : goodB (packI (kindN 0)) = true := packI_good (kindN_le (by omega))
theorem kind_no : goodB (packI (kindN 3)) = false := goodB_no (k := 0) (by omega) (by unfold packI kindN mostF mostL; simp)
theorem xor_ne (a : Nat) {m : Nat} (hm : 0 < m) : a ^^^ m ≠ a := fun h => by
  have h1 : a ^^^ (a ^^^ m) = a ^^^ a := by rw [h]
  rw [← Nat.xor_assoc, Nat.xor_self, Nat.zero_xor] at h1
  omega
end Go.Proofs.YthddmgnjahmceaaDoor
