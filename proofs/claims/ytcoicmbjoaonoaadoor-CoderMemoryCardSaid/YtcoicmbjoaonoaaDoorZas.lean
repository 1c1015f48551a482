/-
  Several texts of this claim, one behind the other: FrameAll, Front, High, EncA. No statement is proved here.
-/
import Derived.Test.YtcoicmbjoaonoaaDoorZam
import Derived.Test.YtcoicmbjoaonoaaDoorZar
import Derived.Test.YtcoicmbjoaonoaaDoorZad
import Derived.Test.YtcoicmbjoaonoaaDoorZai
import Derived.Test.YtcoicmbjoaonoaaDoorZag
/-
  coder: Decode, Erase walked. No statement is proved here.
-/
namespace Go.Proofs.YtcoicmbjoaonoaaDoor
set_option linter.unusedVariables false
set_option linter.unusedSimpArgs false
open Go.RowKit
set_option maxRecDepth 100000
/-- A packet whose numbers are in their bounds. -/
structure PkOk (p : Nat → Int) : Prop where
  kind : p 0 = 0 ∨ p 0 = 1 ∨ p 0 = 2
  refl : ∀ i : Nat, i < 8 → 0 ≤ p (1 + i) ∧ p (1 + i) < many i
  sub0 : SubOk (fun i => p (9 + i))
  sub1 : SubOk (fun i => p (17 + i))
theorem many_most : ∀ i : Nat, i < 8 → many i = ((mostF (1 + i) + 1 : Nat) : Int) := by
  intro i hi
  have : i = 0 ∨ i = 1 ∨ i = 2 ∨ i = 3 ∨ i = 4 ∨ i = 5 ∨ i = 6 ∨ i = 7 := by omega
  rcases this with rfl | rfl | rfl | rfl | rfl | rfl | rfl | rfl <;> decide
theorem pkOk_of {P : Nat → Nat} (h : ∀ j, j < 25 → P j ≤ mostF j) : PkOk (packI P) := by
  have k := fun j (hj : j < 25) => show 0 ≤ packI P j ∧ packI P j ≤ (mostF j : Nat) from ⟨by unfold packI; omega, by have := h j hj; unfold packI; omega⟩
  have k0 := k 0 (by omega)
  refine ⟨?_, fun i hi => ?_, ⟨k 9 (by omega), k 10 (by omega), fun i hi => ?_, k 15 (by omega), k 16 (by omega)⟩, ⟨k 17 (by omega), k 18 (by omega), fun i hi => ?_, k 23 (by omega), k 24 (by omega)⟩⟩
  · have : ((mostF 0 : Nat) : Int) = 2 := rfl
    omega
  · have := k (1 + i) (by omega)
    rw [many_most i hi]
    omega
  · have := k (9 + (2 + i)) (by omega)
    have hm : ∀ i, i < 4 → mostF (9 + (2 + i)) = 9 := by decide
    rw [hm i hi] at this
    exact this
  · have := k (17 + (2 + i)) (by omega)
    have hm : ∀ i, i < 4 → mostF (17 + (2 + i)) = 9 := by decide
    rw [hm i hi] at this
    exact this
def frNow (p : Nat → Int) : Nat → Int := valF (fun i => p (1 + i))
def frF0 (f p : Nat → Int) : Nat → Int := if p 0 = 1 then freshF else f
def frS (p : Nat → Int) : Bool := decide (p 0 = 2)
def stM (sil : Bool) (a f u : Nat → Int) : Nat → Int := if sil then plM (si2 f) a (noiseF (f 100) 8) else plM (hfM f u) a (hfX f u)
def stO (sil : Bool) (a f u : Nat → Int) : Nat → Int := if sil then plO (si2 f) a (noiseF (f 100) 8) else plO (hfM f u) a (hfX f u)
def frB (f p : Nat → Int) : Nat → Int := stM (frS p) (filF (frF0 f p) (frNow p) 2) (frF0 f p) (fun i => p (9 + i))
def frC (f p : Nat → Int) : Nat → Int := stM (frS p) (filF (frF0 f p) (frNow p) 4) (frB f p) (fun i => p (17 + i))
def frM (f p : Nat → Int) : Nat → Int := putI (putR (frC f p) (frNow p)) 99 0
def frO (f p : Nat → Int) : Nat → Int := outN (stO (frS p) (filF (frF0 f p) (frNow p) 2) (frF0 f p) (fun i => p (9 + i))) (stO (frS p) (filF (frF0 f p) (frNow p) 4) (frB f p) (fun i => p (17 + i)))
theorem frNow_31 {p : Nat → Int} (h : PkOk p) : Refl31 (frNow p) := fun i hi => valF_bd h.refl i hi
theorem frF0_good {f : Nat → Int} (h : GoodM f) (p : Nat → Int) : GoodM (frF0 f p) := by
  unfold frF0
  split
  · exact fresh_good
  · exact h
theorem stM_good {f u : Nat → Int} (h : GoodM f) (hu : SubOk u) (b : Bool) (a : Nat → Int) : GoodM (stM b a f u) := by
  unfold stM
  split
  · exact plM_good (si2_good h)
  · exact plM_good (hfM_good h hu)
theorem frB_good {f p : Nat → Int} (h : GoodM f) (hp : PkOk p) : GoodM (frB f p) := stM_good (frF0_good h p) hp.sub0 _ _
theorem frC_good {f p : Nat → Int} (h : GoodM f) (hp : PkOk p) : GoodM (frC f p) := stM_good (frB_good h hp) hp.sub1 _ _
theorem putR_good {f g : Nat → Int} (h : GoodM f) (hg : Refl31 g) : GoodM (putR f g) := by
  obtain ⟨h1, h2, h3, h4, h5, h6, h7, h8⟩ := h
  refine ⟨fun i hi => ?_, fun i hi => ?_, fun i hi => ?_, h4, h5, h6, h7, h8⟩
  · unfold putR; rw [if_pos hi]; exact hg i hi
  · have := h2 i hi; unfold pstM putR at *; rw [if_neg (by omega)]; exact this
  · have := h3 i hi; unfold excM putR at *; rw [if_neg (by omega)]; exact this
theorem frM_good {f p : Nat → Int} (h : GoodM f) (hp : PkOk p) : GoodM (frM f p) := putI_good (putR_good (frC_good h hp) (frNow_31 hp)) (.inr (.inr (.inr ⟨rfl, by omega, by omega⟩)))
theorem frM_erased (f p : Nat → Int) : frM f p 99 = 0 := by unfold frM putI; rw [if_pos rfl]
theorem plO_in (f a x : Nat → Int) (i : Nat) : In16 (plO f a x i) := mkOut_bd _ _ _ _
theorem stO_in (b : Bool) (a f u : Nat → Int) (i : Nat) : In16 (stO b a f u i) := by
  unfold stO
  split <;> exact plO_in _ _ _ _
theorem outN_in {a b : Nat → Int} (ha : ∀ i, In16 (a i)) (hb : ∀ i, In16 (b i)) (i : Nat) : In16 (outN a b i) := by
  unfold outN
  split
  · exact ha _
  · exact hb _
theorem frO_in (f p : Nat → Int) (i : Nat) : In16 (frO f p i) := outN_in (stO_in _ _ _ _) (stO_in _ _ _ _) i
/-- A refresh hangs on no memory. -/
theorem fr_refresh {p : Nat → Int} (h : p 0 = 1) (f g : Nat → Int) : frM f p = frM g p ∧ frO f p = frO g p := by
  have e : frF0 f p = frF0 g p := by unfold frF0; rw [if_pos h, if_pos h]
  unfold frM frO frC frB
  rw [e]
  exact ⟨rfl, rfl⟩
theorem noise8 (s : Int) (i : Nat) : -8 ≤ noiseF s 8 i ∧ noiseF s 8 i ≤ 8 := by
  have h := seedN_bd (sdN s i)
  unfold noiseF noiseN
  rw [show min (max (8 : Int) 0) 32767 = 8 from rfl]
  generalize seedN (sdN s i) = S at *
  omega
def FrPost (f p : Nat → Int) (w : World) (e : Ending) (w' : World) : Prop := ∃ v tl, e = .returned (.tuple #[.agg (memA (frM f p) (frS p)), v]) ∧ Rowed 3 1 v 80 (fun i => .int .i64 (frO f p i)) tl ∧ Has w w' tl
set_option maxHeartbeats 3200000 in
theorem frame_any (f p : Nat → Int) (s : Bool) (w : World) (hG : GoodM f) (hp : PkOk p) (hT : Roots w) (hP : Gains w) (hW : Widths w) : Calls Tryd.prog 42 #[.agg (memA f s), .agg (row 25 p)] w (FrPost f p w) := by
  have cV := fun (w : World) (hW : Widths w) => Values_any (fun i => p (1 + i)) w hW hp.refl
  have h0 := frF0_good hG p
  have hB := frB_good hG hp
  have cF0 := fun w : World => filter_any (frF0 f p) (frNow p) 0 2 w (.inl ⟨rfl, rfl⟩) h0.refl (frNow_31 hp)
  have cF1 := fun w : World => filter_any (frF0 f p) (frNow p) 1 4 w (.inr ⟨rfl, rfl⟩) h0.refl (frNow_31 hp)
  have k0 := filF_ok (n := 2) h0.refl (frNow_31 hp) (.inl rfl)
  have k1 := filF_ok (n := 4) h0.refl (frNow_31 hp) (.inr rfl)
  have nz : ∀ (g : Nat → Int) i, i < 40 → In16 (noiseF (g 100) 8 i) := fun g i _ => by have := noise8 (g 100) i; unfold In16; omega
  rcases hp.kind with hk | hk | hk
  · have e0 : frF0 f p = f := by unfold frF0; rw [if_neg (by omega)]
    have es : frS p = false := by unfold frS; simp [hk]
    rw [e0] at cF0 cF1 k0 k1
    have cH0 := fun (w : World) (hT : Roots w) (hP : Gains w) => half_any f (filF f (frNow p) 2) (fun i => p (9 + i)) false w hG k0 hp.sub0 hT hP
    have eB : frB f p = plM (hfM f fun i => p (9 + i)) (filF f (frNow p) 2) (hfX f fun i => p (9 + i)) := by unfold frB stM; rw [es, e0]; rfl
    have cH1 := fun (w : World) (hT : Roots w) (hP : Gains w) => half_any (frB f p) (filF f (frNow p) 4) (fun i => p (17 + i)) false w hB k1 hp.sub1 hT hP
    rw [eB] at cH1
    have h := frame_0 f p f (frNow p) _ _ _ _ _ _ s w hT hP hk cV hW cF0 cF1 cH0 cH1
    unfold FrPost frM frO frC
    rw [es, eB, e0]
    exact h
  · have e0 : frF0 f p = freshF := by unfold frF0; rw [if_pos hk]
    have es : frS p = false := by unfold frS; simp [hk]
    rw [e0] at cF0 cF1 k0 k1
    have cH0 := fun (w : World) (hT : Roots w) (hP : Gains w) => half_any freshF (filF freshF (frNow p) 2) (fun i => p (9 + i)) false w fresh_good k0 hp.sub0 hT hP
    have eB : frB f p = plM (hfM freshF fun i => p (9 + i)) (filF freshF (frNow p) 2) (hfX freshF fun i => p (9 + i)) := by unfold frB stM; rw [es, e0]; rfl
    have cH1 := fun (w : World) (hT : Roots w) (hP : Gains w) => half_any (frB f p) (filF freshF (frNow p) 4) (fun i => p (17 + i)) false w hB k1 hp.sub1 hT hP
    rw [eB] at cH1
    have h := frame_1 f p f (frNow p) _ _ _ _ _ _ s w hT hP hk cV hW cF0 cF1 cH0 cH1
    unfold FrPost frM frO frC
    rw [es, eB, e0]
    exact h
  · have e0 : frF0 f p = f := by unfold frF0; rw [if_neg (by omega)]
    have es : frS p = true := by unfold frS; simp [hk]
    rw [e0] at cF0 cF1 k0 k1
    have eB : frB f p = plM (si2 f) (filF f (frNow p) 2) (noiseF (f 100) 8) := by unfold frB stM; rw [es, e0]; rfl
    have cS0 := fun w : World => Silent_any f true w hG
    have cS1 := fun w : World => Silent_any (frB f p) true w hB
    have cP0 := fun (v : Value) (w : World) (L : Lies w v 40 (noiseF (f 100) 8)) => play_any (si2 f) (filF f (frNow p) 2) (noiseF (f 100) 8) true (si2_good hG) k0 (nz f) L
    have cP1 := fun (v : Value) (w : World) (L : Lies w v 40 (noiseF (frB f p 100) 8)) => play_any (si2 (frB f p)) (filF f (frNow p) 4) (noiseF (frB f p 100) 8) true (si2_good hB) k1 (nz _) L
    rw [eB] at cS1 cP1
    have h := frame_2 f p f (frNow p) _ _ _ _ _ _ _ _ _ _ s w hk cV hW cF0 cF1 cS0 cS1 cP0 cP1
    unfold FrPost frM frO frC
    rw [es, eB, e0]
    exact h
end Go.Proofs.YtcoicmbjoaonoaaDoor
/-
  front: sat, right, Weight walked. No statement is proved here.
-/
namespace Go.Proofs.YtcoicmbjoaonoaaDoor
set_option linter.unusedVariables false
set_option linter.unusedSimpArgs false
open Go.RowKit
set_option maxRecDepth 100000
theorem frontSat_any (x : Int) (w : World) : Calls Tryd.prog 60 #[.int .i64 x] w fun e w' => e = .returned (.int .i64 (sat16 x)) ∧ w = w' := by
  go_enter Tryd.func60, Tryd.ntmps60
  go_wp2_with (go_at_call 87; (with_reducible refine (Sat16_any _ _).mono ?_); rintro e w1 ⟨rfl, rfl⟩)
  go_ret
  exact ⟨rfl, rfl⟩
theorem Weight_any (i : Int) (w : World) (h0 : 0 ≤ i) (h1 : i < 120) : Calls Tryd.prog 61 #[.int .i64 i] w fun e w' => e = .returned (.int .i64 (weight i)) ∧ w = w' := by
  have d1 := lt_no h0
  have d2 := le_no h1
  by_cases hc : 2 * (120 - i) - 1 < 2 * i + 1
  · have HW : Hid (weight i = 32767 * (2 * (120 - i) - 1) / 119) := by show weight i = _; unfold weight; rw [if_pos hc]
    go_enter Tryd.func61, Tryd.ntmps61
    go_wp2
    all_goals go_ret
    all_goals first | (exfalso; omega) | exact ⟨by rw [HW.out]; rfl, rfl⟩
  · have HW : Hid (weight i = 32767 * (2 * i + 1) / 119) := by show weight i = _; unfold weight; rw [if_neg hc]
    go_enter Tryd.func61, Tryd.ntmps61
    go_wp2
    all_goals go_ret
    all_goals first | (exfalso; omega) | exact ⟨by rw [HW.out]; rfl, rfl⟩
def in16B (x : Int) : Bool := decide (-32768 ≤ x) && decide (x ≤ 32767)
def rightB (n : Nat) (f : Nat → Int) : Bool := (List.range n).all fun i => in16B (f i)
theorem rightB_iff {n : Nat} {f : Nat → Int} : rightB n f = true ↔ ∀ i, i < n → In16 (f i) := by
  simp [rightB, in16B, In16]
theorem sat_ne {x : Int} (h : ¬ In16 x) : (x != sat16 x) = true := by
  have := sat16_bd x
  simp only [bne_iff_ne]
  intro e
  exact h (by unfold In16; omega)
set_option maxHeartbeats 1600000 in
theorem right_any (P : Option Addr) (n cap b o : Nat) (f : Nat → Int) (w : World) (hn : n ≤ 9223372036854775807) (hR : Reads w P n b o f) :
    Calls Tryd.prog 59 #[.slice P n cap] w fun e w' => e = .returned (.bool (rightB n f)) ∧ w = w' := by
  go_enter Tryd.func59, Tryd.ntmps59
  go_wp2
  go_loop [7] (fun c => ∃ k : Nat, k ≤ n ∧ c = .int .i64 k ∧ Hid (∀ i, i < k → In16 (f i))) (fun c => n - (intOf c).toNat)
  case atStart => exact ⟨0, by omega, rfl, fun i hi => by omega⟩
  case round =>
    obtain ⟨k, hk, rfl, HK⟩ := hrel
    by_cases hlt : k < n
    · obtain rfl := hR.ptr (by omega)
      by_cases h1 : In16 (f k)
      · have HF := Lib.hid h1
        have b1 : (f k != sat16 (f k)) = false := by rw [sat16_in h1]; simp
        clear h1
        go_wp2_with (first | ((refine wpList_on (o := ⟨_, .load 3 _, _, _, _, _⟩) rfl (fun K hK => ?_)); refine wp_load_num hR 3 _ rfl rfl (by kernel_rfl) hlt ?_; refine hK _ _ ?_; clear hK K) | (go_at_call 60; (with_reducible refine (frontSat_any _ _).mono ?_); rintro e w1 ⟨rfl, rfl⟩))
        go_round
        case rel => exact ⟨k + 1, by omega, by go_num, fun i hi => by
          by_cases e : i = k
          · subst e; exact HF.out
          · exact HK.out i (by omega)⟩
        case measure => simp [intOf]; omega
      · have b1 := sat_ne h1
        have HE : Hid (rightB n f = false) := by
          show rightB n f = false
          rw [Bool.eq_false_iff]
          intro h
          exact h1 (rightB_iff.1 h k hlt)
        clear h1
        go_wp2_with (first | ((refine wpList_on (o := ⟨_, .load 3 _, _, _, _, _⟩) rfl (fun K hK => ?_)); refine wp_load_num hR 3 _ rfl rfl (by kernel_rfl) hlt ?_; refine hK _ _ ?_; clear hK K) | (go_at_call 60; (with_reducible refine (frontSat_any _ _).mono ?_); rintro e w1 ⟨rfl, rfl⟩))
        go_ret
        exact ⟨by rw [HE.out]; rfl, rfl⟩
    · obtain rfl : k = n := by omega
      have HE : Hid (rightB k f = true) := rightB_iff.2 HK.out
      go_wp2
      go_ret
      exact ⟨by rw [HE.out]; rfl, rfl⟩
end Go.Proofs.YtcoicmbjoaonoaaDoor
/-
  front.High walked; highs. No statement is proved here.
-/
namespace Go.Proofs.YtcoicmbjoaonoaaDoor
set_option linter.unusedVariables false
set_option linter.unusedSimpArgs false
open Go.RowKit
set_option maxRecDepth 100000
def hpF (h : HP) (i : Nat) : Int := if i = 0 then h.x0 else if i = 1 then h.x1 else if i = 2 then h.y0 else h.y1
def hpOf (q : Nat → Int) : HP := ⟨q 0, q 1, q 2, q 3⟩
theorem hp_row (q : Nat → Int) : row 4 q = row 4 (hpF (hpOf q)) := row_congr fun i hi => by
  have : i = 0 ∨ i = 1 ∨ i = 2 ∨ i = 3 := by omega
  rcases this with rfl | rfl | rfl | rfl <;> rfl
theorem hp_step (s : HP) (x y : Int) (hy : hpY s x = y) : row 4 (fun j => if j = 3 then hpF s 2 else if j = 2 then y else if j = 1 then hpF s 0 else if j = 0 then x else hpF s j) = row 4 (hpF (hpStep s x)) := row_congr fun i hi => by
  have : i = 0 ∨ i = 1 ∨ i = 2 ∨ i = 3 := by omega
  subst hy
  rcases this with rfl | rfl | rfl | rfl <;> rfl
def HighPost (f q : Nat → Int) (n : Nat) (w : World) (e : Ending) (w' : World) : Prop :=
  ∃ v tl, e = .returned (.tuple #[v, .agg (row 4 (hpF (hpS f (hpOf q) n))), .int .i64 0]) ∧ Rowed 3 1 v n (fun i => .int .i64 (hpOut f (hpOf q) i)) tl ∧ Has w w' tl
set_option maxHeartbeats 3200000 in
set_option maxRecDepth 100000 in
theorem High_yes (q f : Nat → Int) (P : Option Addr) (n cap b o : Nat) (w : World) (hn : n ≤ 17592186044416) (hq : ∀ i, i < 4 → In16 (q i)) (hf : ∀ i, i < n → In16 (f i)) (hR : Reads w P n b o f) :
    Calls Tryd.prog 33 #[.agg (row 4 q), .slice P n cap] w (HighPost f q n w) := by
  have H := Has.start w
  have HG : Hid (∀ k, k ≤ n → (hpS f (hpOf q) k).good) := fun k hk => hpS_good ⟨hq 0 (by omega), hq 1 (by omega), hq 2 (by omega), hq 3 (by omega)⟩ hf k hk
  have HF := Lib.hid hf
  have r1 : ∀ w' : World, Below w.heap.size w w' → Calls Tryd.prog 59 #[.slice P n cap] w' fun e w'' => e = .returned (.bool true) ∧ w' = w'' := fun w' hb => by
    have := right_any P n cap b o f w' (by omega) (hR.below hb)
    rw [rightB_iff.2 hf] at this; exact this
  have r2 : ∀ (g : Nat) (t : TypeId) (bs : List (Nat × TypeId × Array Value)) (w' : World), Has w w' bs → (g, t, row 4 q) ∈ bs → Calls Tryd.prog 59 #[.slice (some ⟨g, 0, none⟩) 2 2] w' fun e w'' => e = .returned (.bool true) ∧ w' = w'' := fun g t bs w' H hm => by
    have := right_any (some ⟨g, 0, none⟩) 2 2 g 0 q w' (by omega) ⟨fun _ => rfl, fun i hi => by rw [Nat.zero_add, (H.at_ hm).cell, row_get q (by omega)]⟩
    rw [rightB_iff.2 (fun i hi => hq i (by omega))] at this; exact this
  have r3 : ∀ (g : Nat) (t : TypeId) (bs : List (Nat × TypeId × Array Value)) (w' : World), Has w w' bs → (g, t, row 4 q) ∈ bs → Calls Tryd.prog 59 #[.slice (some ⟨g, 2, none⟩) 2 2] w' fun e w'' => e = .returned (.bool true) ∧ w' = w'' := fun g t bs w' H hm => by
    have := right_any (some ⟨g, 2, none⟩) 2 2 g 2 (fun i => q (2 + i)) w' (by omega) (Reads.part H hm (by omega))
    rw [rightB_iff.2 (fun i hi => hq (2 + i) (by omega))] at this; exact this
  have R1 := Lib.hid r1
  have R2 := Lib.hid r2
  have R3 := Lib.hid r3
  clear r1 r2 r3 hq hf
  go_enter Tryd.func33, Tryd.ntmps33
  go_wp2_with (first | ((refine wpList_on (o := ⟨_, .box _ (.tmp 0), _, _, _, _⟩) rfl (fun K hK => ?_)); (try simp only [Act.put, List.setIfInBounds_toArray, List.set_cons_zero, List.set_cons_succ]); refine wp_box H _ (.tmp 0) rfl (v := .agg _) rfl ?_; clear H; intro u gh H; refine hK _ _ ?_; clear hK K; try simp only [Value.cells, List.cons_append, List.nil_append] at H) | (refine wpList_on (o := ⟨some 5, .alloc 24, _, _, _, _⟩) rfl (fun K hK => ?_); refine wp_alloc H 24 rfl (z := (.agg (row 4 fun _ => 0))) (by kernel_rfl) ?_; clear H; intro u gr H; refine hK _ _ ?_; clear hK K; try simp only [Value.cells, List.cons_append, List.nil_append] at H) | (go_at_call 59; (with_reducible refine (R1.out _ H.below).mono ?_); rintro e w1 ⟨rfl, rfl⟩) | (go_at_call 59; (with_reducible refine (R2.out _ _ _ _ H (by repeat (first | exact List.mem_cons_self | apply List.mem_cons_of_mem | apply List.mem_append_right))).mono ?_); rintro e w1 ⟨rfl, rfl⟩) | (go_at_call 59; (with_reducible refine (R3.out _ _ _ _ H (by repeat (first | exact List.mem_cons_self | apply List.mem_cons_of_mem | apply List.mem_append_right))).mono ?_); rintro e w1 ⟨rfl, rfl⟩))
  clear R1 R2 R3
  rw [hp_row q] at H
  go_loopw [7, 30] (fun v c wr => ∃ (k : Nat) (tl : List (Nat × TypeId × Array Value)), k ≤ n ∧ c = .int .i64 k ∧ Hid (Rowed 3 1 v k (fun i => .int .i64 (hpOut f (hpOf q) i)) tl) ∧ Has w wr ((gr, 24, row 4 fun _ => 0) :: (gh, 24, row 4 (hpF (hpS f (hpOf q) k))) :: tl)) (fun _ c _ => n - (intOf c).toNat)
  case atStart => exact ⟨0, [], by omega, rfl, Rowed.nil _ _ _, H⟩
  clear H
  case round =>
    obtain ⟨k, tl, hk, rfl, RO, H⟩ := hrel
    replace RO := RO.out
    by_cases hlt : k < n
    · obtain rfl := hR.ptr (by omega)
      have R := Reads.has hR H
      obtain ⟨⟨b1, b2⟩, ⟨b3, b4⟩, ⟨b5, b6⟩, b7, b8⟩ := HG.out k hk
      obtain ⟨b9, b10⟩ := HF.out k hlt
      have HO : Hid (hpOut f (hpOf q) k = hpY (hpS f (hpOf q) k) (f k)) := rfl
      have HS : Hid (hpS f (hpOf q) (k + 1) = hpStep (hpS f (hpOf q) k) (f k)) := rfl
      generalize hpS f (hpOf q) k = s at *
      have c0 : -32768 ≤ hpF s 0 ∧ hpF s 0 ≤ 32767 := ⟨b1, b2⟩
      have c1 : -32768 ≤ hpF s 1 ∧ hpF s 1 ≤ 32767 := ⟨b3, b4⟩
      have c2 : -32768 ≤ hpF s 2 ∧ hpF s 2 ≤ 32767 := ⟨b5, b6⟩
      have c3 : -32768 ≤ hpF s 3 ∧ hpF s 3 ≤ 32767 := ⟨b7, b8⟩
      clear b1 b2 b3 b4 b5 b6 b7 b8
      obtain ⟨b1, b2⟩ := c0
      obtain ⟨b3, b4⟩ := c1
      obtain ⟨b5, b6⟩ := c2
      obtain ⟨b7, b8⟩ := c3
      have HY : Hid (hpY s (f k) = sat16 ((3798 * f k - 7596 * hpF s 0 + 3798 * hpF s 1 + 7807 * hpF s 2 - 3733 * hpF s 3 + 2048) / 4096)) := rfl
      generalize hyy : sat16 ((3798 * f k - 7596 * hpF s 0 + 3798 * hpF s 1 + 7807 * hpF s 2 - 3733 * hpF s 3 + 2048) / 4096) = y at HY
      have c4 := fun w : World => frontSat_any ((3798 * f k - 7596 * hpF s 0 + 3798 * hpF s 1 + 7807 * hpF s 2 - 3733 * hpF s 3 + 2048) / 4096) w
      rw [hyy] at c4
      have C4 := Lib.hid c4
      clear c4 hyy
      go_wp2_with (first | ((refine wpList_on (o := ⟨_, .load 3 _, _, _, _, _⟩) rfl (fun K hK => ?_)); refine wp_load_num R 3 _ rfl rfl (by kernel_rfl) hlt ?_; refine hK _ _ ?_; clear hK K) | ((refine wpList_on (o := ⟨_, .load 3 _, _, _, _, _⟩) rfl (fun K hK => ?_)); (try simp only [Act.put, List.setIfInBounds_toArray, List.set_cons_zero, List.set_cons_succ]); refine wp_load_one H 3 _ rfl rfl (by repeat (first | exact List.mem_cons_self | apply List.mem_cons_of_mem | apply List.mem_append_right)) (by kernel_rfl) (row_get _ (by omega)) ?_; refine hK _ _ ?_; clear hK K) | (go_at_call 60; (with_reducible refine (C4.out _).mono ?_); rintro e w1 ⟨rfl, rfl⟩) | ((refine wpList_on (o := ⟨_, .store 3 _ _, _, _, _, _⟩) rfl (fun K hK => ?_)); (try simp only [Act.put, List.setIfInBounds_toArray, List.set_cons_zero, List.set_cons_succ]); refine wp_store_row_ (l1 := [_]) H 3 _ _ rfl rfl rfl (by kernel_rfl) (by omega) ?_; clear H; intro u H; refine hK _ _ ?_; clear hK K; try simp only [Value.cells, List.cons_append, List.nil_append] at H) | ((refine wpList_on (o := ⟨some 78, .buildSlice _ _ _, _, _, _, _⟩) rfl (fun K hK => ?_)); refine wp_made H (elem := 3) (n := 1) (cs := #[.int .i64 y]) (by kernel_rfl) ?_; clear H; intro u gs H; refine hK _ _ ?_; clear hK K) | ((refine wpList_on (o := ⟨some 79, .call _, _, _, _, _⟩) rfl (fun K hK => ?_)); refine wp_append_has (bs := [_, _, _]) (e := 3) (s := 1) (B := 8) (m := 1) (nw := fun _ => .int .i64 y) _ _ 35 rfl H RO rfl rfl ?_ ?_ ?_ ?_ ?_; (kernel_rfl); (refine From.block (e := 3) (B := 8) H ?_ (by repeat (first | exact List.mem_cons_self | apply List.mem_cons_of_mem | apply List.mem_append_right)) ?_ ?_; (kernel_rfl); (intro j hj; have e0 : j = 0 := (by omega); subst e0; rfl); (intro j hj; rfl)); (unfold maxLen; omega); (omega); (clear H RO; intro v' u tl' RO H; refine hK _ _ ?_; clear hK K; try simp only [Value.cells, List.cons_append, List.nil_append] at H)))
      go_roundw
      case rel =>
        refine ⟨k + 1, tl', by omega, by go_num, RO.snoc (HO.out.trans HY.out), ?_⟩
        rw [HS.out, ← hp_step s (f k) y HY.out]
        exact H.tail
      case measure => simp [intOf]; omega
    · obtain rfl : k = n := by omega
      go_wp2
      refine wp_region_text [] (by kernel_rfl) (by kernel_rfl) (by kernel_rfl) ?_; replace H := H.drew; generalize World.drew _ = u at *
      repeat (first | (refine ones_load_all (o := ⟨_, .load 24 _, _, _, _, _⟩) H 24 _ rfl rfl rfl rfl (by repeat (first | exact List.mem_cons_self | apply List.mem_cons_of_mem | apply List.mem_append_right)) (by kernel_rfl) ?_; simp only [Act.put, List.setIfInBounds_toArray, List.set_cons_zero, List.set_cons_succ]) | (refine ones_eff (o := ⟨_, .store 24 _ _, _, _, _, _⟩) rfl rfl (fun K hK => ?_); refine wp_store_all (l1 := []) H 24 _ _ rfl rfl rfl (by kernel_rfl) (by simp [row_size]) (row_one _ _) ?_; clear H; intro u H; refine hK _ _ ?_; clear hK K; simp only [Act.put, List.setIfInBounds_toArray, List.set_cons_zero, List.set_cons_succ]; try simp only [Value.cells, List.cons_append, List.nil_append] at H) | (refine ones_free (v := ?_) rfl rfl ?_ ?_; rotate_left; (intro w'; go_simp; try with_reducible rfl); simp only [Act.put, List.setIfInBounds_toArray, List.set_cons_zero, List.set_cons_succ]))
      refine ones_nil ?_
      go_wp2
      refine bodyPost_ret (results_tct rfl _ H rfl (by repeat (first | exact List.mem_cons_self | apply List.mem_cons_of_mem | apply List.mem_append_right)) (by kernel_rfl)) rfl ⟨_, tl, rfl, RO, H.tail.tail⟩
end Go.Proofs.YtcoicmbjoaonoaaDoor
/-
  coder: quiet, less, scale, dot walked. No statement is proved here.
-/
namespace Go.Proofs.YtcoicmbjoaonoaaDoor
set_option linter.unusedVariables false
set_option linter.unusedSimpArgs false
open Go.RowKit
set_option maxRecDepth 100000
theorem coderSat_any (x : Int) (w : World) : Calls Tryd.prog 92 #[.int .i64 x] w fun e w' => e = .returned (.int .i64 (sat16 x)) ∧ w = w' := by
  go_enter Tryd.func92, Tryd.ntmps92
  go_wp2_with (go_at_call 87; (with_reducible refine (Sat16_any _ _).mono ?_); rintro e w1 ⟨rfl, rfl⟩)
  go_ret
  exact ⟨rfl, rfl⟩
theorem in16_mul {x y : Int} (hx : In16 x) (hy : In16 y) : -1073741824 ≤ x * y ∧ x * y ≤ 1073741824 := by
  unfold In16 at hx hy
  exact mul_bd x y 32768 32768 (by omega) (by omega) (by omega) (by omega)
def sqS (f : Nat → Int) (n : Nat) : Int := sumTo n fun i => f i * f i
theorem sqS_bd {f : Nat → Int} {m : Nat} (hf : ∀ i, i < m → In16 (f i)) (n : Nat) (h : n ≤ m) : -(n * 1073741824) ≤ sqS f n ∧ sqS f n ≤ n * 1073741824 := sumTo_bd n fun i hi => in16_mul (hf i (by omega)) (hf i (by omega))
set_option maxHeartbeats 1600000 in
theorem quiet_any (f : Nat → Int) {v : Value} {w : World} (hf : ∀ i, i < 80 → In16 (f i)) (L : Lies w v 80 f) :
    Calls Tryd.prog 37 #[v] w fun e w' => e = .returned (.bool (decide (sqS f 80 < 1280))) ∧ w = w' := by
  obtain ⟨P, cap, b, o, rfl, R⟩ := L
  obtain rfl := R.ptr (by omega)
  have HF := Lib.hid hf
  clear hf
  go_enter Tryd.func37, Tryd.ntmps37
  go_wp2
  go_loop [3, 8] (fun s c => ∃ k : Nat, k ≤ 80 ∧ c = .int .i64 k ∧ s = .int .i64 (sqS f k)) (fun _ c => 80 - (intOf c).toNat)
  case atStart => exact ⟨0, by omega, rfl, rfl⟩
  case round =>
    obtain ⟨k, hk, rfl, rfl⟩ := hrel
    by_cases hlt : k < 80
    · have q1 : (k : Int) < 80 := by omega
      have hb := sqS_bd HF.out k hk
      have hm := in16_mul (HF.out k hlt) (HF.out k hlt)
      have HN : Hid (sqS f (k + 1) = sqS f k + f k * f k) := rfl
      generalize sqS f k = S at *
      have s1 : IntKind.i64.wrap (f k * f k) = f k * f k := IntWalk.i64_in _ (by omega)
      generalize hq : f k * f k = Q at *
      have s2 : IntKind.i64.wrap (S + Q) = S + Q := IntWalk.i64_in _ (by omega)
      have hq' := Lib.hid hq
      go_wp2_with (first | ((refine wpList_on (o := ⟨_, .load 3 _, _, _, _, _⟩) rfl (fun K hK => ?_)); refine wp_load_num R 3 _ rfl rfl (by kernel_rfl) hlt ?_; refine hK _ _ ?_; clear hK K))
      go_round
      case rel => exact ⟨k + 1, by omega, by go_num, by rw [HN.out, ← hq'.out]⟩
      case measure => simp [intOf]; omega
    · obtain rfl : k = 80 := by omega
      have hb := sqS_bd HF.out 80 (by omega)
      generalize hS : sqS f 80 = S at *
      replace hS := Lib.hid hS
      have e80 : IntKind.i64.wrap (16 * 80) = 1280 := rfl
      go_wp2
      go_ret
      exact ⟨(by rw [hS.out]; rfl), rfl⟩
def lessF (a b : Nat → Int) (i : Nat) : Int := sat16 (a i - b i)
def scaleF (x : Nat → Int) (g : Int) (i : Nat) : Int := sat16 ((x i * g + 8192) / 16384)
def part40 (f : Nat → Int) (k i : Nat) : Int := if i < k then f i else 0
theorem part40_0 (f : Nat → Int) : row 40 (fun _ => (0 : Int)) = row 40 (part40 f 0) := row_congr fun i _ => by unfold part40; rw [if_neg (by omega)]
theorem part40_all (f : Nat → Int) : row 40 (part40 f 40) = row 40 f := row_congr fun i hi => by unfold part40; rw [if_pos hi]
theorem part40_next (f : Nat → Int) (k : Nat) : (row 40 fun j => if j = k then f k else part40 f k j) = row 40 (part40 f (k + 1)) := row_congr fun i _ => by
  unfold part40
  by_cases e : i = k
  · rw [if_pos e, if_pos (by omega), e]
  · rw [if_neg e]
    by_cases h : i < k
    · rw [if_pos h, if_pos (by omega)]
    · rw [if_neg h, if_neg (by omega)]
def Row40Post (f : Nat → Int) (w : World) (e : Ending) (w' : World) : Prop := ∃ g, e = .returned (.slice (some ⟨g, 0, none⟩) 40 40) ∧ Has w w' [(g, 3, row 40 f)]
set_option maxHeartbeats 3200000 in
theorem less_any (a b : Nat → Int) {v v' : Value} {w : World} (ha : ∀ i, i < 40 → In16 (a i)) (hb : ∀ i, i < 40 → In16 (b i)) (L : Lies w v 40 a) (L' : Lies w v' 40 b) :
    Calls Tryd.prog 66 #[v, v'] w (Row40Post (lessF a b) w) := by
  obtain ⟨P, cap, b1, o1, rfl, R1⟩ := L
  obtain ⟨P', cap', b2, o2, rfl, R2⟩ := L'
  obtain rfl := R1.ptr (by omega)
  obtain rfl := R2.ptr (by omega)
  have H := Has.start w
  have HA := Lib.hid ha
  have HB := Lib.hid hb
  clear ha hb
  go_enter Tryd.func66, Tryd.ntmps66
  go_wp2_with ((refine wpList_on (o := ⟨some 9, .makeSlice _ _ _, _, _, _, _⟩) rfl (fun K hK => ?_)); refine wp_make_has (t_ := 35) (e := 3) H _ _ rfl 40 .i64 .i64 rfl rfl ?_ ?_ ?_ ?_ ?_; (kernel_rfl); (kernel_rfl); (omega); (omega); (clear H; intro u g H; refine hK _ _ ?_; clear hK K; try simp only [Value.cells, List.cons_append, List.nil_append] at H))
  simp only [show (40 : Int).toNat = 40 from rfl] at *
  rw [part40_0 (lessF a b)] at H
  go_loopw [12] (fun c wr => ∃ k : Nat, k ≤ 40 ∧ c = .int .i64 k ∧ Has w wr [(g, 3, row 40 (part40 (lessF a b) k))]) (fun c _ => 40 - (intOf c).toNat)
  case atStart => exact ⟨0, by omega, rfl, H⟩
  clear H
  case round =>
    obtain ⟨k, hk, rfl, H⟩ := hrel
    by_cases hlt : k < 40
    · have q1 : (k : Int) < 40 := by omega
      have x := HA.out k hlt
      have y := HB.out k hlt
      have hd : IntKind.i64.wrap (a k - b k) = a k - b k := IntWalk.i64_in _ (by unfold In16 at x y; omega)
      have cs := Lib.hid (fun w : World => show Calls Tryd.prog 92 #[.int .i64 (a k - b k)] w fun e w' => e = .returned (.int .i64 (lessF a b k)) ∧ w = w' from coderSat_any _ w)
      have hst := Lib.hid (part40_next (lessF a b) k)
      generalize lessF a b k = V at *
      clear x y
      go_wp2_with fail
      refine wp_region_text [92] (by kernel_rfl) (by kernel_rfl) (by kernel_rfl) ?_; replace H := H.drew; generalize World.drew _ = u at *
      have K1 := Reads.has R1 H
      have K2 := Reads.has R2 H
      repeat (first | (refine ones_load_num K1 (o := ⟨_, .load 3 _, _, _, _, _⟩) 3 _ rfl rfl rfl rfl (by kernel_rfl) hlt ?_; simp only [Act.put, List.setIfInBounds_toArray, List.set_cons_zero, List.set_cons_succ]) | (refine ones_load_num K2 (o := ⟨_, .load 3 _, _, _, _, _⟩) 3 _ rfl rfl rfl rfl (by kernel_rfl) hlt ?_; simp only [Act.put, List.setIfInBounds_toArray, List.set_cons_zero, List.set_cons_succ]) | (refine' ones_call (o := ⟨_, .call _, _, _, _, _⟩) rfl rfl _ _; rotate_left; (unfold CallOf; go_simp; exact cs.out _); simp only [Act.put, List.setIfInBounds_toArray, List.set_cons_zero, List.set_cons_succ]) | (refine ones_eff (o := ⟨_, .store 3 _ _, _, _, _, _⟩) rfl rfl (fun K hK => ?_); refine wp_store_row_ (l1 := []) H 3 _ _ rfl rfl rfl (by kernel_rfl) hlt ?_; clear H; intro u H; refine hK _ _ ?_; clear hK K; simp only [Act.put, List.setIfInBounds_toArray, List.set_cons_zero, List.set_cons_succ]; try simp only [Value.cells, List.cons_append, List.nil_append] at H) | (refine ones_free (v := ?_) rfl rfl ?_ ?_; rotate_left; (intro w'; go_simp; try with_reducible rfl); simp only [Act.put, List.setIfInBounds_toArray, List.set_cons_zero, List.set_cons_succ]))
      refine ones_nil ?_
      clear K1 K2
      go_wp2
      go_roundw
      case rel => exact ⟨k + 1, by omega, by go_num, by rw [← hst.out]; exact H⟩
      case measure => simp [intOf]; omega
    · obtain rfl : k = 40 := by omega
      rw [part40_all] at H
      go_wp2
      go_ret
      exact ⟨g, rfl, H⟩
set_option maxHeartbeats 3200000 in
theorem scale_any (x : Nat → Int) (s : Int) {v : Value} {w : World} (hx : ∀ i, i < 40 → In16 (x i)) (hs : 0 ≤ s ∧ s ≤ 32767) (L : Lies w v 40 x) :
    Calls Tryd.prog 74 #[v, .int .i64 s] w (Row40Post (scaleF x s) w) := by
  obtain ⟨P, cap, b1, o1, rfl, R1⟩ := L
  obtain rfl := R1.ptr (by omega)
  have H := Has.start w
  have HX := Lib.hid hx
  clear hx
  go_enter Tryd.func74, Tryd.ntmps74
  go_wp2_with ((refine wpList_on (o := ⟨some 10, .makeSlice _ _ _, _, _, _, _⟩) rfl (fun K hK => ?_)); refine wp_make_has (t_ := 35) (e := 3) H _ _ rfl 40 .i64 .i64 rfl rfl ?_ ?_ ?_ ?_ ?_; (kernel_rfl); (kernel_rfl); (omega); (omega); (clear H; intro u g H; refine hK _ _ ?_; clear hK K; try simp only [Value.cells, List.cons_append, List.nil_append] at H))
  simp only [show (40 : Int).toNat = 40 from rfl] at *
  rw [part40_0 (scaleF x s)] at H
  go_loopw [13] (fun c wr => ∃ k : Nat, k ≤ 40 ∧ c = .int .i64 k ∧ Has w wr [(g, 3, row 40 (part40 (scaleF x s) k))]) (fun c _ => 40 - (intOf c).toNat)
  case atStart => exact ⟨0, by omega, rfl, H⟩
  clear H
  case round =>
    obtain ⟨k, hk, rfl, H⟩ := hrel
    by_cases hlt : k < 40
    · have q1 : (k : Int) < 40 := by omega
      have y := HX.out k hlt
      have hm := mul_bd (x k) s 32768 32767 (by unfold In16 at y; omega) (by unfold In16 at y; omega) (by omega) (by omega)
      have cs := Lib.hid (fun w : World => show Calls Tryd.prog 92 #[.int .i64 ((x k * s + 8192) / 16384)] w fun e w' => e = .returned (.int .i64 (scaleF x s k)) ∧ w = w' from coderSat_any _ w)
      have hst := Lib.hid (part40_next (scaleF x s) k)
      generalize scaleF x s k = V at *
      have s1 : IntKind.i64.wrap (x k * s) = x k * s := IntWalk.i64_in _ (by omega)
      have s2 : IntKind.i64.wrap (x k * s + 8192) = x k * s + 8192 := IntWalk.i64_in _ (by omega)
      have K1 := Reads.has R1 H
      clear y hm
      go_wp2_with (first | ((refine wpList_on (o := ⟨_, .load 3 _, _, _, _, _⟩) rfl (fun K hK => ?_)); refine wp_load_num K1 3 _ rfl rfl (by kernel_rfl) hlt ?_; refine hK _ _ ?_; clear hK K) | (go_at_call 92; (with_reducible refine (cs.out _).mono ?_); rintro e w1 ⟨rfl, rfl⟩) | ((refine wpList_on (o := ⟨_, .store 3 _ _, _, _, _, _⟩) rfl (fun K hK => ?_)); (try simp only [Act.put, List.setIfInBounds_toArray, List.set_cons_zero, List.set_cons_succ]); refine wp_store_row_ (l1 := []) H 3 _ _ rfl rfl rfl (by kernel_rfl) hlt ?_; clear H; intro u H; refine hK _ _ ?_; clear hK K; try simp only [Value.cells, List.cons_append, List.nil_append] at H))
      go_roundw
      case rel => exact ⟨k + 1, by omega, by go_num, by rw [← hst.out]; exact H⟩
      case measure => simp [intOf]; omega
    · obtain rfl : k = 40 := by omega
      rw [part40_all] at H
      go_wp2
      go_ret
      exact ⟨g, rfl, H⟩
def dotC (a b : Nat → Int) (n : Nat) : Int := sumTo n (fun i => a i * b i)
set_option maxHeartbeats 1600000 in
theorem dot_any (a b : Nat → Int) {v v' : Value} {w : World} (ha : ∀ i, i < 40 → In16 (a i)) (hb : ∀ i, i < 40 → In16 (b i)) (L : Lies w v 40 a) (L' : Lies w v' 40 b) :
    Calls Tryd.prog 79 #[v, v'] w fun e w' => e = .returned (.int .i64 (dotC a b 40)) ∧ w = w' := by
  obtain ⟨P, cap, b1, o1, rfl, R⟩ := L
  obtain ⟨P', cap', b2, o2, rfl, R2⟩ := L'
  obtain rfl := R.ptr (by omega)
  obtain rfl := R2.ptr (by omega)
  have HA := Lib.hid ha
  have HB := Lib.hid hb
  clear ha hb
  go_enter Tryd.func79, Tryd.ntmps79
  go_wp2
  go_loop [5, 10] (fun s c => ∃ k : Nat, k ≤ 40 ∧ c = .int .i64 k ∧ s = .int .i64 (dotC a b k)) (fun _ c => 40 - (intOf c).toNat)
  case atStart => exact ⟨0, by omega, rfl, rfl⟩
  case round =>
    obtain ⟨k, hk, rfl, rfl⟩ := hrel
    by_cases hlt : k < 40
    · have q1 : (k : Int) < 40 := by omega
      have hbd : -(k * 1073741824) ≤ dotC a b k ∧ dotC a b k ≤ k * 1073741824 := sumTo_bd k fun i hi => in16_mul (HA.out i (by omega)) (HB.out i (by omega))
      have hm := in16_mul (HA.out k hlt) (HB.out k hlt)
      have HN : Hid (dotC a b (k + 1) = dotC a b k + a k * b k) := rfl
      generalize dotC a b k = S at *
      have s1 : IntKind.i64.wrap (a k * b k) = a k * b k := IntWalk.i64_in _ (by omega)
      generalize hq : a k * b k = Q at *
      have s2 : IntKind.i64.wrap (S + Q) = S + Q := IntWalk.i64_in _ (by omega)
      have hq' := Lib.hid hq
      go_wp2_with (first | ((refine wpList_on (o := ⟨_, .load 3 _, _, _, _, _⟩) rfl (fun K hK => ?_)); refine wp_load_num R 3 _ rfl rfl (by kernel_rfl) hlt ?_; refine hK _ _ ?_; clear hK K) | ((refine wpList_on (o := ⟨_, .load 3 _, _, _, _, _⟩) rfl (fun K hK => ?_)); refine wp_load_num R2 3 _ rfl rfl (by kernel_rfl) hlt ?_; refine hK _ _ ?_; clear hK K))
      go_round
      case rel => exact ⟨k + 1, by omega, by go_num, by rw [HN.out, ← hq'.out]⟩
      case measure => simp [intOf]; omega
    · obtain rfl : k = 40 := by omega
      go_wp2
      go_ret
      exact ⟨rfl, rfl⟩
end Go.Proofs.YtcoicmbjoaonoaaDoor
