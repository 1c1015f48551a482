/-
  The statement on CoderMemory: for every input the law returns true, and each argument reads behind the call as it read before. Condition: the listed package-level variables hold what the program's text lays (the card ties them to that text).
-/
import Derived.Test.YtcoicmbjoaonoaaDoorRows
import Derived.Test.YtcoicmbjoaonoaaDoorTie
import Derived.Test.YtcoicmbjoaonoaaDoorCards
import Derived.Test.YtcoicmbjoaonoaaDoorZaa
import Derived.Test.YtcoicmbjoaonoaaDoorZbc
import Derived.Test.YtcoicmbjoaonoaaDoorZad
import Derived.Test.YtcoicmbjoaonoaaDoorCoderMemory
import Derived.Below
import Derived.SevenTiedAt
import Derived.SizedLaws
namespace Go.Proofs.YtcoicmbjoaonoaaDoor.coderMemoryDone
set_option linter.unusedVariables false
set_option linter.unusedSimpArgs false
open Go.ChangeShapes Go.WideShapes Go.ChangeAt Go.RowKit
open Go.ChangeMaps (open_string shut_string)
set_option linter.unusedVariables false

theorem own : ownKnob Tryd.prog.godebug = none := by kernel_rfl
theorem laidOut : laidOutB Tryd.prog = true := by kernel_rfl
theorem door_met (os : Os) (args : Array Value) : laidMetH Tryd.prog Rows.coderMemoryRow.laid ((World.doorLaid Tryd.prog 400 os).forCall (fun _ _ => 0) ⟨#[], args, []⟩).memory :=
  laidMetH_of_parts3 (fuel := 8) (laidMet_of_run' 8 (by kernel_rfl) (by kernel_rfl)) (by kernel_rfl) (by kernel_rfl)

set_option maxRecDepth 100000 in
theorem lifted (os : Os) (started : os.Started) (H : Type) (enc : TypeId × Value → H) :
    ReturnsInHanded {} Tryd.checked os 8 .any (fun w args => (Rows.coderMemorySpec.pre enc Tryd.prog Tryd.f8 [] false w args ∧ laidMetH Tryd.prog Rows.coderMemoryRow.laid w) ∧ sizedMet enc Tryd.prog Tryd.f8 (OpenSpec.ofChange Rows.coderMemorySpec) false w args)
      (Rows.coderMemorySpec.post enc Tryd.prog Tryd.f8 false true false false) := by
  refine returnsInHanded_of_change_and (C := Tryd.checked) (X := fun w _ => laidMetH Tryd.prog Rows.coderMemoryRow.laid w) (fun _ _ _ hh h => h.of_heap hh) own started (by kernel_rfl) Tryd.func8
    (ChangeSpec.witness_shaped (enc := enc) (C := Tryd.checked) (os := os) (X := fun w _ => laidMetH Tryd.prog Rows.coderMemoryRow.laid w) false (World.doorLaid Tryd.prog 400 os) #[.slice none 0 0, .agg (row 25 fun _ => 0)] 8 rfl (World.shaped_of_RefB (by kernel_rfl) (by kernel_rfl)) (by kernel_rfl) (by kernel_rfl) (by kernel_rfl) (door_met os _)) ?_
  intro W base args ds gs before hval0 hW _ hsz0 hL _
  have hsz := hsz0
  have hval : ∀ (j : Nat) t v, Tryd.f8.params[j]? = some t → args[j]? = some v → Value.okWide Tryd.prog W .any base t v := hval0
  have hW' := hW
  obtain ⟨p, q, hA0, hV, rfl, hfz, hnd⟩ := hW
  have hA : DataW.TrodAll enc Tryd.prog W 0 (fun _ => true) true Tryd.f8.params.toList args.toList ds p := hA0
  rw [Tryd.params8] at hA hval hsz
  obtain ⟨v0, vs0, d0, ds0, p0, q0, hargs, rfl, rfl, h0, r0⟩ := trodAll_cons hA
  obtain ⟨v1, vs1, d1, ds1, p1, q1, rfl, rfl, rfl, h1, r1⟩ := trodAll_cons r0
  obtain ⟨rfl, rfl, rfl⟩ := trodAll_nil r1
  obtain rfl : args = #[v0, v1] := by cases args; simp_all
  obtain ⟨rfl, rfl⟩ := trodVars_none hV
  have k0 := h0
  have lt0 : ∀ x ∈ p0, x.block < W.heap.size := by obtain ⟨m, hm⟩ := k0; exact DataW.trod_lt m _ _ _ hm
  obtain ⟨A0, len0, cap0, rfl⟩ := okWide_slice Tryd.underlying35 (hval 0 35 v0 rfl rfl)
  obtain ⟨ad0, f0, n0, R0⟩ := open_nums Tryd.underlying35 Tryd.underlying3 (by kernel_rfl) h0
  have k1 := h1
  have lt1 : ∀ x ∈ p1, x.block < W.heap.size := by obtain ⟨m, hm⟩ := k1; exact DataW.trod_lt m _ _ _ hm
  obtain ⟨a1, rfl⟩ := open_struct (n := 25) (e := 3) (by rw [Tryd.underlying44]) (by kernel_rfl) (by kernel_rfl) Tryd.underlying3 (hval 1 44 v1 rfl rfl)
  have T0 := laid_tableAt (P := Tryd.prog) (L := Rows.coderMemoryRow.laid) 0 (name := "voxsat/dual.roots") (G := 2) (t := 154) (e := 3) (l := rootsZ) (by kernel_rfl) (by kernel_rfl) (by kernel_rfl) Tryd.underlying154 Tryd.underlying3 (by kernel_rfl) (by kernel_rfl) (by kernel_rfl) hL
  have T1 := laid_tableAt (P := Tryd.prog) (L := Rows.coderMemoryRow.laid) 1 (name := "voxsat/pitch.gains") (G := 0) (t := 26) (e := 3) (l := gainsZ) (by kernel_rfl) (by kernel_rfl) (by kernel_rfl) Tryd.underlying26 Tryd.underlying3 (by kernel_rfl) (by kernel_rfl) (by kernel_rfl) hL
  have T2 := laid_tableAt (P := Tryd.prog) (L := Rows.coderMemoryRow.laid) 2 (name := "voxsat/quant.width") (G := 1) (t := 26) (e := 3) (l := widthZ) (by kernel_rfl) (by kernel_rfl) (by kernel_rfl) Tryd.underlying26 Tryd.underlying3 (by kernel_rfl) (by kernel_rfl) (by kernel_rfl) hL
  clear hA0 hval0
  refine (coderMemory_walk A0 len0 cap0 ad0 f0 n0 R0 a1 T0 T1 T2).mono fun e W' ⟨he, bel⟩ => ?_
  subst he
  exact ⟨_, rfl, _, _, _, [], _, [], hW', trodAll_mk1 (shut_bool Tryd.underlying4 _), (trodAll_cons_mk (Below.trod laidOut (by kernel_rfl) (of_decide_eq_true (by kernel_rfl)) k0 bel lt0) (trodAll_cons_mk (Below.trod laidOut (by kernel_rfl) (of_decide_eq_true (by kernel_rfl)) k1 bel lt1) trodAll_mk0)), rfl, bel.frame _, fun h => by cases h⟩

theorem over : Rows.coderMemoryRow.holds Tryd.pinned (OpenSpec.ofChange Rows.coderMemorySpec) :=
  OpenClaim.holds_of_wide 8 Tryd.f8 rfl rfl rfl rfl rfl rfl rfl ⟨rfl, rfl, rfl, rfl, rfl⟩ rfl rfl rfl rfl rfl (by kernel_rfl) Tryd.func8 (by kernel_rfl)
    (of_decide_eq_true (by kernel_rfl)) (by unfold Func.isWrapper; first | (rw [if_pos (by decide +kernel)]; kernel_rfl) | (rw [if_neg (by decide +kernel)]; exact ⟨rfl, rfl⟩))
    (fun os started H enc _ => lifted os started H enc)

/-- The statement: the tied card. -/
theorem proved : Rows.CoderMemoryCardSaid :=
  Claim7.holds_tied_plain_at .later [] Rows.coderMemoryCard.laidKinds true Rows.coderMemoryCard.stood.harness false
    over (fun _ h => by cases h) (by kernel_rfl) (fun _ h => by cases h) coderMemory_row_tie rfl ⟨rfl, rfl⟩ (by kernel_rfl) rfl
    (fun f fn hf hfn => by
      obtain rfl : f = 8 := Option.some.inj ((show Tryd.prog.funcNamed "voxsat/voxsatkeep.CoderMemory" = some 8 by kernel_rfl).symm.trans hf) |>.symm
      obtain rfl : fn = Tryd.f8 := (Option.some.inj (Tryd.func8.symm.trans hfn)).symm
      exact ⟨by kernel_rfl, fun j t ht => by
        rw [Tryd.params8] at ht
        have hm : t ∈ [35, 44] := by simpa using Array.mem_of_getElem? ht
        have hall : ([35, 44].all fun u => !Tryd.prog.wantsStandIn u) = true := by kernel_rfl
        exact (show Tryd.prog.wantsStandIn t = false by simpa using List.all_eq_true.1 hall t hm)⟩)
    (by kernel_rfl)
end Go.Proofs.YtcoicmbjoaonoaaDoor.coderMemoryDone
