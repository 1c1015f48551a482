/-
  NARROWER THAN 'FOR EVERY INPUT', by the rows' own cells (each row's printed sentence says how): PowRises: laid · GainRises: laid · GainNear: laid · FadeFalls: laid · NoiseWithin: laid · NearestGain: laid · PastRepeats: laid.
  DERIVED. THE GIVEN ROWS OF THIS SEAT. 7 by the template 'for every input the law returns true; each argument reads behind the call as it read before'; 0 by the template 'total and deterministic' (their statements: YtdpnadcoehmhbaaDoorTotals.lean).
  GIVEN WITH THE SEED: the statements are not yours to turn. If you find one false, say at which input.
  Laid BY PROGRAM, IN A SANDBOX (cutbox-rows.mjs): the forced cells as the released guide's own fill.sh prints them over the translation 5fac7089417f2704… (all of the seat's roots in one cut). By AI agents, Wed Nov 11 2026. No macro, syntax, notation, axiom, sorry.
-/
import Derived.Test.YtdpnadcoehmhbaaDoorChecked
import GoSem.Claim
import GoSem.ClaimJoined
import GoSem.ClaimMapViews
import Derived.JoinedTies
import Derived.KernelRfl
namespace Go.Proofs.YtdpnadcoehmhbaaDoor
/- THE CELL 'sum', in the pinned program and in every row, IS THE sha256 OF THE DUMP (.gsa) THAT YtdpnadcoehmhbaaDoorProg.lean LOADS. Nothing in Lean hashes anything: it is a label: what it is worth is what the hold of that sum in a sandbox is worth. -/
noncomputable def Tryd.pinned : Pinned := { name := "ytdpnadcoehmhbaadoor", sum := "5fac7089417f270401a04cbaee1a17ca5a687eba7836cdc3b030add29de4007f", checked := Tryd.checked }
namespace Rows
def none {H : Type} : Left H := { results := [], args := [] }

/- WHAT THE LISTED PACKAGE-LEVEL VARIABLES READ AS WHEN THE CALL BEGINS. Each datum BY PROGRAM (the guide's laid-datum.mjs) off the statement by which the dump's own 'gosem.cut.vars' lays the variable. In a bare row this is a premise. The card (YtdpnadcoehmhbaaDoorCards.lean) ties it to the program's text. -/
def laid_voxsat_dual_roots {H : Type} : DataW H := .agg [.lit (.int .i64 444758425), .lit (.int .i64 203159592), .lit (.int .i64 97181937), .lit (.int .i64 47538611), .lit (.int .i64 23511884), .lit (.int .i64 11692281), .lit (.int .i64 5830311), .lit (.int .i64 2911209), .lit (.int .i64 1454619), .lit (.int .i64 727063), .lit (.int .i64 363470), .lit (.int .i64 181719), .lit (.int .i64 90856), .lit (.int .i64 45427), .lit (.int .i64 22713)]
def laid_voxsat_pitch_gains {H : Type} : DataW H := .agg [.lit (.int .i64 0), .lit (.int .i64 3277), .lit (.int .i64 6554), .lit (.int .i64 9830), .lit (.int .i64 12452), .lit (.int .i64 14746), .lit (.int .i64 16384), .lit (.int .i64 18022)]

/-- 'voxsatkeep.PowRises': WHATEVER THE INPUT: true; the input reads as it did. -/
def powRisesSpec : ChangeSpec := { name := "powRises", fn := fun _ => fun
  | [d1, d2, d3, d4] => { results := [.lit (.bool true)], args := [d1, d2, d3, d4] }
  | _ => none }
def powRisesRow : OpenClaim := { program := "ytdpnadcoehmhbaadoor", sum := "5fac7089417f270401a04cbaee1a17ca5a687eba7836cdc3b030add29de4007f", func := "voxsat/voxsatkeep.PowRises", spec := "powRises", named := ["voxsat/dual.roots"], apart := false, laid := [("voxsat/dual.roots", laid_voxsat_dual_roots)] }
def PowRisesSaid : Prop := powRisesRow.holds Tryd.pinned (OpenSpec.ofChange powRisesSpec)

/-- ITS FALSE NEIGHBOUR: 'it returns false'. Refute it at one input. -/
def powRisesWrong : ChangeSpec := { name := "powRises", fn := fun _ => fun
  | [d1, d2, d3, d4] => { results := [.lit (.bool false)], args := [d1, d2, d3, d4] }
  | _ => none }
def PowRisesWrongFalsely : Prop := powRisesRow.holds Tryd.pinned (OpenSpec.ofChange powRisesWrong)

/-- 'voxsatkeep.GainRises': WHATEVER THE INPUT: true; the input reads as it did. -/
def gainRisesSpec : ChangeSpec := { name := "gainRises", fn := fun _ => fun
  | [d] => { results := [.lit (.bool true)], args := [d] }
  | _ => none }
def gainRisesRow : OpenClaim := { program := "ytdpnadcoehmhbaadoor", sum := "5fac7089417f270401a04cbaee1a17ca5a687eba7836cdc3b030add29de4007f", func := "voxsat/voxsatkeep.GainRises", spec := "gainRises", named := ["voxsat/dual.roots"], apart := false, laid := [("voxsat/dual.roots", laid_voxsat_dual_roots)] }
def GainRisesSaid : Prop := gainRisesRow.holds Tryd.pinned (OpenSpec.ofChange gainRisesSpec)

/-- ITS FALSE NEIGHBOUR: 'it returns false'. Refute it at one input. -/
def gainRisesWrong : ChangeSpec := { name := "gainRises", fn := fun _ => fun
  | [d] => { results := [.lit (.bool false)], args := [d] }
  | _ => none }
def GainRisesWrongFalsely : Prop := gainRisesRow.holds Tryd.pinned (OpenSpec.ofChange gainRisesWrong)

/-- 'voxsatkeep.GainNear': WHATEVER THE INPUT: true; the input reads as it did. -/
def gainNearSpec : ChangeSpec := { name := "gainNear", fn := fun _ => fun
  | [d1, d2, d3] => { results := [.lit (.bool true)], args := [d1, d2, d3] }
  | _ => none }
def gainNearRow : OpenClaim := { program := "ytdpnadcoehmhbaadoor", sum := "5fac7089417f270401a04cbaee1a17ca5a687eba7836cdc3b030add29de4007f", func := "voxsat/voxsatkeep.GainNear", spec := "gainNear", named := ["voxsat/dual.roots"], apart := false, laid := [("voxsat/dual.roots", laid_voxsat_dual_roots)] }
def GainNearSaid : Prop := gainNearRow.holds Tryd.pinned (OpenSpec.ofChange gainNearSpec)

/-- ITS FALSE NEIGHBOUR: 'it returns false'. Refute it at one input. -/
def gainNearWrong : ChangeSpec := { name := "gainNear", fn := fun _ => fun
  | [d1, d2, d3] => { results := [.lit (.bool false)], args := [d1, d2, d3] }
  | _ => none }
def GainNearWrongFalsely : Prop := gainNearRow.holds Tryd.pinned (OpenSpec.ofChange gainNearWrong)

/-- 'voxsatkeep.FadeFalls': WHATEVER THE INPUT: true; the input reads as it did. -/
def fadeFallsSpec : ChangeSpec := { name := "fadeFalls", fn := fun _ => fun
  | [d1, d2] => { results := [.lit (.bool true)], args := [d1, d2] }
  | _ => none }
def fadeFallsRow : OpenClaim := { program := "ytdpnadcoehmhbaadoor", sum := "5fac7089417f270401a04cbaee1a17ca5a687eba7836cdc3b030add29de4007f", func := "voxsat/voxsatkeep.FadeFalls", spec := "fadeFalls", named := ["voxsat/dual.roots"], apart := false, laid := [("voxsat/dual.roots", laid_voxsat_dual_roots)] }
def FadeFallsSaid : Prop := fadeFallsRow.holds Tryd.pinned (OpenSpec.ofChange fadeFallsSpec)

/-- ITS FALSE NEIGHBOUR: 'it returns false'. Refute it at one input. -/
def fadeFallsWrong : ChangeSpec := { name := "fadeFalls", fn := fun _ => fun
  | [d1, d2] => { results := [.lit (.bool false)], args := [d1, d2] }
  | _ => none }
def FadeFallsWrongFalsely : Prop := fadeFallsRow.holds Tryd.pinned (OpenSpec.ofChange fadeFallsWrong)

/-- 'voxsatkeep.NoiseWithin': WHATEVER THE INPUT: true; the input reads as it did. -/
def noiseWithinSpec : ChangeSpec := { name := "noiseWithin", fn := fun _ => fun
  | [d1, d2] => { results := [.lit (.bool true)], args := [d1, d2] }
  | _ => none }
def noiseWithinRow : OpenClaim := { program := "ytdpnadcoehmhbaadoor", sum := "5fac7089417f270401a04cbaee1a17ca5a687eba7836cdc3b030add29de4007f", func := "voxsat/voxsatkeep.NoiseWithin", spec := "noiseWithin", named := ["voxsat/dual.roots"], apart := false, laid := [("voxsat/dual.roots", laid_voxsat_dual_roots)] }
def NoiseWithinSaid : Prop := noiseWithinRow.holds Tryd.pinned (OpenSpec.ofChange noiseWithinSpec)

/-- ITS FALSE NEIGHBOUR: 'it returns false'. Refute it at one input. -/
def noiseWithinWrong : ChangeSpec := { name := "noiseWithin", fn := fun _ => fun
  | [d1, d2] => { results := [.lit (.bool false)], args := [d1, d2] }
  | _ => none }
def NoiseWithinWrongFalsely : Prop := noiseWithinRow.holds Tryd.pinned (OpenSpec.ofChange noiseWithinWrong)

/-- 'voxsatkeep.NearestGain': WHATEVER THE INPUT: true; the input reads as it did. -/
def nearestGainSpec : ChangeSpec := { name := "nearestGain", fn := fun _ => fun
  | [d1, d2, d3] => { results := [.lit (.bool true)], args := [d1, d2, d3] }
  | _ => none }
def nearestGainRow : OpenClaim := { program := "ytdpnadcoehmhbaadoor", sum := "5fac7089417f270401a04cbaee1a17ca5a687eba7836cdc3b030add29de4007f", func := "voxsat/voxsatkeep.NearestGain", spec := "nearestGain", named := ["voxsat/pitch.gains"], apart := false, laid := [("voxsat/pitch.gains", laid_voxsat_pitch_gains)] }
def NearestGainSaid : Prop := nearestGainRow.holds Tryd.pinned (OpenSpec.ofChange nearestGainSpec)

/-- ITS FALSE NEIGHBOUR: 'it returns false'. Refute it at one input. -/
def nearestGainWrong : ChangeSpec := { name := "nearestGain", fn := fun _ => fun
  | [d1, d2, d3] => { results := [.lit (.bool false)], args := [d1, d2, d3] }
  | _ => none }
def NearestGainWrongFalsely : Prop := nearestGainRow.holds Tryd.pinned (OpenSpec.ofChange nearestGainWrong)

/-- 'voxsatkeep.PastRepeats': WHATEVER THE INPUT: true; the input reads as it did. -/
def pastRepeatsSpec : ChangeSpec := { name := "pastRepeats", fn := fun _ => fun
  | [d1, d2] => { results := [.lit (.bool true)], args := [d1, d2] }
  | _ => none }
def pastRepeatsRow : OpenClaim := { program := "ytdpnadcoehmhbaadoor", sum := "5fac7089417f270401a04cbaee1a17ca5a687eba7836cdc3b030add29de4007f", func := "voxsat/voxsatkeep.PastRepeats", spec := "pastRepeats", named := ["voxsat/pitch.gains"], apart := false, laid := [("voxsat/pitch.gains", laid_voxsat_pitch_gains)] }
def PastRepeatsSaid : Prop := pastRepeatsRow.holds Tryd.pinned (OpenSpec.ofChange pastRepeatsSpec)

/-- ITS FALSE NEIGHBOUR: 'it returns false'. Refute it at one input. -/
def pastRepeatsWrong : ChangeSpec := { name := "pastRepeats", fn := fun _ => fun
  | [d1, d2] => { results := [.lit (.bool false)], args := [d1, d2] }
  | _ => none }
def PastRepeatsWrongFalsely : Prop := pastRepeatsRow.holds Tryd.pinned (OpenSpec.ofChange pastRepeatsWrong)

/- THE SECOND FORM. 'bulk': how many values and letters a reading holds, each counted each time it is reached (what is shared counts as often as it is met; a slice's spare places count too). A statement '..UptoSaid' is the law's where the arguments, and the package variables that the reading takes, are together of bulk at most 1048576: NARROWER than '..Said'. Prove '..Said' where nothing that the law and all that it calls make is longer than what came in: it says more and counts as full. Else prove '..UptoSaid'. A law counts once. -/
mutual
def uptoBulk {H : Type} : DataW H → Nat
  | .lit (.string bytes) => bytes.length + 1
  | .lit _ => 1
  | .nil => 1
  | .ptr d => uptoBulk d + 1
  | .slice elems spare => uptoBulkAll elems + uptoBulkAll spare + 1
  | .agg parts => uptoBulkAll parts + 1
  | .iface _ d => uptoBulk d + 1
  | .map entries => uptoBulkEntries entries + 1
  | .held _ => 1
def uptoBulkAll {H : Type} : List (DataW H) → Nat
  | [] => 0
  | d :: r => uptoBulk d + uptoBulkAll r
def uptoBulkEntries {H : Type} : List (Lit × DataW H) → Nat
  | [] => 0
  | x :: r => uptoBulkEntry x + uptoBulkEntries r
def uptoBulkEntry {H : Type} : Lit × DataW H → Nat
  | (.string bytes, d) => bytes.length + uptoBulk d + 1
  | (_, d) => uptoBulk d + 1
 end
def uptoSmall : (H : Type) → List (DataW H) → Bool := fun _ ds => decide (uptoBulkAll ds ≤ 1048576)
def OpenSpec.upto (s : _root_.Go.ChangeSpec) : _root_.Go.OpenSpec := { _root_.Go.OpenSpec.ofChange s with cond := some uptoSmall }

/-- 'voxsatkeep.PowRises', WHERE WHAT IT READS IS OF BULK AT MOST 1048576: true; the input reads as it did. -/
def powRisesUptoRow : OpenClaim := { program := "ytdpnadcoehmhbaadoor", sum := "5fac7089417f270401a04cbaee1a17ca5a687eba7836cdc3b030add29de4007f", func := "voxsat/voxsatkeep.PowRises", spec := "powRises", named := ["voxsat/dual.roots"], apart := false, laid := [("voxsat/dual.roots", laid_voxsat_dual_roots)], narrowed := true }
def PowRisesUptoSaid : Prop := powRisesUptoRow.holds Tryd.pinned (OpenSpec.upto powRisesSpec)

/-- 'voxsatkeep.GainRises', WHERE WHAT IT READS IS OF BULK AT MOST 1048576: true; the input reads as it did. -/
def gainRisesUptoRow : OpenClaim := { program := "ytdpnadcoehmhbaadoor", sum := "5fac7089417f270401a04cbaee1a17ca5a687eba7836cdc3b030add29de4007f", func := "voxsat/voxsatkeep.GainRises", spec := "gainRises", named := ["voxsat/dual.roots"], apart := false, laid := [("voxsat/dual.roots", laid_voxsat_dual_roots)], narrowed := true }
def GainRisesUptoSaid : Prop := gainRisesUptoRow.holds Tryd.pinned (OpenSpec.upto gainRisesSpec)

/-- 'voxsatkeep.GainNear', WHERE WHAT IT READS IS OF BULK AT MOST 1048576: true; the input reads as it did. -/
def gainNearUptoRow : OpenClaim := { program := "ytdpnadcoehmhbaadoor", sum := "5fac7089417f270401a04cbaee1a17ca5a687eba7836cdc3b030add29de4007f", func := "voxsat/voxsatkeep.GainNear", spec := "gainNear", named := ["voxsat/dual.roots"], apart := false, laid := [("voxsat/dual.roots", laid_voxsat_dual_roots)], narrowed := true }
def GainNearUptoSaid : Prop := gainNearUptoRow.holds Tryd.pinned (OpenSpec.upto gainNearSpec)

/-- 'voxsatkeep.FadeFalls', WHERE WHAT IT READS IS OF BULK AT MOST 1048576: true; the input reads as it did. -/
def fadeFallsUptoRow : OpenClaim := { program := "ytdpnadcoehmhbaadoor", sum := "5fac7089417f270401a04cbaee1a17ca5a687eba7836cdc3b030add29de4007f", func := "voxsat/voxsatkeep.FadeFalls", spec := "fadeFalls", named := ["voxsat/dual.roots"], apart := false, laid := [("voxsat/dual.roots", laid_voxsat_dual_roots)], narrowed := true }
def FadeFallsUptoSaid : Prop := fadeFallsUptoRow.holds Tryd.pinned (OpenSpec.upto fadeFallsSpec)

/-- 'voxsatkeep.NoiseWithin', WHERE WHAT IT READS IS OF BULK AT MOST 1048576: true; the input reads as it did. -/
def noiseWithinUptoRow : OpenClaim := { program := "ytdpnadcoehmhbaadoor", sum := "5fac7089417f270401a04cbaee1a17ca5a687eba7836cdc3b030add29de4007f", func := "voxsat/voxsatkeep.NoiseWithin", spec := "noiseWithin", named := ["voxsat/dual.roots"], apart := false, laid := [("voxsat/dual.roots", laid_voxsat_dual_roots)], narrowed := true }
def NoiseWithinUptoSaid : Prop := noiseWithinUptoRow.holds Tryd.pinned (OpenSpec.upto noiseWithinSpec)

/-- 'voxsatkeep.NearestGain', WHERE WHAT IT READS IS OF BULK AT MOST 1048576: true; the input reads as it did. -/
def nearestGainUptoRow : OpenClaim := { program := "ytdpnadcoehmhbaadoor", sum := "5fac7089417f270401a04cbaee1a17ca5a687eba7836cdc3b030add29de4007f", func := "voxsat/voxsatkeep.NearestGain", spec := "nearestGain", named := ["voxsat/pitch.gains"], apart := false, laid := [("voxsat/pitch.gains", laid_voxsat_pitch_gains)], narrowed := true }
def NearestGainUptoSaid : Prop := nearestGainUptoRow.holds Tryd.pinned (OpenSpec.upto nearestGainSpec)

/-- 'voxsatkeep.PastRepeats', WHERE WHAT IT READS IS OF BULK AT MOST 1048576: true; the input reads as it did. -/
def pastRepeatsUptoRow : OpenClaim := { program := "ytdpnadcoehmhbaadoor", sum := "5fac7089417f270401a04cbaee1a17ca5a687eba7836cdc3b030add29de4007f", func := "voxsat/voxsatkeep.PastRepeats", spec := "pastRepeats", named := ["voxsat/pitch.gains"], apart := false, laid := [("voxsat/pitch.gains", laid_voxsat_pitch_gains)], narrowed := true }
def PastRepeatsUptoSaid : Prop := pastRepeatsUptoRow.holds Tryd.pinned (OpenSpec.upto pastRepeatsSpec)

end Rows
end Go.Proofs.YtdpnadcoehmhbaaDoor
