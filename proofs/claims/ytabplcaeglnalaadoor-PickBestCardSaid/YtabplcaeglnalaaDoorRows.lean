/-
  NARROWER THAN 'FOR EVERY INPUT', by the rows' own cells (each row's printed sentence says how): OpenBest: laid · PickBest: laid.
  DERIVED. THE GIVEN ROWS OF THIS SEAT. 2 by the template 'for every input the law returns true; each argument reads behind the call as it read before'; 0 by the template 'total and deterministic' (their statements: YtabplcaeglnalaaDoorTotals.lean).
  GIVEN WITH THE SEED: the statements are not yours to turn. If you find one false, say at which input.
  Laid BY PROGRAM, IN A SANDBOX (cutbox-rows.mjs): the forced cells as the released guide's own fill.sh prints them over the translation 3eb101e1982c5788… (all of the seat's roots in one cut). By AI agents, Wed Nov 11 2026. No macro, syntax, notation, axiom, sorry.
-/
import Derived.Test.YtabplcaeglnalaaDoorChecked
import GoSem.Claim
import GoSem.ClaimJoined
import GoSem.ClaimMapViews
import Derived.JoinedTies
import Derived.KernelRfl
namespace Go.Proofs.YtabplcaeglnalaaDoor
/- THE CELL 'sum', in the pinned program and in every row, IS THE sha256 OF THE DUMP (.gsa) THAT YtabplcaeglnalaaDoorProg.lean LOADS. Nothing in Lean hashes anything: it is a label: what it is worth is what the hold of that sum in a sandbox is worth. -/
noncomputable def Tryd.pinned : Pinned := { name := "ytabplcaeglnalaadoor", sum := "3eb101e1982c5788e9c07a51b9f7e1fe5acbffda183586e927da163b41d144b1", checked := Tryd.checked }
namespace Rows
def none {H : Type} : Left H := { results := [], args := [] }

/- WHAT THE LISTED PACKAGE-LEVEL VARIABLES READ AS WHEN THE CALL BEGINS. Each datum BY PROGRAM (the guide's laid-datum.mjs) off the statement by which the dump's own 'gosem.cut.vars' lays the variable. In a bare row this is a premise. The card (YtabplcaeglnalaaDoorCards.lean) ties it to the program's text. -/
def laid_voxsat_pitch_gains {H : Type} : DataW H := .agg [.lit (.int .i64 0), .lit (.int .i64 3277), .lit (.int .i64 6554), .lit (.int .i64 9830), .lit (.int .i64 12452), .lit (.int .i64 14746), .lit (.int .i64 16384), .lit (.int .i64 18022)]

/-- 'voxsatkeep.OpenBest': WHATEVER THE INPUT: true; the input reads as it did. -/
def openBestSpec : ChangeSpec := { name := "openBest", fn := fun _ => fun
  | [d1, d2] => { results := [.lit (.bool true)], args := [d1, d2] }
  | _ => none }
def openBestRow : OpenClaim := { program := "ytabplcaeglnalaadoor", sum := "3eb101e1982c5788e9c07a51b9f7e1fe5acbffda183586e927da163b41d144b1", func := "voxsat/voxsatkeep.OpenBest", spec := "openBest", inPlace := ["math/bits.Add64"], named := ["voxsat/pitch.gains"], apart := false, laid := [("voxsat/pitch.gains", laid_voxsat_pitch_gains)] }
def OpenBestSaid : Prop := openBestRow.holds Tryd.pinned (OpenSpec.ofChange openBestSpec)

/-- ITS FALSE NEIGHBOUR: 'it returns false'. Refute it at one input. -/
def openBestWrong : ChangeSpec := { name := "openBest", fn := fun _ => fun
  | [d1, d2] => { results := [.lit (.bool false)], args := [d1, d2] }
  | _ => none }
def OpenBestWrongFalsely : Prop := openBestRow.holds Tryd.pinned (OpenSpec.ofChange openBestWrong)

/-- 'voxsatkeep.PickBest': WHATEVER THE INPUT: true; the input reads as it did. -/
def pickBestSpec : ChangeSpec := { name := "pickBest", fn := fun _ => fun
  | [d1, d2, d3, d4] => { results := [.lit (.bool true)], args := [d1, d2, d3, d4] }
  | _ => none }
def pickBestRow : OpenClaim := { program := "ytabplcaeglnalaadoor", sum := "3eb101e1982c5788e9c07a51b9f7e1fe5acbffda183586e927da163b41d144b1", func := "voxsat/voxsatkeep.PickBest", spec := "pickBest", inPlace := ["math/bits.Add64"], unfollowed := true, recurses := true, named := ["voxsat/pitch.gains"], apart := false, laid := [("voxsat/pitch.gains", laid_voxsat_pitch_gains)] }
def PickBestSaid : Prop := pickBestRow.holds Tryd.pinned (OpenSpec.ofChange pickBestSpec)

/-- ITS FALSE NEIGHBOUR: 'it returns false'. Refute it at one input. -/
def pickBestWrong : ChangeSpec := { name := "pickBest", fn := fun _ => fun
  | [d1, d2, d3, d4] => { results := [.lit (.bool false)], args := [d1, d2, d3, d4] }
  | _ => none }
def PickBestWrongFalsely : Prop := pickBestRow.holds Tryd.pinned (OpenSpec.ofChange pickBestWrong)

/- THE SECOND FORM. 'bulk': how many values and letters a reading holds, each counted each time it is reached (what is shared counts as often as it is met; a slice's spare places count too). A statement '..UptoSaid' is the law's where the arguments, and the package variables that the reading takes, are together of bulk at most 1048576: NARROWER than '..Said'. Prove '..Said' where nothing that the law and all that it calls make is longer than what came in: it says more and counts as full. Else prove '..UptoSaid'. A law counts once. -/
mutual
def uptoBulk {H : Type} : DataW H → Nat
  | .lit (.string bytes) => bytes.length + 1
  | .lit _ => 1
  | .nil => 1
  | .ptr d => uptoBulk d + 1
  | .slice elems spare => uptoBulkAll elems + uptoBulkAll spare + 1
  | .agg parts => uptoBulkAll parts + 1
  | .iface _ d => uptoBulk d + 1
  | .map entries => uptoBulkEntries entries + 1
  | .held _ => 1
def uptoBulkAll {H : Type} : List (DataW H) → Nat
  | [] => 0
  | d :: r => uptoBulk d + uptoBulkAll r
def uptoBulkEntries {H : Type} : List (Lit × DataW H) → Nat
  | [] => 0
  | x :: r => uptoBulkEntry x + uptoBulkEntries r
def uptoBulkEntry {H : Type} : Lit × DataW H → Nat
  | (.string bytes, d) => bytes.length + uptoBulk d + 1
  | (_, d) => uptoBulk d + 1
 end
def uptoSmall : (H : Type) → List (DataW H) → Bool := fun _ ds => decide (uptoBulkAll ds ≤ 1048576)
def OpenSpec.upto (s : _root_.Go.ChangeSpec) : _root_.Go.OpenSpec := { _root_.Go.OpenSpec.ofChange s with cond := some uptoSmall }

/-- 'voxsatkeep.OpenBest', WHERE WHAT IT READS IS OF BULK AT MOST 1048576: true; the input reads as it did. -/
def openBestUptoRow : OpenClaim := { program := "ytabplcaeglnalaadoor", sum := "3eb101e1982c5788e9c07a51b9f7e1fe5acbffda183586e927da163b41d144b1", func := "voxsat/voxsatkeep.OpenBest", spec := "openBest", inPlace := ["math/bits.Add64"], named := ["voxsat/pitch.gains"], apart := false, laid := [("voxsat/pitch.gains", laid_voxsat_pitch_gains)], narrowed := true }
def OpenBestUptoSaid : Prop := openBestUptoRow.holds Tryd.pinned (OpenSpec.upto openBestSpec)

/-- 'voxsatkeep.PickBest', WHERE WHAT IT READS IS OF BULK AT MOST 1048576: true; the input reads as it did. -/
def pickBestUptoRow : OpenClaim := { program := "ytabplcaeglnalaadoor", sum := "3eb101e1982c5788e9c07a51b9f7e1fe5acbffda183586e927da163b41d144b1", func := "voxsat/voxsatkeep.PickBest", spec := "pickBest", inPlace := ["math/bits.Add64"], unfollowed := true, recurses := true, named := ["voxsat/pitch.gains"], apart := false, laid := [("voxsat/pitch.gains", laid_voxsat_pitch_gains)], narrowed := true }
def PickBestUptoSaid : Prop := pickBestUptoRow.holds Tryd.pinned (OpenSpec.upto pickBestSpec)

end Rows
end Go.Proofs.YtabplcaeglnalaaDoor
