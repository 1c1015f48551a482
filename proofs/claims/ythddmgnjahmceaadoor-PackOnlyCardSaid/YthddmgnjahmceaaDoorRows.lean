/-
  NARROWER THAN 'FOR EVERY INPUT', by the rows' own cells (each row's printed sentence says how): PackBack: laid · PackOnly: laid · PackTurned: laid.
  DERIVED. THE GIVEN ROWS OF THIS SEAT. 3 by the template 'for every input the law returns true; each argument reads behind the call as it read before'; 0 by the template 'total and deterministic' (their statements: YthddmgnjahmceaaDoorTotals.lean).
  GIVEN WITH THE SEED: the statements are not yours to turn. If you find one false, say at which input.
  Laid BY PROGRAM, IN A SANDBOX (cutbox-rows.mjs): the forced cells as the released guide's own fill.sh prints them over the translation 235b75e1a9771ac5… (all of the seat's roots in one cut). By AI agents, Wed Nov 11 2026. No macro, syntax, notation, axiom, sorry.
-/
import Derived.Test.YthddmgnjahmceaaDoorChecked
import GoSem.Claim
import GoSem.ClaimJoined
import GoSem.ClaimMapViews
import Derived.JoinedTies
import Derived.KernelRfl
namespace Go.Proofs.YthddmgnjahmceaaDoor
/- THE CELL 'sum', in the pinned program and in every row, IS THE sha256 OF THE DUMP (.gsa) THAT YthddmgnjahmceaaDoorProg.lean LOADS. Nothing in Lean hashes anything: it is a label: what it is worth is what the hold of that sum in a sandbox is worth. -/
noncomputable def Tryd.pinned : Pinned := { name := "ythddmgnjahmceaadoor", sum := "235b75e1a9771ac5f829f74ba454cfcf55de4be2c9733649ee6e87a0a3e84d8a", checked := Tryd.checked }
namespace Rows
def none {H : Type} : Left H := { results := [], args := [] }

/- WHAT THE LISTED PACKAGE-LEVEL VARIABLES READ AS WHEN THE CALL BEGINS. Each datum BY PROGRAM (the guide's laid-datum.mjs) off the statement by which the dump's own 'gosem.cut.vars' lays the variable. In a bare row this is a premise. The card (YthddmgnjahmceaaDoorCards.lean) ties it to the program's text. -/
def laid_voxsat_quant_width {H : Type} : DataW H := .agg [.lit (.int .i64 6), .lit (.int .i64 6), .lit (.int .i64 5), .lit (.int .i64 5), .lit (.int .i64 4), .lit (.int .i64 4), .lit (.int .i64 3), .lit (.int .i64 3)]

/-- 'voxsatkeep.PackBack': WHATEVER THE INPUT: true; the input reads as it did. -/
def packBackSpec : ChangeSpec := { name := "packBack", fn := fun _ => fun
  | [d] => { results := [.lit (.bool true)], args := [d] }
  | _ => none }
def packBackRow : OpenClaim := { program := "ythddmgnjahmceaadoor", sum := "235b75e1a9771ac5f829f74ba454cfcf55de4be2c9733649ee6e87a0a3e84d8a", func := "voxsat/voxsatkeep.PackBack", spec := "packBack", unfollowed := true, recurses := true, named := ["voxsat/quant.width"], apart := false, laid := [("voxsat/quant.width", laid_voxsat_quant_width)] }
def PackBackSaid : Prop := packBackRow.holds Tryd.pinned (OpenSpec.ofChange packBackSpec)

/-- ITS FALSE NEIGHBOUR: 'it returns false'. Refute it at one input. -/
def packBackWrong : ChangeSpec := { name := "packBack", fn := fun _ => fun
  | [d] => { results := [.lit (.bool false)], args := [d] }
  | _ => none }
def PackBackWrongFalsely : Prop := packBackRow.holds Tryd.pinned (OpenSpec.ofChange packBackWrong)

/-- 'voxsatkeep.PackOnly': WHATEVER THE INPUT: true; the input reads as it did. -/
def packOnlySpec : ChangeSpec := { name := "packOnly", fn := fun _ => fun
  | [d] => { results := [.lit (.bool true)], args := [d] }
  | _ => none }
def packOnlyRow : OpenClaim := { program := "ythddmgnjahmceaadoor", sum := "235b75e1a9771ac5f829f74ba454cfcf55de4be2c9733649ee6e87a0a3e84d8a", func := "voxsat/voxsatkeep.PackOnly", spec := "packOnly", unfollowed := true, recurses := true, named := ["voxsat/quant.width"], apart := false, laid := [("voxsat/quant.width", laid_voxsat_quant_width)] }
def PackOnlySaid : Prop := packOnlyRow.holds Tryd.pinned (OpenSpec.ofChange packOnlySpec)

/-- ITS FALSE NEIGHBOUR: 'it returns false'. Refute it at one input. -/
def packOnlyWrong : ChangeSpec := { name := "packOnly", fn := fun _ => fun
  | [d] => { results := [.lit (.bool false)], args := [d] }
  | _ => none }
def PackOnlyWrongFalsely : Prop := packOnlyRow.holds Tryd.pinned (OpenSpec.ofChange packOnlyWrong)

/-- 'voxsatkeep.PackTurned': WHATEVER THE INPUT: true; the input reads as it did. -/
def packTurnedSpec : ChangeSpec := { name := "packTurned", fn := fun _ => fun
  | [d1, d2, d3] => { results := [.lit (.bool true)], args := [d1, d2, d3] }
  | _ => none }
def packTurnedRow : OpenClaim := { program := "ythddmgnjahmceaadoor", sum := "235b75e1a9771ac5f829f74ba454cfcf55de4be2c9733649ee6e87a0a3e84d8a", func := "voxsat/voxsatkeep.PackTurned", spec := "packTurned", unfollowed := true, recurses := true, named := ["voxsat/quant.width"], apart := false, laid := [("voxsat/quant.width", laid_voxsat_quant_width)] }
def PackTurnedSaid : Prop := packTurnedRow.holds Tryd.pinned (OpenSpec.ofChange packTurnedSpec)

/-- ITS FALSE NEIGHBOUR: 'it returns false'. Refute it at one input. -/
def packTurnedWrong : ChangeSpec := { name := "packTurned", fn := fun _ => fun
  | [d1, d2, d3] => { results := [.lit (.bool false)], args := [d1, d2, d3] }
  | _ => none }
def PackTurnedWrongFalsely : Prop := packTurnedRow.holds Tryd.pinned (OpenSpec.ofChange packTurnedWrong)

/- THE SECOND FORM. 'bulk': how many values and letters a reading holds, each counted each time it is reached (what is shared counts as often as it is met; a slice's spare places count too). A statement '..UptoSaid' is the law's where the arguments, and the package variables that the reading takes, are together of bulk at most 1048576: NARROWER than '..Said'. Prove '..Said' where nothing that the law and all that it calls make is longer than what came in: it says more and counts as full. Else prove '..UptoSaid'. A law counts once. -/
mutual
def uptoBulk {H : Type} : DataW H → Nat
  | .lit (.string bytes) => bytes.length + 1
  | .lit _ => 1
  | .nil => 1
  | .ptr d => uptoBulk d + 1
  | .slice elems spare => uptoBulkAll elems + uptoBulkAll spare + 1
  | .agg parts => uptoBulkAll parts + 1
  | .iface _ d => uptoBulk d + 1
  | .map entries => uptoBulkEntries entries + 1
  | .held _ => 1
def uptoBulkAll {H : Type} : List (DataW H) → Nat
  | [] => 0
  | d :: r => uptoBulk d + uptoBulkAll r
def uptoBulkEntries {H : Type} : List (Lit × DataW H) → Nat
  | [] => 0
  | x :: r => uptoBulkEntry x + uptoBulkEntries r
def uptoBulkEntry {H : Type} : Lit × DataW H → Nat
  | (.string bytes, d) => bytes.length + uptoBulk d + 1
  | (_, d) => uptoBulk d + 1
 end
def uptoSmall : (H : Type) → List (DataW H) → Bool := fun _ ds => decide (uptoBulkAll ds ≤ 1048576)
def OpenSpec.upto (s : _root_.Go.ChangeSpec) : _root_.Go.OpenSpec := { _root_.Go.OpenSpec.ofChange s with cond := some uptoSmall }

/-- 'voxsatkeep.PackBack', WHERE WHAT IT READS IS OF BULK AT MOST 1048576: true; the input reads as it did. -/
def packBackUptoRow : OpenClaim := { program := "ythddmgnjahmceaadoor", sum := "235b75e1a9771ac5f829f74ba454cfcf55de4be2c9733649ee6e87a0a3e84d8a", func := "voxsat/voxsatkeep.PackBack", spec := "packBack", unfollowed := true, recurses := true, named := ["voxsat/quant.width"], apart := false, laid := [("voxsat/quant.width", laid_voxsat_quant_width)], narrowed := true }
def PackBackUptoSaid : Prop := packBackUptoRow.holds Tryd.pinned (OpenSpec.upto packBackSpec)

/-- 'voxsatkeep.PackOnly', WHERE WHAT IT READS IS OF BULK AT MOST 1048576: true; the input reads as it did. -/
def packOnlyUptoRow : OpenClaim := { program := "ythddmgnjahmceaadoor", sum := "235b75e1a9771ac5f829f74ba454cfcf55de4be2c9733649ee6e87a0a3e84d8a", func := "voxsat/voxsatkeep.PackOnly", spec := "packOnly", unfollowed := true, recurses := true, named := ["voxsat/quant.width"], apart := false, laid := [("voxsat/quant.width", laid_voxsat_quant_width)], narrowed := true }
def PackOnlyUptoSaid : Prop := packOnlyUptoRow.holds Tryd.pinned (OpenSpec.upto packOnlySpec)

/-- 'voxsatkeep.PackTurned', WHERE WHAT IT READS IS OF BULK AT MOST 1048576: true; the input reads as it did. -/
def packTurnedUptoRow : OpenClaim := { program := "ythddmgnjahmceaadoor", sum := "235b75e1a9771ac5f829f74ba454cfcf55de4be2c9733649ee6e87a0a3e84d8a", func := "voxsat/voxsatkeep.PackTurned", spec := "packTurned", unfollowed := true, recurses := true, named := ["voxsat/quant.width"], apart := false, laid := [("voxsat/quant.width", laid_voxsat_quant_width)], narrowed := true }
def PackTurnedUptoSaid : Prop := packTurnedUptoRow.holds Tryd.pinned (OpenSpec.upto packTurnedSpec)

end Rows
end Go.Proofs.YthddmgnjahmceaaDoor
