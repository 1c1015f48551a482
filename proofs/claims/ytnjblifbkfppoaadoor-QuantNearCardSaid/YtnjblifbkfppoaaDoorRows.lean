/-
  NARROWER THAN 'FOR EVERY INPUT', by the rows' own cells (each row's printed sentence says how): QuantRises: laid · QuantBack: laid · QuantNear: laid.
  DERIVED. THE GIVEN ROWS OF THIS SEAT. 3 by the template 'for every input the law returns true; each argument reads behind the call as it read before'; 0 by the template 'total and deterministic' (their statements: YtnjblifbkfppoaaDoorTotals.lean).
  GIVEN WITH THE SEED: the statements are not yours to turn. If you find one false, say at which input.
  Laid BY PROGRAM, IN A SANDBOX (cutbox-rows.mjs): the forced cells as the released guide's own fill.sh prints them over the translation ee2a6469d603c374… (all of the seat's roots in one cut). By AI agents, Wed Nov 11 2026. No macro, syntax, notation, axiom, sorry.
-/
import Derived.Test.YtnjblifbkfppoaaDoorChecked
import GoSem.Claim
import GoSem.ClaimJoined
import GoSem.ClaimMapViews
import Derived.JoinedTies
import Derived.KernelRfl
namespace Go.Proofs.YtnjblifbkfppoaaDoor
/- THE CELL 'sum', in the pinned program and in every row, IS THE sha256 OF THE DUMP (.gsa) THAT YtnjblifbkfppoaaDoorProg.lean LOADS. Nothing in Lean hashes anything: it is a label: what it is worth is what the hold of that sum in a sandbox is worth. -/
noncomputable def Tryd.pinned : Pinned := { name := "ytnjblifbkfppoaadoor", sum := "ee2a6469d603c374d6d09ee19d47f3d3f90a3367d092f81c9e37264c7e147eaa", checked := Tryd.checked }
namespace Rows
def none {H : Type} : Left H := { results := [], args := [] }

/- WHAT THE LISTED PACKAGE-LEVEL VARIABLES READ AS WHEN THE CALL BEGINS. Each datum BY PROGRAM (the guide's laid-datum.mjs) off the statement by which the dump's own 'gosem.cut.vars' lays the variable. In a bare row this is a premise. The card (YtnjblifbkfppoaaDoorCards.lean) ties it to the program's text. -/
def laid_voxsat_quant_width {H : Type} : DataW H := .agg [.lit (.int .i64 6), .lit (.int .i64 6), .lit (.int .i64 5), .lit (.int .i64 5), .lit (.int .i64 4), .lit (.int .i64 4), .lit (.int .i64 3), .lit (.int .i64 3)]

/-- 'voxsatkeep.QuantRises': WHATEVER THE INPUT: true; the input reads as it did. -/
def quantRisesSpec : ChangeSpec := { name := "quantRises", fn := fun _ => fun
  | [d1, d2] => { results := [.lit (.bool true)], args := [d1, d2] }
  | _ => none }
def quantRisesRow : OpenClaim := { program := "ytnjblifbkfppoaadoor", sum := "ee2a6469d603c374d6d09ee19d47f3d3f90a3367d092f81c9e37264c7e147eaa", func := "voxsat/voxsatkeep.QuantRises", spec := "quantRises", named := ["voxsat/quant.width"], apart := false, laid := [("voxsat/quant.width", laid_voxsat_quant_width)] }
def QuantRisesSaid : Prop := quantRisesRow.holds Tryd.pinned (OpenSpec.ofChange quantRisesSpec)

/-- ITS FALSE NEIGHBOUR: 'it returns false'. Refute it at one input. -/
def quantRisesWrong : ChangeSpec := { name := "quantRises", fn := fun _ => fun
  | [d1, d2] => { results := [.lit (.bool false)], args := [d1, d2] }
  | _ => none }
def QuantRisesWrongFalsely : Prop := quantRisesRow.holds Tryd.pinned (OpenSpec.ofChange quantRisesWrong)

/-- 'voxsatkeep.QuantBack': WHATEVER THE INPUT: true; the input reads as it did. -/
def quantBackSpec : ChangeSpec := { name := "quantBack", fn := fun _ => fun
  | [d1, d2] => { results := [.lit (.bool true)], args := [d1, d2] }
  | _ => none }
def quantBackRow : OpenClaim := { program := "ytnjblifbkfppoaadoor", sum := "ee2a6469d603c374d6d09ee19d47f3d3f90a3367d092f81c9e37264c7e147eaa", func := "voxsat/voxsatkeep.QuantBack", spec := "quantBack", named := ["voxsat/quant.width"], apart := false, laid := [("voxsat/quant.width", laid_voxsat_quant_width)] }
def QuantBackSaid : Prop := quantBackRow.holds Tryd.pinned (OpenSpec.ofChange quantBackSpec)

/-- ITS FALSE NEIGHBOUR: 'it returns false'. Refute it at one input. -/
def quantBackWrong : ChangeSpec := { name := "quantBack", fn := fun _ => fun
  | [d1, d2] => { results := [.lit (.bool false)], args := [d1, d2] }
  | _ => none }
def QuantBackWrongFalsely : Prop := quantBackRow.holds Tryd.pinned (OpenSpec.ofChange quantBackWrong)

/-- 'voxsatkeep.QuantNear': WHATEVER THE INPUT: true; the input reads as it did. -/
def quantNearSpec : ChangeSpec := { name := "quantNear", fn := fun _ => fun
  | [d1, d2, d3] => { results := [.lit (.bool true)], args := [d1, d2, d3] }
  | _ => none }
def quantNearRow : OpenClaim := { program := "ytnjblifbkfppoaadoor", sum := "ee2a6469d603c374d6d09ee19d47f3d3f90a3367d092f81c9e37264c7e147eaa", func := "voxsat/voxsatkeep.QuantNear", spec := "quantNear", named := ["voxsat/quant.width"], apart := false, laid := [("voxsat/quant.width", laid_voxsat_quant_width)] }
def QuantNearSaid : Prop := quantNearRow.holds Tryd.pinned (OpenSpec.ofChange quantNearSpec)

/-- ITS FALSE NEIGHBOUR: 'it returns false'. Refute it at one input. -/
def quantNearWrong : ChangeSpec := { name := "quantNear", fn := fun _ => fun
  | [d1, d2, d3] => { results := [.lit (.bool false)], args := [d1, d2, d3] }
  | _ => none }
def QuantNearWrongFalsely : Prop := quantNearRow.holds Tryd.pinned (OpenSpec.ofChange quantNearWrong)

/- THE SECOND FORM. 'bulk': how many values and letters a reading holds, each counted each time it is reached (what is shared counts as often as it is met; a slice's spare places count too). A statement '..UptoSaid' is the law's where the arguments, and the package variables that the reading takes, are together of bulk at most 1048576: NARROWER than '..Said'. Prove '..Said' where nothing that the law and all that it calls make is longer than what came in: it says more and counts as full. Else prove '..UptoSaid'. A law counts once. -/
mutual
def uptoBulk {H : Type} : DataW H → Nat
  | .lit (.string bytes) => bytes.length + 1
  | .lit _ => 1
  | .nil => 1
  | .ptr d => uptoBulk d + 1
  | .slice elems spare => uptoBulkAll elems + uptoBulkAll spare + 1
  | .agg parts => uptoBulkAll parts + 1
  | .iface _ d => uptoBulk d + 1
  | .map entries => uptoBulkEntries entries + 1
  | .held _ => 1
def uptoBulkAll {H : Type} : List (DataW H) → Nat
  | [] => 0
  | d :: r => uptoBulk d + uptoBulkAll r
def uptoBulkEntries {H : Type} : List (Lit × DataW H) → Nat
  | [] => 0
  | x :: r => uptoBulkEntry x + uptoBulkEntries r
def uptoBulkEntry {H : Type} : Lit × DataW H → Nat
  | (.string bytes, d) => bytes.length + uptoBulk d + 1
  | (_, d) => uptoBulk d + 1
 end
def uptoSmall : (H : Type) → List (DataW H) → Bool := fun _ ds => decide (uptoBulkAll ds ≤ 1048576)
def OpenSpec.upto (s : _root_.Go.ChangeSpec) : _root_.Go.OpenSpec := { _root_.Go.OpenSpec.ofChange s with cond := some uptoSmall }

/-- 'voxsatkeep.QuantRises', WHERE WHAT IT READS IS OF BULK AT MOST 1048576: true; the input reads as it did. -/
def quantRisesUptoRow : OpenClaim := { program := "ytnjblifbkfppoaadoor", sum := "ee2a6469d603c374d6d09ee19d47f3d3f90a3367d092f81c9e37264c7e147eaa", func := "voxsat/voxsatkeep.QuantRises", spec := "quantRises", named := ["voxsat/quant.width"], apart := false, laid := [("voxsat/quant.width", laid_voxsat_quant_width)], narrowed := true }
def QuantRisesUptoSaid : Prop := quantRisesUptoRow.holds Tryd.pinned (OpenSpec.upto quantRisesSpec)

/-- 'voxsatkeep.QuantBack', WHERE WHAT IT READS IS OF BULK AT MOST 1048576: true; the input reads as it did. -/
def quantBackUptoRow : OpenClaim := { program := "ytnjblifbkfppoaadoor", sum := "ee2a6469d603c374d6d09ee19d47f3d3f90a3367d092f81c9e37264c7e147eaa", func := "voxsat/voxsatkeep.QuantBack", spec := "quantBack", named := ["voxsat/quant.width"], apart := false, laid := [("voxsat/quant.width", laid_voxsat_quant_width)], narrowed := true }
def QuantBackUptoSaid : Prop := quantBackUptoRow.holds Tryd.pinned (OpenSpec.upto quantBackSpec)

/-- 'voxsatkeep.QuantNear', WHERE WHAT IT READS IS OF BULK AT MOST 1048576: true; the input reads as it did. -/
def quantNearUptoRow : OpenClaim := { program := "ytnjblifbkfppoaadoor", sum := "ee2a6469d603c374d6d09ee19d47f3d3f90a3367d092f81c9e37264c7e147eaa", func := "voxsat/voxsatkeep.QuantNear", spec := "quantNear", named := ["voxsat/quant.width"], apart := false, laid := [("voxsat/quant.width", laid_voxsat_quant_width)], narrowed := true }
def QuantNearUptoSaid : Prop := quantNearUptoRow.holds Tryd.pinned (OpenSpec.upto quantNearSpec)

end Rows
end Go.Proofs.YtnjblifbkfppoaaDoor
