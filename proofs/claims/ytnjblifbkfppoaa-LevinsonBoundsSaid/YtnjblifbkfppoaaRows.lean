/-
  No cell of these rows narrows 'for every input' (looked for: loops, veiled, ifaces, maps, wideKeys, modest, calm, conditions, laid).
  DERIVED. THE GIVEN ROWS OF THIS SEAT. 4 by the template 'for every input the law returns true; each argument reads behind the call as it read before'; 0 by the template 'total and deterministic' (their statements: YtnjblifbkfppoaaTotals.lean).
  GIVEN WITH THE SEED: the statements are not yours to turn. If you find one false, say at which input.
  Laid BY PROGRAM, IN A SANDBOX (cutbox-rows.mjs): the forced cells as the released guide's own fill.sh prints them over the translation c596bc8ed35ad789… (all of the seat's roots in one cut). By AI agents, Wed Nov 11 2026. No macro, syntax, notation, axiom, sorry.
-/
import Derived.Test.YtnjblifbkfppoaaChecked
import GoSem.Claim
import GoSem.ClaimJoined
import GoSem.ClaimMapViews
import Derived.JoinedTies
import Derived.KernelRfl
namespace Go.Proofs.Ytnjblifbkfppoaa
/- THE CELL 'sum', in the pinned program and in every row, IS THE sha256 OF THE DUMP (.gsa) THAT YtnjblifbkfppoaaProg.lean LOADS. Nothing in Lean hashes anything: it is a label: what it is worth is what the hold of that sum in a sandbox is worth. -/
noncomputable def Try.pinned : Pinned := { name := "ytnjblifbkfppoaa", sum := "c596bc8ed35ad7898f9b8b2df91c79a0b828aca7e53e42b8993b4730ce9d1073", checked := Try.checked }
namespace Rows
def none {H : Type} : Left H := { results := [], args := [] }

/-- 'voxsatkeep.MixEnds': WHATEVER THE INPUT: true; the input reads as it did. -/
def mixEndsSpec : ChangeSpec := { name := "mixEnds", fn := fun _ => fun
  | [d1, d2, d3] => { results := [.lit (.bool true)], args := [d1, d2, d3] }
  | _ => none }
def mixEndsRow : OpenClaim := { program := "ytnjblifbkfppoaa", sum := "c596bc8ed35ad7898f9b8b2df91c79a0b828aca7e53e42b8993b4730ce9d1073", func := "voxsat/voxsatkeep.MixEnds", spec := "mixEnds", apart := false }
def MixEndsSaid : Prop := mixEndsRow.holds Try.pinned (OpenSpec.ofChange mixEndsSpec)

/-- ITS FALSE NEIGHBOUR: 'it returns false'. Refute it at one input. -/
def mixEndsWrong : ChangeSpec := { name := "mixEnds", fn := fun _ => fun
  | [d1, d2, d3] => { results := [.lit (.bool false)], args := [d1, d2, d3] }
  | _ => none }
def MixEndsWrongFalsely : Prop := mixEndsRow.holds Try.pinned (OpenSpec.ofChange mixEndsWrong)

/-- 'voxsatkeep.ExpandEnds': WHATEVER THE INPUT: true; the input reads as it did. -/
def expandEndsSpec : ChangeSpec := { name := "expandEnds", fn := fun _ => fun
  | [d] => { results := [.lit (.bool true)], args := [d] }
  | _ => none }
def expandEndsRow : OpenClaim := { program := "ytnjblifbkfppoaa", sum := "c596bc8ed35ad7898f9b8b2df91c79a0b828aca7e53e42b8993b4730ce9d1073", func := "voxsat/voxsatkeep.ExpandEnds", spec := "expandEnds", apart := false }
def ExpandEndsSaid : Prop := expandEndsRow.holds Try.pinned (OpenSpec.ofChange expandEndsSpec)

/-- ITS FALSE NEIGHBOUR: 'it returns false'. Refute it at one input. -/
def expandEndsWrong : ChangeSpec := { name := "expandEnds", fn := fun _ => fun
  | [d] => { results := [.lit (.bool false)], args := [d] }
  | _ => none }
def ExpandEndsWrongFalsely : Prop := expandEndsRow.holds Try.pinned (OpenSpec.ofChange expandEndsWrong)

/-- 'voxsatkeep.DirectOne': WHATEVER THE INPUT: true; the input reads as it did. -/
def directOneSpec : ChangeSpec := { name := "directOne", fn := fun _ => fun
  | [d] => { results := [.lit (.bool true)], args := [d] }
  | _ => none }
def directOneRow : OpenClaim := { program := "ytnjblifbkfppoaa", sum := "c596bc8ed35ad7898f9b8b2df91c79a0b828aca7e53e42b8993b4730ce9d1073", func := "voxsat/voxsatkeep.DirectOne", spec := "directOne", apart := false }
def DirectOneSaid : Prop := directOneRow.holds Try.pinned (OpenSpec.ofChange directOneSpec)

/-- ITS FALSE NEIGHBOUR: 'it returns false'. Refute it at one input. -/
def directOneWrong : ChangeSpec := { name := "directOne", fn := fun _ => fun
  | [d] => { results := [.lit (.bool false)], args := [d] }
  | _ => none }
def DirectOneWrongFalsely : Prop := directOneRow.holds Try.pinned (OpenSpec.ofChange directOneWrong)

/-- 'voxsatkeep.LevinsonBounds': WHATEVER THE INPUT: true; the input reads as it did. -/
def levinsonBoundsSpec : ChangeSpec := { name := "levinsonBounds", fn := fun _ => fun
  | [d] => { results := [.lit (.bool true)], args := [d] }
  | _ => none }
def levinsonBoundsRow : OpenClaim := { program := "ytnjblifbkfppoaa", sum := "c596bc8ed35ad7898f9b8b2df91c79a0b828aca7e53e42b8993b4730ce9d1073", func := "voxsat/voxsatkeep.LevinsonBounds", spec := "levinsonBounds", apart := false }
def LevinsonBoundsSaid : Prop := levinsonBoundsRow.holds Try.pinned (OpenSpec.ofChange levinsonBoundsSpec)

/-- ITS FALSE NEIGHBOUR: 'it returns false'. Refute it at one input. -/
def levinsonBoundsWrong : ChangeSpec := { name := "levinsonBounds", fn := fun _ => fun
  | [d] => { results := [.lit (.bool false)], args := [d] }
  | _ => none }
def LevinsonBoundsWrongFalsely : Prop := levinsonBoundsRow.holds Try.pinned (OpenSpec.ofChange levinsonBoundsWrong)

/- THE SECOND FORM. 'bulk': how many values and letters a reading holds, each counted each time it is reached (what is shared counts as often as it is met; a slice's spare places count too). A statement '..UptoSaid' is the law's where the arguments, and the package variables that the reading takes, are together of bulk at most 1048576: NARROWER than '..Said'. Prove '..Said' where nothing that the law and all that it calls make is longer than what came in: it says more and counts as full. Else prove '..UptoSaid'. A law counts once. -/
mutual
def uptoBulk {H : Type} : DataW H → Nat
  | .lit (.string bytes) => bytes.length + 1
  | .lit _ => 1
  | .nil => 1
  | .ptr d => uptoBulk d + 1
  | .slice elems spare => uptoBulkAll elems + uptoBulkAll spare + 1
  | .agg parts => uptoBulkAll parts + 1
  | .iface _ d => uptoBulk d + 1
  | .map entries => uptoBulkEntries entries + 1
  | .held _ => 1
def uptoBulkAll {H : Type} : List (DataW H) → Nat
  | [] => 0
  | d :: r => uptoBulk d + uptoBulkAll r
def uptoBulkEntries {H : Type} : List (Lit × DataW H) → Nat
  | [] => 0
  | x :: r => uptoBulkEntry x + uptoBulkEntries r
def uptoBulkEntry {H : Type} : Lit × DataW H → Nat
  | (.string bytes, d) => bytes.length + uptoBulk d + 1
  | (_, d) => uptoBulk d + 1
 end
def uptoSmall : (H : Type) → List (DataW H) → Bool := fun _ ds => decide (uptoBulkAll ds ≤ 1048576)
def OpenSpec.upto (s : _root_.Go.ChangeSpec) : _root_.Go.OpenSpec := { _root_.Go.OpenSpec.ofChange s with cond := some uptoSmall }

/-- 'voxsatkeep.MixEnds', WHERE WHAT IT READS IS OF BULK AT MOST 1048576: true; the input reads as it did. -/
def mixEndsUptoRow : OpenClaim := { program := "ytnjblifbkfppoaa", sum := "c596bc8ed35ad7898f9b8b2df91c79a0b828aca7e53e42b8993b4730ce9d1073", func := "voxsat/voxsatkeep.MixEnds", spec := "mixEnds", apart := false, narrowed := true }
def MixEndsUptoSaid : Prop := mixEndsUptoRow.holds Try.pinned (OpenSpec.upto mixEndsSpec)

/-- 'voxsatkeep.ExpandEnds', WHERE WHAT IT READS IS OF BULK AT MOST 1048576: true; the input reads as it did. -/
def expandEndsUptoRow : OpenClaim := { program := "ytnjblifbkfppoaa", sum := "c596bc8ed35ad7898f9b8b2df91c79a0b828aca7e53e42b8993b4730ce9d1073", func := "voxsat/voxsatkeep.ExpandEnds", spec := "expandEnds", apart := false, narrowed := true }
def ExpandEndsUptoSaid : Prop := expandEndsUptoRow.holds Try.pinned (OpenSpec.upto expandEndsSpec)

/-- 'voxsatkeep.DirectOne', WHERE WHAT IT READS IS OF BULK AT MOST 1048576: true; the input reads as it did. -/
def directOneUptoRow : OpenClaim := { program := "ytnjblifbkfppoaa", sum := "c596bc8ed35ad7898f9b8b2df91c79a0b828aca7e53e42b8993b4730ce9d1073", func := "voxsat/voxsatkeep.DirectOne", spec := "directOne", apart := false, narrowed := true }
def DirectOneUptoSaid : Prop := directOneUptoRow.holds Try.pinned (OpenSpec.upto directOneSpec)

/-- 'voxsatkeep.LevinsonBounds', WHERE WHAT IT READS IS OF BULK AT MOST 1048576: true; the input reads as it did. -/
def levinsonBoundsUptoRow : OpenClaim := { program := "ytnjblifbkfppoaa", sum := "c596bc8ed35ad7898f9b8b2df91c79a0b828aca7e53e42b8993b4730ce9d1073", func := "voxsat/voxsatkeep.LevinsonBounds", spec := "levinsonBounds", apart := false, narrowed := true }
def LevinsonBoundsUptoSaid : Prop := levinsonBoundsUptoRow.holds Try.pinned (OpenSpec.upto levinsonBoundsSpec)

end Rows
end Go.Proofs.Ytnjblifbkfppoaa
