/-
  No cell of these rows narrows 'for every input' (looked for: loops, veiled, ifaces, maps, wideKeys, modest, calm, conditions, laid).
  DERIVED. THE GIVEN ROWS OF THIS SEAT. 7 by the template 'for every input the law returns true; each argument reads behind the call as it read before'; 0 by the template 'total and deterministic' (their statements: YtakacoiknapjiaaTotals.lean).
  GIVEN WITH THE SEED: the statements are not yours to turn. If you find one false, say at which input.
  Laid BY PROGRAM, IN A SANDBOX (cutbox-rows.mjs): the forced cells as the released guide's own fill.sh prints them over the translation e40146a5ac239412… (all of the seat's roots in one cut). By AI agents, Wed Nov 11 2026. No macro, syntax, notation, axiom, sorry.
-/
import Derived.Test.YtakacoiknapjiaaChecked
import GoSem.Claim
import GoSem.ClaimJoined
import GoSem.ClaimMapViews
import Derived.JoinedTies
import Derived.KernelRfl
namespace Go.Proofs.Ytakacoiknapjiaa
/- THE CELL 'sum', in the pinned program and in every row, IS THE sha256 OF THE DUMP (.gsa) THAT YtakacoiknapjiaaProg.lean LOADS. Nothing in Lean hashes anything: it is a label: what it is worth is what the hold of that sum in a sandbox is worth. -/
noncomputable def Try.pinned : Pinned := { name := "ytakacoiknapjiaa", sum := "e40146a5ac239412960df44ba8222be791f52eaa9a7ca9befedf77f74e5b46dc", checked := Try.checked }
namespace Rows
def none {H : Type} : Left H := { results := [], args := [] }

/-- 'voxsatkeep.HighCut': WHATEVER THE INPUT: true; the input reads as it did. -/
def highCutSpec : ChangeSpec := { name := "highCut", fn := fun _ => fun
  | [d1, d2, d3] => { results := [.lit (.bool true)], args := [d1, d2, d3] }
  | _ => none }
def highCutRow : OpenClaim := { program := "ytakacoiknapjiaa", sum := "e40146a5ac239412960df44ba8222be791f52eaa9a7ca9befedf77f74e5b46dc", func := "voxsat/voxsatkeep.HighCut", spec := "highCut", apart := false }
def HighCutSaid : Prop := highCutRow.holds Try.pinned (OpenSpec.ofChange highCutSpec)

/-- ITS FALSE NEIGHBOUR: 'it returns false'. Refute it at one input. -/
def highCutWrong : ChangeSpec := { name := "highCut", fn := fun _ => fun
  | [d1, d2, d3] => { results := [.lit (.bool false)], args := [d1, d2, d3] }
  | _ => none }
def HighCutWrongFalsely : Prop := highCutRow.holds Try.pinned (OpenSpec.ofChange highCutWrong)

/-- 'voxsatkeep.WeightEven': WHATEVER THE INPUT: true; the input reads as it did. -/
def weightEvenSpec : ChangeSpec := { name := "weightEven", fn := fun _ => fun
  | [d] => { results := [.lit (.bool true)], args := [d] }
  | _ => none }
def weightEvenRow : OpenClaim := { program := "ytakacoiknapjiaa", sum := "e40146a5ac239412960df44ba8222be791f52eaa9a7ca9befedf77f74e5b46dc", func := "voxsat/voxsatkeep.WeightEven", spec := "weightEven", apart := false }
def WeightEvenSaid : Prop := weightEvenRow.holds Try.pinned (OpenSpec.ofChange weightEvenSpec)

/-- ITS FALSE NEIGHBOUR: 'it returns false'. Refute it at one input. -/
def weightEvenWrong : ChangeSpec := { name := "weightEven", fn := fun _ => fun
  | [d] => { results := [.lit (.bool false)], args := [d] }
  | _ => none }
def WeightEvenWrongFalsely : Prop := weightEvenRow.holds Try.pinned (OpenSpec.ofChange weightEvenWrong)

/-- 'voxsatkeep.CorrelateTop': WHATEVER THE INPUT: true; the input reads as it did. -/
def correlateTopSpec : ChangeSpec := { name := "correlateTop", fn := fun _ => fun
  | [d] => { results := [.lit (.bool true)], args := [d] }
  | _ => none }
def correlateTopRow : OpenClaim := { program := "ytakacoiknapjiaa", sum := "e40146a5ac239412960df44ba8222be791f52eaa9a7ca9befedf77f74e5b46dc", func := "voxsat/voxsatkeep.CorrelateTop", spec := "correlateTop", apart := false }
def CorrelateTopSaid : Prop := correlateTopRow.holds Try.pinned (OpenSpec.ofChange correlateTopSpec)

/-- ITS FALSE NEIGHBOUR: 'it returns false'. Refute it at one input. -/
def correlateTopWrong : ChangeSpec := { name := "correlateTop", fn := fun _ => fun
  | [d] => { results := [.lit (.bool false)], args := [d] }
  | _ => none }
def CorrelateTopWrongFalsely : Prop := correlateTopRow.holds Try.pinned (OpenSpec.ofChange correlateTopWrong)

/-- 'voxsatkeep.SynthCut': WHATEVER THE INPUT: true; the input reads as it did. -/
def synthCutSpec : ChangeSpec := { name := "synthCut", fn := fun _ => fun
  | [d1, d2, d3, d4] => { results := [.lit (.bool true)], args := [d1, d2, d3, d4] }
  | _ => none }
def synthCutRow : OpenClaim := { program := "ytakacoiknapjiaa", sum := "e40146a5ac239412960df44ba8222be791f52eaa9a7ca9befedf77f74e5b46dc", func := "voxsat/voxsatkeep.SynthCut", spec := "synthCut", apart := false }
def SynthCutSaid : Prop := synthCutRow.holds Try.pinned (OpenSpec.ofChange synthCutSpec)

/-- ITS FALSE NEIGHBOUR: 'it returns false'. Refute it at one input. -/
def synthCutWrong : ChangeSpec := { name := "synthCut", fn := fun _ => fun
  | [d1, d2, d3, d4] => { results := [.lit (.bool false)], args := [d1, d2, d3, d4] }
  | _ => none }
def SynthCutWrongFalsely : Prop := synthCutRow.holds Try.pinned (OpenSpec.ofChange synthCutWrong)

/-- 'voxsatkeep.SynthRest': WHATEVER THE INPUT: true; the input reads as it did. -/
def synthRestSpec : ChangeSpec := { name := "synthRest", fn := fun _ => fun
  | [d1, d2] => { results := [.lit (.bool true)], args := [d1, d2] }
  | _ => none }
def synthRestRow : OpenClaim := { program := "ytakacoiknapjiaa", sum := "e40146a5ac239412960df44ba8222be791f52eaa9a7ca9befedf77f74e5b46dc", func := "voxsat/voxsatkeep.SynthRest", spec := "synthRest", apart := false }
def SynthRestSaid : Prop := synthRestRow.holds Try.pinned (OpenSpec.ofChange synthRestSpec)

/-- ITS FALSE NEIGHBOUR: 'it returns false'. Refute it at one input. -/
def synthRestWrong : ChangeSpec := { name := "synthRest", fn := fun _ => fun
  | [d1, d2] => { results := [.lit (.bool false)], args := [d1, d2] }
  | _ => none }
def SynthRestWrongFalsely : Prop := synthRestRow.holds Try.pinned (OpenSpec.ofChange synthRestWrong)

/-- 'voxsatkeep.SynthBack': WHATEVER THE INPUT: true; the input reads as it did. -/
def synthBackSpec : ChangeSpec := { name := "synthBack", fn := fun _ => fun
  | [d1, d2, d3] => { results := [.lit (.bool true)], args := [d1, d2, d3] }
  | _ => none }
def synthBackRow : OpenClaim := { program := "ytakacoiknapjiaa", sum := "e40146a5ac239412960df44ba8222be791f52eaa9a7ca9befedf77f74e5b46dc", func := "voxsat/voxsatkeep.SynthBack", spec := "synthBack", apart := false }
def SynthBackSaid : Prop := synthBackRow.holds Try.pinned (OpenSpec.ofChange synthBackSpec)

/-- ITS FALSE NEIGHBOUR: 'it returns false'. Refute it at one input. -/
def synthBackWrong : ChangeSpec := { name := "synthBack", fn := fun _ => fun
  | [d1, d2, d3] => { results := [.lit (.bool false)], args := [d1, d2, d3] }
  | _ => none }
def SynthBackWrongFalsely : Prop := synthBackRow.holds Try.pinned (OpenSpec.ofChange synthBackWrong)

/-- 'voxsatkeep.FoldSwaps': WHATEVER THE INPUT: true; the input reads as it did. -/
def foldSwapsSpec : ChangeSpec := { name := "foldSwaps", fn := fun _ => fun
  | [d1, d2] => { results := [.lit (.bool true)], args := [d1, d2] }
  | _ => none }
def foldSwapsRow : OpenClaim := { program := "ytakacoiknapjiaa", sum := "e40146a5ac239412960df44ba8222be791f52eaa9a7ca9befedf77f74e5b46dc", func := "voxsat/voxsatkeep.FoldSwaps", spec := "foldSwaps", apart := false }
def FoldSwapsSaid : Prop := foldSwapsRow.holds Try.pinned (OpenSpec.ofChange foldSwapsSpec)

/-- ITS FALSE NEIGHBOUR: 'it returns false'. Refute it at one input. -/
def foldSwapsWrong : ChangeSpec := { name := "foldSwaps", fn := fun _ => fun
  | [d1, d2] => { results := [.lit (.bool false)], args := [d1, d2] }
  | _ => none }
def FoldSwapsWrongFalsely : Prop := foldSwapsRow.holds Try.pinned (OpenSpec.ofChange foldSwapsWrong)

/- THE SECOND FORM. 'bulk': how many values and letters a reading holds, each counted each time it is reached (what is shared counts as often as it is met; a slice's spare places count too). A statement '..UptoSaid' is the law's where the arguments, and the package variables that the reading takes, are together of bulk at most 1048576: NARROWER than '..Said'. Prove '..Said' where nothing that the law and all that it calls make is longer than what came in: it says more and counts as full. Else prove '..UptoSaid'. A law counts once. -/
mutual
def uptoBulk {H : Type} : DataW H → Nat
  | .lit (.string bytes) => bytes.length + 1
  | .lit _ => 1
  | .nil => 1
  | .ptr d => uptoBulk d + 1
  | .slice elems spare => uptoBulkAll elems + uptoBulkAll spare + 1
  | .agg parts => uptoBulkAll parts + 1
  | .iface _ d => uptoBulk d + 1
  | .map entries => uptoBulkEntries entries + 1
  | .held _ => 1
def uptoBulkAll {H : Type} : List (DataW H) → Nat
  | [] => 0
  | d :: r => uptoBulk d + uptoBulkAll r
def uptoBulkEntries {H : Type} : List (Lit × DataW H) → Nat
  | [] => 0
  | x :: r => uptoBulkEntry x + uptoBulkEntries r
def uptoBulkEntry {H : Type} : Lit × DataW H → Nat
  | (.string bytes, d) => bytes.length + uptoBulk d + 1
  | (_, d) => uptoBulk d + 1
 end
def uptoSmall : (H : Type) → List (DataW H) → Bool := fun _ ds => decide (uptoBulkAll ds ≤ 1048576)
def OpenSpec.upto (s : _root_.Go.ChangeSpec) : _root_.Go.OpenSpec := { _root_.Go.OpenSpec.ofChange s with cond := some uptoSmall }

/-- 'voxsatkeep.HighCut', WHERE WHAT IT READS IS OF BULK AT MOST 1048576: true; the input reads as it did. -/
def highCutUptoRow : OpenClaim := { program := "ytakacoiknapjiaa", sum := "e40146a5ac239412960df44ba8222be791f52eaa9a7ca9befedf77f74e5b46dc", func := "voxsat/voxsatkeep.HighCut", spec := "highCut", apart := false, narrowed := true }
def HighCutUptoSaid : Prop := highCutUptoRow.holds Try.pinned (OpenSpec.upto highCutSpec)

/-- 'voxsatkeep.WeightEven', WHERE WHAT IT READS IS OF BULK AT MOST 1048576: true; the input reads as it did. -/
def weightEvenUptoRow : OpenClaim := { program := "ytakacoiknapjiaa", sum := "e40146a5ac239412960df44ba8222be791f52eaa9a7ca9befedf77f74e5b46dc", func := "voxsat/voxsatkeep.WeightEven", spec := "weightEven", apart := false, narrowed := true }
def WeightEvenUptoSaid : Prop := weightEvenUptoRow.holds Try.pinned (OpenSpec.upto weightEvenSpec)

/-- 'voxsatkeep.CorrelateTop', WHERE WHAT IT READS IS OF BULK AT MOST 1048576: true; the input reads as it did. -/
def correlateTopUptoRow : OpenClaim := { program := "ytakacoiknapjiaa", sum := "e40146a5ac239412960df44ba8222be791f52eaa9a7ca9befedf77f74e5b46dc", func := "voxsat/voxsatkeep.CorrelateTop", spec := "correlateTop", apart := false, narrowed := true }
def CorrelateTopUptoSaid : Prop := correlateTopUptoRow.holds Try.pinned (OpenSpec.upto correlateTopSpec)

/-- 'voxsatkeep.SynthCut', WHERE WHAT IT READS IS OF BULK AT MOST 1048576: true; the input reads as it did. -/
def synthCutUptoRow : OpenClaim := { program := "ytakacoiknapjiaa", sum := "e40146a5ac239412960df44ba8222be791f52eaa9a7ca9befedf77f74e5b46dc", func := "voxsat/voxsatkeep.SynthCut", spec := "synthCut", apart := false, narrowed := true }
def SynthCutUptoSaid : Prop := synthCutUptoRow.holds Try.pinned (OpenSpec.upto synthCutSpec)

/-- 'voxsatkeep.SynthRest', WHERE WHAT IT READS IS OF BULK AT MOST 1048576: true; the input reads as it did. -/
def synthRestUptoRow : OpenClaim := { program := "ytakacoiknapjiaa", sum := "e40146a5ac239412960df44ba8222be791f52eaa9a7ca9befedf77f74e5b46dc", func := "voxsat/voxsatkeep.SynthRest", spec := "synthRest", apart := false, narrowed := true }
def SynthRestUptoSaid : Prop := synthRestUptoRow.holds Try.pinned (OpenSpec.upto synthRestSpec)

/-- 'voxsatkeep.SynthBack', WHERE WHAT IT READS IS OF BULK AT MOST 1048576: true; the input reads as it did. -/
def synthBackUptoRow : OpenClaim := { program := "ytakacoiknapjiaa", sum := "e40146a5ac239412960df44ba8222be791f52eaa9a7ca9befedf77f74e5b46dc", func := "voxsat/voxsatkeep.SynthBack", spec := "synthBack", apart := false, narrowed := true }
def SynthBackUptoSaid : Prop := synthBackUptoRow.holds Try.pinned (OpenSpec.upto synthBackSpec)

/-- 'voxsatkeep.FoldSwaps', WHERE WHAT IT READS IS OF BULK AT MOST 1048576: true; the input reads as it did. -/
def foldSwapsUptoRow : OpenClaim := { program := "ytakacoiknapjiaa", sum := "e40146a5ac239412960df44ba8222be791f52eaa9a7ca9befedf77f74e5b46dc", func := "voxsat/voxsatkeep.FoldSwaps", spec := "foldSwaps", apart := false, narrowed := true }
def FoldSwapsUptoSaid : Prop := foldSwapsUptoRow.holds Try.pinned (OpenSpec.upto foldSwapsSpec)

end Rows
end Go.Proofs.Ytakacoiknapjiaa
