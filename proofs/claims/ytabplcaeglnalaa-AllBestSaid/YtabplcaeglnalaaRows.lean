/-
  No cell of these rows narrows 'for every input' (looked for: loops, veiled, ifaces, maps, wideKeys, modest, calm, conditions, laid).
  DERIVED. THE GIVEN ROWS OF THIS SEAT. 4 by the template 'for every input the law returns true; each argument reads behind the call as it read before'; 0 by the template 'total and deterministic' (their statements: YtabplcaeglnalaaTotals.lean).
  GIVEN WITH THE SEED: the statements are not yours to turn. If you find one false, say at which input.
  Laid BY PROGRAM, IN A SANDBOX (cutbox-rows.mjs): the forced cells as the released guide's own fill.sh prints them over the translation 6f98097c62dffe86… (all of the seat's roots in one cut). By AI agents, Wed Nov 11 2026. No macro, syntax, notation, axiom, sorry.
-/
import Derived.Test.YtabplcaeglnalaaChecked
import GoSem.Claim
import GoSem.ClaimJoined
import GoSem.ClaimMapViews
import Derived.JoinedTies
import Derived.KernelRfl
namespace Go.Proofs.Ytabplcaeglnalaa
/- THE CELL 'sum', in the pinned program and in every row, IS THE sha256 OF THE DUMP (.gsa) THAT YtabplcaeglnalaaProg.lean LOADS. Nothing in Lean hashes anything: it is a label: what it is worth is what the hold of that sum in a sandbox is worth. -/
noncomputable def Try.pinned : Pinned := { name := "ytabplcaeglnalaa", sum := "6f98097c62dffe86c6402992af8238c76c92dcdb9604b3a9121349d04db66594", checked := Try.checked }
namespace Rows
def none {H : Type} : Left H := { results := [], args := [] }

/-- 'voxsatkeep.PulsesOwn': WHATEVER THE INPUT: true; the input reads as it did. -/
def pulsesOwnSpec : ChangeSpec := { name := "pulsesOwn", fn := fun _ => fun
  | [d1, d2, d3] => { results := [.lit (.bool true)], args := [d1, d2, d3] }
  | _ => none }
def pulsesOwnRow : OpenClaim := { program := "ytabplcaeglnalaa", sum := "6f98097c62dffe86c6402992af8238c76c92dcdb9604b3a9121349d04db66594", func := "voxsat/voxsatkeep.PulsesOwn", spec := "pulsesOwn", apart := false }
def PulsesOwnSaid : Prop := pulsesOwnRow.holds Try.pinned (OpenSpec.ofChange pulsesOwnSpec)

/-- ITS FALSE NEIGHBOUR: 'it returns false'. Refute it at one input. -/
def pulsesOwnWrong : ChangeSpec := { name := "pulsesOwn", fn := fun _ => fun
  | [d1, d2, d3] => { results := [.lit (.bool false)], args := [d1, d2, d3] }
  | _ => none }
def PulsesOwnWrongFalsely : Prop := pulsesOwnRow.holds Try.pinned (OpenSpec.ofChange pulsesOwnWrong)

/-- 'voxsatkeep.EnergySwaps': WHATEVER THE INPUT: true; the input reads as it did. -/
def energySwapsSpec : ChangeSpec := { name := "energySwaps", fn := fun _ => fun
  | [d1, d2, d3] => { results := [.lit (.bool true)], args := [d1, d2, d3] }
  | _ => none }
def energySwapsRow : OpenClaim := { program := "ytabplcaeglnalaa", sum := "6f98097c62dffe86c6402992af8238c76c92dcdb9604b3a9121349d04db66594", func := "voxsat/voxsatkeep.EnergySwaps", spec := "energySwaps", apart := false }
def EnergySwapsSaid : Prop := energySwapsRow.holds Try.pinned (OpenSpec.ofChange energySwapsSpec)

/-- ITS FALSE NEIGHBOUR: 'it returns false'. Refute it at one input. -/
def energySwapsWrong : ChangeSpec := { name := "energySwaps", fn := fun _ => fun
  | [d1, d2, d3] => { results := [.lit (.bool false)], args := [d1, d2, d3] }
  | _ => none }
def EnergySwapsWrongFalsely : Prop := energySwapsRow.holds Try.pinned (OpenSpec.ofChange energySwapsWrong)

/-- 'voxsatkeep.ScoreHeard': WHATEVER THE INPUT: true; the input reads as it did. -/
def scoreHeardSpec : ChangeSpec := { name := "scoreHeard", fn := fun _ => fun
  | [d1, d2, d3] => { results := [.lit (.bool true)], args := [d1, d2, d3] }
  | _ => none }
def scoreHeardRow : OpenClaim := { program := "ytabplcaeglnalaa", sum := "6f98097c62dffe86c6402992af8238c76c92dcdb9604b3a9121349d04db66594", func := "voxsat/voxsatkeep.ScoreHeard", spec := "scoreHeard", apart := false }
def ScoreHeardSaid : Prop := scoreHeardRow.holds Try.pinned (OpenSpec.ofChange scoreHeardSpec)

/-- ITS FALSE NEIGHBOUR: 'it returns false'. Refute it at one input. -/
def scoreHeardWrong : ChangeSpec := { name := "scoreHeard", fn := fun _ => fun
  | [d1, d2, d3] => { results := [.lit (.bool false)], args := [d1, d2, d3] }
  | _ => none }
def ScoreHeardWrongFalsely : Prop := scoreHeardRow.holds Try.pinned (OpenSpec.ofChange scoreHeardWrong)

/-- 'voxsatkeep.AllBest': WHATEVER THE INPUT: true; the input reads as it did. -/
def allBestSpec : ChangeSpec := { name := "allBest", fn := fun _ => fun
  | [d1, d2, d3] => { results := [.lit (.bool true)], args := [d1, d2, d3] }
  | _ => none }
def allBestRow : OpenClaim := { program := "ytabplcaeglnalaa", sum := "6f98097c62dffe86c6402992af8238c76c92dcdb9604b3a9121349d04db66594", func := "voxsat/voxsatkeep.AllBest", spec := "allBest", inPlace := ["math/bits.Add64"], unfollowed := true, recurses := true, apart := false }
def AllBestSaid : Prop := allBestRow.holds Try.pinned (OpenSpec.ofChange allBestSpec)

/-- ITS FALSE NEIGHBOUR: 'it returns false'. Refute it at one input. -/
def allBestWrong : ChangeSpec := { name := "allBest", fn := fun _ => fun
  | [d1, d2, d3] => { results := [.lit (.bool false)], args := [d1, d2, d3] }
  | _ => none }
def AllBestWrongFalsely : Prop := allBestRow.holds Try.pinned (OpenSpec.ofChange allBestWrong)

/- THE SECOND FORM. 'bulk': how many values and letters a reading holds, each counted each time it is reached (what is shared counts as often as it is met; a slice's spare places count too). A statement '..UptoSaid' is the law's where the arguments, and the package variables that the reading takes, are together of bulk at most 1048576: NARROWER than '..Said'. Prove '..Said' where nothing that the law and all that it calls make is longer than what came in: it says more and counts as full. Else prove '..UptoSaid'. A law counts once. -/
mutual
def uptoBulk {H : Type} : DataW H → Nat
  | .lit (.string bytes) => bytes.length + 1
  | .lit _ => 1
  | .nil => 1
  | .ptr d => uptoBulk d + 1
  | .slice elems spare => uptoBulkAll elems + uptoBulkAll spare + 1
  | .agg parts => uptoBulkAll parts + 1
  | .iface _ d => uptoBulk d + 1
  | .map entries => uptoBulkEntries entries + 1
  | .held _ => 1
def uptoBulkAll {H : Type} : List (DataW H) → Nat
  | [] => 0
  | d :: r => uptoBulk d + uptoBulkAll r
def uptoBulkEntries {H : Type} : List (Lit × DataW H) → Nat
  | [] => 0
  | x :: r => uptoBulkEntry x + uptoBulkEntries r
def uptoBulkEntry {H : Type} : Lit × DataW H → Nat
  | (.string bytes, d) => bytes.length + uptoBulk d + 1
  | (_, d) => uptoBulk d + 1
 end
def uptoSmall : (H : Type) → List (DataW H) → Bool := fun _ ds => decide (uptoBulkAll ds ≤ 1048576)
def OpenSpec.upto (s : _root_.Go.ChangeSpec) : _root_.Go.OpenSpec := { _root_.Go.OpenSpec.ofChange s with cond := some uptoSmall }

/-- 'voxsatkeep.PulsesOwn', WHERE WHAT IT READS IS OF BULK AT MOST 1048576: true; the input reads as it did. -/
def pulsesOwnUptoRow : OpenClaim := { program := "ytabplcaeglnalaa", sum := "6f98097c62dffe86c6402992af8238c76c92dcdb9604b3a9121349d04db66594", func := "voxsat/voxsatkeep.PulsesOwn", spec := "pulsesOwn", apart := false, narrowed := true }
def PulsesOwnUptoSaid : Prop := pulsesOwnUptoRow.holds Try.pinned (OpenSpec.upto pulsesOwnSpec)

/-- 'voxsatkeep.EnergySwaps', WHERE WHAT IT READS IS OF BULK AT MOST 1048576: true; the input reads as it did. -/
def energySwapsUptoRow : OpenClaim := { program := "ytabplcaeglnalaa", sum := "6f98097c62dffe86c6402992af8238c76c92dcdb9604b3a9121349d04db66594", func := "voxsat/voxsatkeep.EnergySwaps", spec := "energySwaps", apart := false, narrowed := true }
def EnergySwapsUptoSaid : Prop := energySwapsUptoRow.holds Try.pinned (OpenSpec.upto energySwapsSpec)

/-- 'voxsatkeep.ScoreHeard', WHERE WHAT IT READS IS OF BULK AT MOST 1048576: true; the input reads as it did. -/
def scoreHeardUptoRow : OpenClaim := { program := "ytabplcaeglnalaa", sum := "6f98097c62dffe86c6402992af8238c76c92dcdb9604b3a9121349d04db66594", func := "voxsat/voxsatkeep.ScoreHeard", spec := "scoreHeard", apart := false, narrowed := true }
def ScoreHeardUptoSaid : Prop := scoreHeardUptoRow.holds Try.pinned (OpenSpec.upto scoreHeardSpec)

/-- 'voxsatkeep.AllBest', WHERE WHAT IT READS IS OF BULK AT MOST 1048576: true; the input reads as it did. -/
def allBestUptoRow : OpenClaim := { program := "ytabplcaeglnalaa", sum := "6f98097c62dffe86c6402992af8238c76c92dcdb9604b3a9121349d04db66594", func := "voxsat/voxsatkeep.AllBest", spec := "allBest", inPlace := ["math/bits.Add64"], unfollowed := true, recurses := true, apart := false, narrowed := true }
def AllBestUptoSaid : Prop := allBestUptoRow.holds Try.pinned (OpenSpec.upto allBestSpec)

end Rows
end Go.Proofs.Ytabplcaeglnalaa
