/-
  No cell of these rows narrows 'for every input' (looked for: loops, veiled, ifaces, maps, wideKeys, modest, calm, conditions, laid).
  DERIVED. THE GIVEN ROWS OF THIS SEAT. 8 by the template 'for every input the law returns true; each argument reads behind the call as it read before'; 0 by the template 'total and deterministic' (their statements: YtkfaghcjahhlgaaTotals.lean).
  GIVEN WITH THE SEED: the statements are not yours to turn. If you find one false, say at which input.
  Laid BY PROGRAM, IN A SANDBOX (cutbox-rows.mjs): the forced cells as the released guide's own fill.sh prints them over the translation bee6150b02b245dd… (all of the seat's roots in one cut). By AI agents, Wed Nov 11 2026. No macro, syntax, notation, axiom, sorry.
-/
import Derived.Test.YtkfaghcjahhlgaaChecked
import GoSem.Claim
import GoSem.ClaimJoined
import GoSem.ClaimMapViews
import Derived.JoinedTies
import Derived.KernelRfl
namespace Go.Proofs.Ytkfaghcjahhlgaa
/- THE CELL 'sum', in the pinned program and in every row, IS THE sha256 OF THE DUMP (.gsa) THAT YtkfaghcjahhlgaaProg.lean LOADS. Nothing in Lean hashes anything: it is a label: what it is worth is what the hold of that sum in a sandbox is worth. -/
noncomputable def Try.pinned : Pinned := { name := "ytkfaghcjahhlgaa", sum := "bee6150b02b245dd8cb37ec09c5e9ee7d39d7a7bcab636c5362dfd2991d66421", checked := Try.checked }
namespace Rows
def none {H : Type} : Left H := { results := [], args := [] }

/-- 'voxsatkeep.BasicSwaps': WHATEVER THE INPUT: true; the input reads as it did. -/
def basicSwapsSpec : ChangeSpec := { name := "basicSwaps", fn := fun _ => fun
  | [d1, d2] => { results := [.lit (.bool true)], args := [d1, d2] }
  | _ => none }
def basicSwapsRow : OpenClaim := { program := "ytkfaghcjahhlgaa", sum := "bee6150b02b245dd8cb37ec09c5e9ee7d39d7a7bcab636c5362dfd2991d66421", func := "voxsat/voxsatkeep.BasicSwaps", spec := "basicSwaps", unfollowed := true, recurses := true, apart := false }
def BasicSwapsSaid : Prop := basicSwapsRow.holds Try.pinned (OpenSpec.ofChange basicSwapsSpec)

/-- ITS FALSE NEIGHBOUR: 'it returns false'. Refute it at one input. -/
def basicSwapsWrong : ChangeSpec := { name := "basicSwaps", fn := fun _ => fun
  | [d1, d2] => { results := [.lit (.bool false)], args := [d1, d2] }
  | _ => none }
def BasicSwapsWrongFalsely : Prop := basicSwapsRow.holds Try.pinned (OpenSpec.ofChange basicSwapsWrong)

/-- 'voxsatkeep.BasicExact': WHATEVER THE INPUT: true; the input reads as it did. -/
def basicExactSpec : ChangeSpec := { name := "basicExact", fn := fun _ => fun
  | [d1, d2] => { results := [.lit (.bool true)], args := [d1, d2] }
  | _ => none }
def basicExactRow : OpenClaim := { program := "ytkfaghcjahhlgaa", sum := "bee6150b02b245dd8cb37ec09c5e9ee7d39d7a7bcab636c5362dfd2991d66421", func := "voxsat/voxsatkeep.BasicExact", spec := "basicExact", unfollowed := true, recurses := true, apart := false }
def BasicExactSaid : Prop := basicExactRow.holds Try.pinned (OpenSpec.ofChange basicExactSpec)

/-- ITS FALSE NEIGHBOUR: 'it returns false'. Refute it at one input. -/
def basicExactWrong : ChangeSpec := { name := "basicExact", fn := fun _ => fun
  | [d1, d2] => { results := [.lit (.bool false)], args := [d1, d2] }
  | _ => none }
def BasicExactWrongFalsely : Prop := basicExactRow.holds Try.pinned (OpenSpec.ofChange basicExactWrong)

/-- 'voxsatkeep.BasicShifts': WHATEVER THE INPUT: true; the input reads as it did. -/
def basicShiftsSpec : ChangeSpec := { name := "basicShifts", fn := fun _ => fun
  | [d1, d2] => { results := [.lit (.bool true)], args := [d1, d2] }
  | _ => none }
def basicShiftsRow : OpenClaim := { program := "ytkfaghcjahhlgaa", sum := "bee6150b02b245dd8cb37ec09c5e9ee7d39d7a7bcab636c5362dfd2991d66421", func := "voxsat/voxsatkeep.BasicShifts", spec := "basicShifts", unfollowed := true, recurses := true, apart := false }
def BasicShiftsSaid : Prop := basicShiftsRow.holds Try.pinned (OpenSpec.ofChange basicShiftsSpec)

/-- ITS FALSE NEIGHBOUR: 'it returns false'. Refute it at one input. -/
def basicShiftsWrong : ChangeSpec := { name := "basicShifts", fn := fun _ => fun
  | [d1, d2] => { results := [.lit (.bool false)], args := [d1, d2] }
  | _ => none }
def BasicShiftsWrongFalsely : Prop := basicShiftsRow.holds Try.pinned (OpenSpec.ofChange basicShiftsWrong)

/-- 'voxsatkeep.BetterOnly': WHATEVER THE INPUT: true; the input reads as it did. -/
def betterOnlySpec : ChangeSpec := { name := "betterOnly", fn := fun _ => fun
  | [d1, d2, d3, d4] => { results := [.lit (.bool true)], args := [d1, d2, d3, d4] }
  | _ => none }
def betterOnlyRow : OpenClaim := { program := "ytkfaghcjahhlgaa", sum := "bee6150b02b245dd8cb37ec09c5e9ee7d39d7a7bcab636c5362dfd2991d66421", func := "voxsat/voxsatkeep.BetterOnly", spec := "betterOnly", inPlace := ["math/bits.Add64"], apart := false }
def BetterOnlySaid : Prop := betterOnlyRow.holds Try.pinned (OpenSpec.ofChange betterOnlySpec)

/-- ITS FALSE NEIGHBOUR: 'it returns false'. Refute it at one input. -/
def betterOnlyWrong : ChangeSpec := { name := "betterOnly", fn := fun _ => fun
  | [d1, d2, d3, d4] => { results := [.lit (.bool false)], args := [d1, d2, d3, d4] }
  | _ => none }
def BetterOnlyWrongFalsely : Prop := betterOnlyRow.holds Try.pinned (OpenSpec.ofChange betterOnlyWrong)

/-- 'voxsatkeep.BetterChain': WHATEVER THE INPUT: true; the input reads as it did. -/
def betterChainSpec : ChangeSpec := { name := "betterChain", fn := fun _ => fun
  | [d1, d2, d3, d4, d5, d6] => { results := [.lit (.bool true)], args := [d1, d2, d3, d4, d5, d6] }
  | _ => none }
def betterChainRow : OpenClaim := { program := "ytkfaghcjahhlgaa", sum := "bee6150b02b245dd8cb37ec09c5e9ee7d39d7a7bcab636c5362dfd2991d66421", func := "voxsat/voxsatkeep.BetterChain", spec := "betterChain", inPlace := ["math/bits.Add64"], apart := false }
def BetterChainSaid : Prop := betterChainRow.holds Try.pinned (OpenSpec.ofChange betterChainSpec)

/-- ITS FALSE NEIGHBOUR: 'it returns false'. Refute it at one input. -/
def betterChainWrong : ChangeSpec := { name := "betterChain", fn := fun _ => fun
  | [d1, d2, d3, d4, d5, d6] => { results := [.lit (.bool false)], args := [d1, d2, d3, d4, d5, d6] }
  | _ => none }
def BetterChainWrongFalsely : Prop := betterChainRow.holds Try.pinned (OpenSpec.ofChange betterChainWrong)

/-- 'voxsatkeep.BasicOrder': WHATEVER THE INPUT: true; the input reads as it did. -/
def basicOrderSpec : ChangeSpec := { name := "basicOrder", fn := fun _ => fun
  | [d1, d2, d3] => { results := [.lit (.bool true)], args := [d1, d2, d3] }
  | _ => none }
def basicOrderRow : OpenClaim := { program := "ytkfaghcjahhlgaa", sum := "bee6150b02b245dd8cb37ec09c5e9ee7d39d7a7bcab636c5362dfd2991d66421", func := "voxsat/voxsatkeep.BasicOrder", spec := "basicOrder", unfollowed := true, recurses := true, apart := false }
def BasicOrderSaid : Prop := basicOrderRow.holds Try.pinned (OpenSpec.ofChange basicOrderSpec)

/-- ITS FALSE NEIGHBOUR: 'it returns false'. Refute it at one input. -/
def basicOrderWrong : ChangeSpec := { name := "basicOrder", fn := fun _ => fun
  | [d1, d2, d3] => { results := [.lit (.bool false)], args := [d1, d2, d3] }
  | _ => none }
def BasicOrderWrongFalsely : Prop := basicOrderRow.holds Try.pinned (OpenSpec.ofChange basicOrderWrong)

/-- 'voxsatkeep.BasicEnds': WHATEVER THE INPUT: true; the input reads as it did. -/
def basicEndsSpec : ChangeSpec := { name := "basicEnds", fn := fun _ => fun
  | [d1, d2, d3] => { results := [.lit (.bool true)], args := [d1, d2, d3] }
  | _ => none }
def basicEndsRow : OpenClaim := { program := "ytkfaghcjahhlgaa", sum := "bee6150b02b245dd8cb37ec09c5e9ee7d39d7a7bcab636c5362dfd2991d66421", func := "voxsat/voxsatkeep.BasicEnds", spec := "basicEnds", unfollowed := true, recurses := true, apart := false }
def BasicEndsSaid : Prop := basicEndsRow.holds Try.pinned (OpenSpec.ofChange basicEndsSpec)

/-- ITS FALSE NEIGHBOUR: 'it returns false'. Refute it at one input. -/
def basicEndsWrong : ChangeSpec := { name := "basicEnds", fn := fun _ => fun
  | [d1, d2, d3] => { results := [.lit (.bool false)], args := [d1, d2, d3] }
  | _ => none }
def BasicEndsWrongFalsely : Prop := basicEndsRow.holds Try.pinned (OpenSpec.ofChange basicEndsWrong)

/-- 'voxsatkeep.BasicNormal': WHATEVER THE INPUT: true; the input reads as it did. -/
def basicNormalSpec : ChangeSpec := { name := "basicNormal", fn := fun _ => fun
  | [d] => { results := [.lit (.bool true)], args := [d] }
  | _ => none }
def basicNormalRow : OpenClaim := { program := "ytkfaghcjahhlgaa", sum := "bee6150b02b245dd8cb37ec09c5e9ee7d39d7a7bcab636c5362dfd2991d66421", func := "voxsat/voxsatkeep.BasicNormal", spec := "basicNormal", unfollowed := true, recurses := true, apart := false }
def BasicNormalSaid : Prop := basicNormalRow.holds Try.pinned (OpenSpec.ofChange basicNormalSpec)

/-- ITS FALSE NEIGHBOUR: 'it returns false'. Refute it at one input. -/
def basicNormalWrong : ChangeSpec := { name := "basicNormal", fn := fun _ => fun
  | [d] => { results := [.lit (.bool false)], args := [d] }
  | _ => none }
def BasicNormalWrongFalsely : Prop := basicNormalRow.holds Try.pinned (OpenSpec.ofChange basicNormalWrong)

/- THE SECOND FORM. 'bulk': how many values and letters a reading holds, each counted each time it is reached (what is shared counts as often as it is met; a slice's spare places count too). A statement '..UptoSaid' is the law's where the arguments, and the package variables that the reading takes, are together of bulk at most 1048576: NARROWER than '..Said'. Prove '..Said' where nothing that the law and all that it calls make is longer than what came in: it says more and counts as full. Else prove '..UptoSaid'. A law counts once. -/
mutual
def uptoBulk {H : Type} : DataW H → Nat
  | .lit (.string bytes) => bytes.length + 1
  | .lit _ => 1
  | .nil => 1
  | .ptr d => uptoBulk d + 1
  | .slice elems spare => uptoBulkAll elems + uptoBulkAll spare + 1
  | .agg parts => uptoBulkAll parts + 1
  | .iface _ d => uptoBulk d + 1
  | .map entries => uptoBulkEntries entries + 1
  | .held _ => 1
def uptoBulkAll {H : Type} : List (DataW H) → Nat
  | [] => 0
  | d :: r => uptoBulk d + uptoBulkAll r
def uptoBulkEntries {H : Type} : List (Lit × DataW H) → Nat
  | [] => 0
  | x :: r => uptoBulkEntry x + uptoBulkEntries r
def uptoBulkEntry {H : Type} : Lit × DataW H → Nat
  | (.string bytes, d) => bytes.length + uptoBulk d + 1
  | (_, d) => uptoBulk d + 1
 end
def uptoSmall : (H : Type) → List (DataW H) → Bool := fun _ ds => decide (uptoBulkAll ds ≤ 1048576)
def OpenSpec.upto (s : _root_.Go.ChangeSpec) : _root_.Go.OpenSpec := { _root_.Go.OpenSpec.ofChange s with cond := some uptoSmall }

/-- 'voxsatkeep.BasicSwaps', WHERE WHAT IT READS IS OF BULK AT MOST 1048576: true; the input reads as it did. -/
def basicSwapsUptoRow : OpenClaim := { program := "ytkfaghcjahhlgaa", sum := "bee6150b02b245dd8cb37ec09c5e9ee7d39d7a7bcab636c5362dfd2991d66421", func := "voxsat/voxsatkeep.BasicSwaps", spec := "basicSwaps", unfollowed := true, recurses := true, apart := false, narrowed := true }
def BasicSwapsUptoSaid : Prop := basicSwapsUptoRow.holds Try.pinned (OpenSpec.upto basicSwapsSpec)

/-- 'voxsatkeep.BasicExact', WHERE WHAT IT READS IS OF BULK AT MOST 1048576: true; the input reads as it did. -/
def basicExactUptoRow : OpenClaim := { program := "ytkfaghcjahhlgaa", sum := "bee6150b02b245dd8cb37ec09c5e9ee7d39d7a7bcab636c5362dfd2991d66421", func := "voxsat/voxsatkeep.BasicExact", spec := "basicExact", unfollowed := true, recurses := true, apart := false, narrowed := true }
def BasicExactUptoSaid : Prop := basicExactUptoRow.holds Try.pinned (OpenSpec.upto basicExactSpec)

/-- 'voxsatkeep.BasicShifts', WHERE WHAT IT READS IS OF BULK AT MOST 1048576: true; the input reads as it did. -/
def basicShiftsUptoRow : OpenClaim := { program := "ytkfaghcjahhlgaa", sum := "bee6150b02b245dd8cb37ec09c5e9ee7d39d7a7bcab636c5362dfd2991d66421", func := "voxsat/voxsatkeep.BasicShifts", spec := "basicShifts", unfollowed := true, recurses := true, apart := false, narrowed := true }
def BasicShiftsUptoSaid : Prop := basicShiftsUptoRow.holds Try.pinned (OpenSpec.upto basicShiftsSpec)

/-- 'voxsatkeep.BetterOnly', WHERE WHAT IT READS IS OF BULK AT MOST 1048576: true; the input reads as it did. -/
def betterOnlyUptoRow : OpenClaim := { program := "ytkfaghcjahhlgaa", sum := "bee6150b02b245dd8cb37ec09c5e9ee7d39d7a7bcab636c5362dfd2991d66421", func := "voxsat/voxsatkeep.BetterOnly", spec := "betterOnly", inPlace := ["math/bits.Add64"], apart := false, narrowed := true }
def BetterOnlyUptoSaid : Prop := betterOnlyUptoRow.holds Try.pinned (OpenSpec.upto betterOnlySpec)

/-- 'voxsatkeep.BetterChain', WHERE WHAT IT READS IS OF BULK AT MOST 1048576: true; the input reads as it did. -/
def betterChainUptoRow : OpenClaim := { program := "ytkfaghcjahhlgaa", sum := "bee6150b02b245dd8cb37ec09c5e9ee7d39d7a7bcab636c5362dfd2991d66421", func := "voxsat/voxsatkeep.BetterChain", spec := "betterChain", inPlace := ["math/bits.Add64"], apart := false, narrowed := true }
def BetterChainUptoSaid : Prop := betterChainUptoRow.holds Try.pinned (OpenSpec.upto betterChainSpec)

/-- 'voxsatkeep.BasicOrder', WHERE WHAT IT READS IS OF BULK AT MOST 1048576: true; the input reads as it did. -/
def basicOrderUptoRow : OpenClaim := { program := "ytkfaghcjahhlgaa", sum := "bee6150b02b245dd8cb37ec09c5e9ee7d39d7a7bcab636c5362dfd2991d66421", func := "voxsat/voxsatkeep.BasicOrder", spec := "basicOrder", unfollowed := true, recurses := true, apart := false, narrowed := true }
def BasicOrderUptoSaid : Prop := basicOrderUptoRow.holds Try.pinned (OpenSpec.upto basicOrderSpec)

/-- 'voxsatkeep.BasicEnds', WHERE WHAT IT READS IS OF BULK AT MOST 1048576: true; the input reads as it did. -/
def basicEndsUptoRow : OpenClaim := { program := "ytkfaghcjahhlgaa", sum := "bee6150b02b245dd8cb37ec09c5e9ee7d39d7a7bcab636c5362dfd2991d66421", func := "voxsat/voxsatkeep.BasicEnds", spec := "basicEnds", unfollowed := true, recurses := true, apart := false, narrowed := true }
def BasicEndsUptoSaid : Prop := basicEndsUptoRow.holds Try.pinned (OpenSpec.upto basicEndsSpec)

/-- 'voxsatkeep.BasicNormal', WHERE WHAT IT READS IS OF BULK AT MOST 1048576: true; the input reads as it did. -/
def basicNormalUptoRow : OpenClaim := { program := "ytkfaghcjahhlgaa", sum := "bee6150b02b245dd8cb37ec09c5e9ee7d39d7a7bcab636c5362dfd2991d66421", func := "voxsat/voxsatkeep.BasicNormal", spec := "basicNormal", unfollowed := true, recurses := true, apart := false, narrowed := true }
def BasicNormalUptoSaid : Prop := basicNormalUptoRow.holds Try.pinned (OpenSpec.upto basicNormalSpec)

end Rows
end Go.Proofs.Ytkfaghcjahhlgaa
