/-
  NARROWER THAN 'FOR EVERY INPUT', by the rows' own cells (each row's printed sentence says how): TopSilence: laid · TopRefresh: laid · TopGood: laid · TopHeader: laid · RefreshForgets: laid · CoderMemory: laid · DecodeGoods: laid.
  DERIVED. THE GIVEN ROWS OF THIS SEAT. 7 by the template 'for every input the law returns true; each argument reads behind the call as it read before'; 0 by the template 'total and deterministic' (their statements: YtcoicmbjoaonoaaDoorTotals.lean).
  GIVEN WITH THE SEED: the statements are not yours to turn. If you find one false, say at which input.
  Laid BY PROGRAM, IN A SANDBOX (cutbox-rows.mjs): the forced cells as the released guide's own fill.sh prints them over the translation 257274642cf35dcc… (all of the seat's roots in one cut). By AI agents, Wed Nov 11 2026. No macro, syntax, notation, axiom, sorry.
-/
import Derived.Test.YtcoicmbjoaonoaaDoorChecked
import GoSem.Claim
import GoSem.ClaimJoined
import GoSem.ClaimMapViews
import Derived.JoinedTies
import Derived.KernelRfl
namespace Go.Proofs.YtcoicmbjoaonoaaDoor
/- THE CELL 'sum', in the pinned program and in every row, IS THE sha256 OF THE DUMP (.gsa) THAT YtcoicmbjoaonoaaDoorProg.lean LOADS. Nothing in Lean hashes anything: it is a label: what it is worth is what the hold of that sum in a sandbox is worth. -/
noncomputable def Tryd.pinned : Pinned := { name := "ytcoicmbjoaonoaadoor", sum := "257274642cf35dcc7be815da0cd98ad9ce89c28b587175763c69fca475732b9b", checked := Tryd.checked }
namespace Rows
def none {H : Type} : Left H := { results := [], args := [] }

/- WHAT THE LISTED PACKAGE-LEVEL VARIABLES READ AS WHEN THE CALL BEGINS. Each datum BY PROGRAM (the guide's laid-datum.mjs) off the statement by which the dump's own 'gosem.cut.vars' lays the variable. In a bare row this is a premise. The card (YtcoicmbjoaonoaaDoorCards.lean) ties it to the program's text. -/
def laid_voxsat_dual_roots {H : Type} : DataW H := .agg [.lit (.int .i64 444758425), .lit (.int .i64 203159592), .lit (.int .i64 97181937), .lit (.int .i64 47538611), .lit (.int .i64 23511884), .lit (.int .i64 11692281), .lit (.int .i64 5830311), .lit (.int .i64 2911209), .lit (.int .i64 1454619), .lit (.int .i64 727063), .lit (.int .i64 363470), .lit (.int .i64 181719), .lit (.int .i64 90856), .lit (.int .i64 45427), .lit (.int .i64 22713)]
def laid_voxsat_pitch_gains {H : Type} : DataW H := .agg [.lit (.int .i64 0), .lit (.int .i64 3277), .lit (.int .i64 6554), .lit (.int .i64 9830), .lit (.int .i64 12452), .lit (.int .i64 14746), .lit (.int .i64 16384), .lit (.int .i64 18022)]
def laid_voxsat_quant_width {H : Type} : DataW H := .agg [.lit (.int .i64 6), .lit (.int .i64 6), .lit (.int .i64 5), .lit (.int .i64 5), .lit (.int .i64 4), .lit (.int .i64 4), .lit (.int .i64 3), .lit (.int .i64 3)]

/-- 'voxsattop.TopSilence': WHATEVER THE INPUT: true; the input reads as it did. -/
def topSilenceSpec : ChangeSpec := { name := "topSilence", fn := fun _ => fun
  | [d] => { results := [.lit (.bool true)], args := [d] }
  | _ => none }
def topSilenceRow : OpenClaim := { program := "ytcoicmbjoaonoaadoor", sum := "257274642cf35dcc7be815da0cd98ad9ce89c28b587175763c69fca475732b9b", func := "voxsat/voxsattop.TopSilence", spec := "topSilence", inPlace := ["math/bits.Add64"], unfollowed := true, recurses := true, named := ["voxsat/quant.width", "voxsat/pitch.gains", "voxsat/dual.roots"], apart := false, laid := [("voxsat/dual.roots", laid_voxsat_dual_roots), ("voxsat/pitch.gains", laid_voxsat_pitch_gains), ("voxsat/quant.width", laid_voxsat_quant_width)] }
def TopSilenceSaid : Prop := topSilenceRow.holds Tryd.pinned (OpenSpec.ofChange topSilenceSpec)

/-- ITS FALSE NEIGHBOUR: 'it returns false'. Refute it at one input. -/
def topSilenceWrong : ChangeSpec := { name := "topSilence", fn := fun _ => fun
  | [d] => { results := [.lit (.bool false)], args := [d] }
  | _ => none }
def TopSilenceWrongFalsely : Prop := topSilenceRow.holds Tryd.pinned (OpenSpec.ofChange topSilenceWrong)

/-- 'voxsattop.TopRefresh': WHATEVER THE INPUT: true; the input reads as it did. -/
def topRefreshSpec : ChangeSpec := { name := "topRefresh", fn := fun _ => fun
  | [d1, d2, d3] => { results := [.lit (.bool true)], args := [d1, d2, d3] }
  | _ => none }
def topRefreshRow : OpenClaim := { program := "ytcoicmbjoaonoaadoor", sum := "257274642cf35dcc7be815da0cd98ad9ce89c28b587175763c69fca475732b9b", func := "voxsat/voxsattop.TopRefresh", spec := "topRefresh", inPlace := ["math/bits.Add64"], unfollowed := true, recurses := true, named := ["voxsat/quant.width", "voxsat/pitch.gains", "voxsat/dual.roots"], apart := false, laid := [("voxsat/dual.roots", laid_voxsat_dual_roots), ("voxsat/pitch.gains", laid_voxsat_pitch_gains), ("voxsat/quant.width", laid_voxsat_quant_width)] }
def TopRefreshSaid : Prop := topRefreshRow.holds Tryd.pinned (OpenSpec.ofChange topRefreshSpec)

/-- ITS FALSE NEIGHBOUR: 'it returns false'. Refute it at one input. -/
def topRefreshWrong : ChangeSpec := { name := "topRefresh", fn := fun _ => fun
  | [d1, d2, d3] => { results := [.lit (.bool false)], args := [d1, d2, d3] }
  | _ => none }
def TopRefreshWrongFalsely : Prop := topRefreshRow.holds Tryd.pinned (OpenSpec.ofChange topRefreshWrong)

/-- 'voxsattop.TopGood': WHATEVER THE INPUT: true; the input reads as it did. -/
def topGoodSpec : ChangeSpec := { name := "topGood", fn := fun _ => fun
  | [d] => { results := [.lit (.bool true)], args := [d] }
  | _ => none }
def topGoodRow : OpenClaim := { program := "ytcoicmbjoaonoaadoor", sum := "257274642cf35dcc7be815da0cd98ad9ce89c28b587175763c69fca475732b9b", func := "voxsat/voxsattop.TopGood", spec := "topGood", inPlace := ["math/bits.Add64"], unfollowed := true, recurses := true, named := ["voxsat/quant.width", "voxsat/pitch.gains", "voxsat/dual.roots"], apart := false, laid := [("voxsat/dual.roots", laid_voxsat_dual_roots), ("voxsat/pitch.gains", laid_voxsat_pitch_gains), ("voxsat/quant.width", laid_voxsat_quant_width)] }
def TopGoodSaid : Prop := topGoodRow.holds Tryd.pinned (OpenSpec.ofChange topGoodSpec)

/-- ITS FALSE NEIGHBOUR: 'it returns false'. Refute it at one input. -/
def topGoodWrong : ChangeSpec := { name := "topGood", fn := fun _ => fun
  | [d] => { results := [.lit (.bool false)], args := [d] }
  | _ => none }
def TopGoodWrongFalsely : Prop := topGoodRow.holds Tryd.pinned (OpenSpec.ofChange topGoodWrong)

/-- 'voxsattop.TopHeader': WHATEVER THE INPUT: true; the input reads as it did. -/
def topHeaderSpec : ChangeSpec := { name := "topHeader", fn := fun _ => fun
  | [d1, d2, d3] => { results := [.lit (.bool true)], args := [d1, d2, d3] }
  | _ => none }
def topHeaderRow : OpenClaim := { program := "ytcoicmbjoaonoaadoor", sum := "257274642cf35dcc7be815da0cd98ad9ce89c28b587175763c69fca475732b9b", func := "voxsat/voxsattop.TopHeader", spec := "topHeader", inPlace := ["math/bits.Add64"], unfollowed := true, recurses := true, named := ["voxsat/quant.width", "voxsat/pitch.gains", "voxsat/dual.roots"], apart := false, laid := [("voxsat/dual.roots", laid_voxsat_dual_roots), ("voxsat/pitch.gains", laid_voxsat_pitch_gains), ("voxsat/quant.width", laid_voxsat_quant_width)] }
def TopHeaderSaid : Prop := topHeaderRow.holds Tryd.pinned (OpenSpec.ofChange topHeaderSpec)

/-- ITS FALSE NEIGHBOUR: 'it returns false'. Refute it at one input. -/
def topHeaderWrong : ChangeSpec := { name := "topHeader", fn := fun _ => fun
  | [d1, d2, d3] => { results := [.lit (.bool false)], args := [d1, d2, d3] }
  | _ => none }
def TopHeaderWrongFalsely : Prop := topHeaderRow.holds Tryd.pinned (OpenSpec.ofChange topHeaderWrong)

/-- 'voxsatkeep.RefreshForgets': WHATEVER THE INPUT: true; the input reads as it did. -/
def refreshForgetsSpec : ChangeSpec := { name := "refreshForgets", fn := fun _ => fun
  | [d1, d2, d3] => { results := [.lit (.bool true)], args := [d1, d2, d3] }
  | _ => none }
def refreshForgetsRow : OpenClaim := { program := "ytcoicmbjoaonoaadoor", sum := "257274642cf35dcc7be815da0cd98ad9ce89c28b587175763c69fca475732b9b", func := "voxsat/voxsatkeep.RefreshForgets", spec := "refreshForgets", inPlace := ["math/bits.Add64"], unfollowed := true, recurses := true, named := ["voxsat/quant.width", "voxsat/dual.roots", "voxsat/pitch.gains"], apart := false, laid := [("voxsat/dual.roots", laid_voxsat_dual_roots), ("voxsat/pitch.gains", laid_voxsat_pitch_gains), ("voxsat/quant.width", laid_voxsat_quant_width)] }
def RefreshForgetsSaid : Prop := refreshForgetsRow.holds Tryd.pinned (OpenSpec.ofChange refreshForgetsSpec)

/-- ITS FALSE NEIGHBOUR: 'it returns false'. Refute it at one input. -/
def refreshForgetsWrong : ChangeSpec := { name := "refreshForgets", fn := fun _ => fun
  | [d1, d2, d3] => { results := [.lit (.bool false)], args := [d1, d2, d3] }
  | _ => none }
def RefreshForgetsWrongFalsely : Prop := refreshForgetsRow.holds Tryd.pinned (OpenSpec.ofChange refreshForgetsWrong)

/-- 'voxsatkeep.CoderMemory': WHATEVER THE INPUT: true; the input reads as it did. -/
def coderMemorySpec : ChangeSpec := { name := "coderMemory", fn := fun _ => fun
  | [d1, d2] => { results := [.lit (.bool true)], args := [d1, d2] }
  | _ => none }
def coderMemoryRow : OpenClaim := { program := "ytcoicmbjoaonoaadoor", sum := "257274642cf35dcc7be815da0cd98ad9ce89c28b587175763c69fca475732b9b", func := "voxsat/voxsatkeep.CoderMemory", spec := "coderMemory", inPlace := ["math/bits.Add64"], unfollowed := true, recurses := true, named := ["voxsat/quant.width", "voxsat/pitch.gains", "voxsat/dual.roots"], apart := false, laid := [("voxsat/dual.roots", laid_voxsat_dual_roots), ("voxsat/pitch.gains", laid_voxsat_pitch_gains), ("voxsat/quant.width", laid_voxsat_quant_width)] }
def CoderMemorySaid : Prop := coderMemoryRow.holds Tryd.pinned (OpenSpec.ofChange coderMemorySpec)

/-- ITS FALSE NEIGHBOUR: 'it returns false'. Refute it at one input. -/
def coderMemoryWrong : ChangeSpec := { name := "coderMemory", fn := fun _ => fun
  | [d1, d2] => { results := [.lit (.bool false)], args := [d1, d2] }
  | _ => none }
def CoderMemoryWrongFalsely : Prop := coderMemoryRow.holds Tryd.pinned (OpenSpec.ofChange coderMemoryWrong)

/-- 'voxsatkeep.DecodeGoods': WHATEVER THE INPUT: true; the input reads as it did. -/
def decodeGoodsSpec : ChangeSpec := { name := "decodeGoods", fn := fun _ => fun
  | [d1, d2] => { results := [.lit (.bool true)], args := [d1, d2] }
  | _ => none }
def decodeGoodsRow : OpenClaim := { program := "ytcoicmbjoaonoaadoor", sum := "257274642cf35dcc7be815da0cd98ad9ce89c28b587175763c69fca475732b9b", func := "voxsat/voxsatkeep.DecodeGoods", spec := "decodeGoods", inPlace := ["math/bits.Add64"], unfollowed := true, recurses := true, named := ["voxsat/quant.width", "voxsat/dual.roots", "voxsat/pitch.gains"], apart := false, laid := [("voxsat/dual.roots", laid_voxsat_dual_roots), ("voxsat/pitch.gains", laid_voxsat_pitch_gains), ("voxsat/quant.width", laid_voxsat_quant_width)] }
def DecodeGoodsSaid : Prop := decodeGoodsRow.holds Tryd.pinned (OpenSpec.ofChange decodeGoodsSpec)

/-- ITS FALSE NEIGHBOUR: 'it returns false'. Refute it at one input. -/
def decodeGoodsWrong : ChangeSpec := { name := "decodeGoods", fn := fun _ => fun
  | [d1, d2] => { results := [.lit (.bool false)], args := [d1, d2] }
  | _ => none }
def DecodeGoodsWrongFalsely : Prop := decodeGoodsRow.holds Tryd.pinned (OpenSpec.ofChange decodeGoodsWrong)

/- THE SECOND FORM. 'bulk': how many values and letters a reading holds, each counted each time it is reached (what is shared counts as often as it is met; a slice's spare places count too). A statement '..UptoSaid' is the law's where the arguments, and the package variables that the reading takes, are together of bulk at most 1048576: NARROWER than '..Said'. Prove '..Said' where nothing that the law and all that it calls make is longer than what came in: it says more and counts as full. Else prove '..UptoSaid'. A law counts once. -/
mutual
def uptoBulk {H : Type} : DataW H → Nat
  | .lit (.string bytes) => bytes.length + 1
  | .lit _ => 1
  | .nil => 1
  | .ptr d => uptoBulk d + 1
  | .slice elems spare => uptoBulkAll elems + uptoBulkAll spare + 1
  | .agg parts => uptoBulkAll parts + 1
  | .iface _ d => uptoBulk d + 1
  | .map entries => uptoBulkEntries entries + 1
  | .held _ => 1
def uptoBulkAll {H : Type} : List (DataW H) → Nat
  | [] => 0
  | d :: r => uptoBulk d + uptoBulkAll r
def uptoBulkEntries {H : Type} : List (Lit × DataW H) → Nat
  | [] => 0
  | x :: r => uptoBulkEntry x + uptoBulkEntries r
def uptoBulkEntry {H : Type} : Lit × DataW H → Nat
  | (.string bytes, d) => bytes.length + uptoBulk d + 1
  | (_, d) => uptoBulk d + 1
 end
def uptoSmall : (H : Type) → List (DataW H) → Bool := fun _ ds => decide (uptoBulkAll ds ≤ 1048576)
def OpenSpec.upto (s : _root_.Go.ChangeSpec) : _root_.Go.OpenSpec := { _root_.Go.OpenSpec.ofChange s with cond := some uptoSmall }

/-- 'voxsattop.TopSilence', WHERE WHAT IT READS IS OF BULK AT MOST 1048576: true; the input reads as it did. -/
def topSilenceUptoRow : OpenClaim := { program := "ytcoicmbjoaonoaadoor", sum := "257274642cf35dcc7be815da0cd98ad9ce89c28b587175763c69fca475732b9b", func := "voxsat/voxsattop.TopSilence", spec := "topSilence", inPlace := ["math/bits.Add64"], unfollowed := true, recurses := true, named := ["voxsat/quant.width", "voxsat/pitch.gains", "voxsat/dual.roots"], apart := false, laid := [("voxsat/dual.roots", laid_voxsat_dual_roots), ("voxsat/pitch.gains", laid_voxsat_pitch_gains), ("voxsat/quant.width", laid_voxsat_quant_width)], narrowed := true }
def TopSilenceUptoSaid : Prop := topSilenceUptoRow.holds Tryd.pinned (OpenSpec.upto topSilenceSpec)

/-- 'voxsattop.TopRefresh', WHERE WHAT IT READS IS OF BULK AT MOST 1048576: true; the input reads as it did. -/
def topRefreshUptoRow : OpenClaim := { program := "ytcoicmbjoaonoaadoor", sum := "257274642cf35dcc7be815da0cd98ad9ce89c28b587175763c69fca475732b9b", func := "voxsat/voxsattop.TopRefresh", spec := "topRefresh", inPlace := ["math/bits.Add64"], unfollowed := true, recurses := true, named := ["voxsat/quant.width", "voxsat/pitch.gains", "voxsat/dual.roots"], apart := false, laid := [("voxsat/dual.roots", laid_voxsat_dual_roots), ("voxsat/pitch.gains", laid_voxsat_pitch_gains), ("voxsat/quant.width", laid_voxsat_quant_width)], narrowed := true }
def TopRefreshUptoSaid : Prop := topRefreshUptoRow.holds Tryd.pinned (OpenSpec.upto topRefreshSpec)

/-- 'voxsattop.TopGood', WHERE WHAT IT READS IS OF BULK AT MOST 1048576: true; the input reads as it did. -/
def topGoodUptoRow : OpenClaim := { program := "ytcoicmbjoaonoaadoor", sum := "257274642cf35dcc7be815da0cd98ad9ce89c28b587175763c69fca475732b9b", func := "voxsat/voxsattop.TopGood", spec := "topGood", inPlace := ["math/bits.Add64"], unfollowed := true, recurses := true, named := ["voxsat/quant.width", "voxsat/pitch.gains", "voxsat/dual.roots"], apart := false, laid := [("voxsat/dual.roots", laid_voxsat_dual_roots), ("voxsat/pitch.gains", laid_voxsat_pitch_gains), ("voxsat/quant.width", laid_voxsat_quant_width)], narrowed := true }
def TopGoodUptoSaid : Prop := topGoodUptoRow.holds Tryd.pinned (OpenSpec.upto topGoodSpec)

/-- 'voxsattop.TopHeader', WHERE WHAT IT READS IS OF BULK AT MOST 1048576: true; the input reads as it did. -/
def topHeaderUptoRow : OpenClaim := { program := "ytcoicmbjoaonoaadoor", sum := "257274642cf35dcc7be815da0cd98ad9ce89c28b587175763c69fca475732b9b", func := "voxsat/voxsattop.TopHeader", spec := "topHeader", inPlace := ["math/bits.Add64"], unfollowed := true, recurses := true, named := ["voxsat/quant.width", "voxsat/pitch.gains", "voxsat/dual.roots"], apart := false, laid := [("voxsat/dual.roots", laid_voxsat_dual_roots), ("voxsat/pitch.gains", laid_voxsat_pitch_gains), ("voxsat/quant.width", laid_voxsat_quant_width)], narrowed := true }
def TopHeaderUptoSaid : Prop := topHeaderUptoRow.holds Tryd.pinned (OpenSpec.upto topHeaderSpec)

/-- 'voxsatkeep.RefreshForgets', WHERE WHAT IT READS IS OF BULK AT MOST 1048576: true; the input reads as it did. -/
def refreshForgetsUptoRow : OpenClaim := { program := "ytcoicmbjoaonoaadoor", sum := "257274642cf35dcc7be815da0cd98ad9ce89c28b587175763c69fca475732b9b", func := "voxsat/voxsatkeep.RefreshForgets", spec := "refreshForgets", inPlace := ["math/bits.Add64"], unfollowed := true, recurses := true, named := ["voxsat/quant.width", "voxsat/dual.roots", "voxsat/pitch.gains"], apart := false, laid := [("voxsat/dual.roots", laid_voxsat_dual_roots), ("voxsat/pitch.gains", laid_voxsat_pitch_gains), ("voxsat/quant.width", laid_voxsat_quant_width)], narrowed := true }
def RefreshForgetsUptoSaid : Prop := refreshForgetsUptoRow.holds Tryd.pinned (OpenSpec.upto refreshForgetsSpec)

/-- 'voxsatkeep.CoderMemory', WHERE WHAT IT READS IS OF BULK AT MOST 1048576: true; the input reads as it did. -/
def coderMemoryUptoRow : OpenClaim := { program := "ytcoicmbjoaonoaadoor", sum := "257274642cf35dcc7be815da0cd98ad9ce89c28b587175763c69fca475732b9b", func := "voxsat/voxsatkeep.CoderMemory", spec := "coderMemory", inPlace := ["math/bits.Add64"], unfollowed := true, recurses := true, named := ["voxsat/quant.width", "voxsat/pitch.gains", "voxsat/dual.roots"], apart := false, laid := [("voxsat/dual.roots", laid_voxsat_dual_roots), ("voxsat/pitch.gains", laid_voxsat_pitch_gains), ("voxsat/quant.width", laid_voxsat_quant_width)], narrowed := true }
def CoderMemoryUptoSaid : Prop := coderMemoryUptoRow.holds Tryd.pinned (OpenSpec.upto coderMemorySpec)

/-- 'voxsatkeep.DecodeGoods', WHERE WHAT IT READS IS OF BULK AT MOST 1048576: true; the input reads as it did. -/
def decodeGoodsUptoRow : OpenClaim := { program := "ytcoicmbjoaonoaadoor", sum := "257274642cf35dcc7be815da0cd98ad9ce89c28b587175763c69fca475732b9b", func := "voxsat/voxsatkeep.DecodeGoods", spec := "decodeGoods", inPlace := ["math/bits.Add64"], unfollowed := true, recurses := true, named := ["voxsat/quant.width", "voxsat/dual.roots", "voxsat/pitch.gains"], apart := false, laid := [("voxsat/dual.roots", laid_voxsat_dual_roots), ("voxsat/pitch.gains", laid_voxsat_pitch_gains), ("voxsat/quant.width", laid_voxsat_quant_width)], narrowed := true }
def DecodeGoodsUptoSaid : Prop := decodeGoodsUptoRow.holds Tryd.pinned (OpenSpec.upto decodeGoodsSpec)

end Rows
end Go.Proofs.YtcoicmbjoaonoaaDoor
