/-
  DERIVED. GIVEN WITH THE SEED: THE CARDS: each row of YtcoicmbjoaonoaaDoorRows.lean that lists a variable, with what it lists TIED to the program's text (the seventh form; the later family's looks); each row that meets fmt, with fmt's text TOLD by the authors' own Lean function (tested against real Go, not proved from fmt's source: count such statements apart). THE CARD IS WHAT COUNTS. Prove the row's statement (the work); the ties are given (YtcoicmbjoaonoaaDoorTie.lean); close each card by the builder's one call (the guide's Derived/Test/ToyasCard.lean, 'card_holds'). Laid BY PROGRAM, IN A SANDBOX (cutbox-door.mjs). By AI agents, Wed Nov 11 2026. No macro, syntax, notation, axiom, sorry.
-/
import Derived.Test.YtcoicmbjoaonoaaDoorRows
import GoSem.ClaimSeven
namespace Go.Proofs.YtcoicmbjoaonoaaDoor
namespace Rows

/-- THE TIED CARD OF 'voxsattop.TopSilence'. -/
def topSilenceCard : Claim7 := { stood := { row := topSilenceRow, standIns := [], harness := (true, "0ef70353b5ae7a98ad7c2cf0998e104166e8d1382619a1bf1e206625b47f3fc6"), looks := false }, kinds := [], alts := [], laidByText := true, laidKinds := [.data, .data, .data], laidTests := true, laidLooks := .later }
def TopSilenceCardSaid : Prop := Claim7.holds Tryd.pinned (.plain (OpenSpec.ofChange topSilenceSpec)) topSilenceCard

/-- THE TIED CARD OF 'voxsattop.TopRefresh'. -/
def topRefreshCard : Claim7 := { stood := { row := topRefreshRow, standIns := [], harness := (true, "0ef70353b5ae7a98ad7c2cf0998e104166e8d1382619a1bf1e206625b47f3fc6"), looks := false }, kinds := [], alts := [], laidByText := true, laidKinds := [.data, .data, .data], laidTests := true, laidLooks := .later }
def TopRefreshCardSaid : Prop := Claim7.holds Tryd.pinned (.plain (OpenSpec.ofChange topRefreshSpec)) topRefreshCard

/-- THE TIED CARD OF 'voxsattop.TopGood'. -/
def topGoodCard : Claim7 := { stood := { row := topGoodRow, standIns := [], harness := (true, "0ef70353b5ae7a98ad7c2cf0998e104166e8d1382619a1bf1e206625b47f3fc6"), looks := false }, kinds := [], alts := [], laidByText := true, laidKinds := [.data, .data, .data], laidTests := true, laidLooks := .later }
def TopGoodCardSaid : Prop := Claim7.holds Tryd.pinned (.plain (OpenSpec.ofChange topGoodSpec)) topGoodCard

/-- THE TIED CARD OF 'voxsattop.TopHeader'. -/
def topHeaderCard : Claim7 := { stood := { row := topHeaderRow, standIns := [], harness := (true, "0ef70353b5ae7a98ad7c2cf0998e104166e8d1382619a1bf1e206625b47f3fc6"), looks := false }, kinds := [], alts := [], laidByText := true, laidKinds := [.data, .data, .data], laidTests := true, laidLooks := .later }
def TopHeaderCardSaid : Prop := Claim7.holds Tryd.pinned (.plain (OpenSpec.ofChange topHeaderSpec)) topHeaderCard

/-- THE TIED CARD OF 'voxsatkeep.RefreshForgets'. -/
def refreshForgetsCard : Claim7 := { stood := { row := refreshForgetsRow, standIns := [], harness := (true, "0ef70353b5ae7a98ad7c2cf0998e104166e8d1382619a1bf1e206625b47f3fc6"), looks := false }, kinds := [], alts := [], laidByText := true, laidKinds := [.data, .data, .data], laidTests := true, laidLooks := .later }
def RefreshForgetsCardSaid : Prop := Claim7.holds Tryd.pinned (.plain (OpenSpec.ofChange refreshForgetsSpec)) refreshForgetsCard

/-- THE TIED CARD OF 'voxsatkeep.CoderMemory'. -/
def coderMemoryCard : Claim7 := { stood := { row := coderMemoryRow, standIns := [], harness := (true, "0ef70353b5ae7a98ad7c2cf0998e104166e8d1382619a1bf1e206625b47f3fc6"), looks := false }, kinds := [], alts := [], laidByText := true, laidKinds := [.data, .data, .data], laidTests := true, laidLooks := .later }
def CoderMemoryCardSaid : Prop := Claim7.holds Tryd.pinned (.plain (OpenSpec.ofChange coderMemorySpec)) coderMemoryCard

/-- THE TIED CARD OF 'voxsatkeep.DecodeGoods'. -/
def decodeGoodsCard : Claim7 := { stood := { row := decodeGoodsRow, standIns := [], harness := (true, "0ef70353b5ae7a98ad7c2cf0998e104166e8d1382619a1bf1e206625b47f3fc6"), looks := false }, kinds := [], alts := [], laidByText := true, laidKinds := [.data, .data, .data], laidTests := true, laidLooks := .later }
def DecodeGoodsCardSaid : Prop := Claim7.holds Tryd.pinned (.plain (OpenSpec.ofChange decodeGoodsSpec)) decodeGoodsCard

/-- THE SECOND FORM's CARD OF 'voxsattop.TopSilence'. -/
def topSilenceUptoCard : Claim7 := { stood := { row := topSilenceUptoRow, standIns := [], harness := (true, "0ef70353b5ae7a98ad7c2cf0998e104166e8d1382619a1bf1e206625b47f3fc6"), looks := false }, kinds := [], alts := [], laidByText := true, laidKinds := [.data, .data, .data], laidTests := true, laidLooks := .later }
def TopSilenceUptoCardSaid : Prop := Claim7.holds Tryd.pinned (.plain (OpenSpec.upto topSilenceSpec)) topSilenceUptoCard

/-- THE SECOND FORM's CARD OF 'voxsattop.TopRefresh'. -/
def topRefreshUptoCard : Claim7 := { stood := { row := topRefreshUptoRow, standIns := [], harness := (true, "0ef70353b5ae7a98ad7c2cf0998e104166e8d1382619a1bf1e206625b47f3fc6"), looks := false }, kinds := [], alts := [], laidByText := true, laidKinds := [.data, .data, .data], laidTests := true, laidLooks := .later }
def TopRefreshUptoCardSaid : Prop := Claim7.holds Tryd.pinned (.plain (OpenSpec.upto topRefreshSpec)) topRefreshUptoCard

/-- THE SECOND FORM's CARD OF 'voxsattop.TopGood'. -/
def topGoodUptoCard : Claim7 := { stood := { row := topGoodUptoRow, standIns := [], harness := (true, "0ef70353b5ae7a98ad7c2cf0998e104166e8d1382619a1bf1e206625b47f3fc6"), looks := false }, kinds := [], alts := [], laidByText := true, laidKinds := [.data, .data, .data], laidTests := true, laidLooks := .later }
def TopGoodUptoCardSaid : Prop := Claim7.holds Tryd.pinned (.plain (OpenSpec.upto topGoodSpec)) topGoodUptoCard

/-- THE SECOND FORM's CARD OF 'voxsattop.TopHeader'. -/
def topHeaderUptoCard : Claim7 := { stood := { row := topHeaderUptoRow, standIns := [], harness := (true, "0ef70353b5ae7a98ad7c2cf0998e104166e8d1382619a1bf1e206625b47f3fc6"), looks := false }, kinds := [], alts := [], laidByText := true, laidKinds := [.data, .data, .data], laidTests := true, laidLooks := .later }
def TopHeaderUptoCardSaid : Prop := Claim7.holds Tryd.pinned (.plain (OpenSpec.upto topHeaderSpec)) topHeaderUptoCard

/-- THE SECOND FORM's CARD OF 'voxsatkeep.RefreshForgets'. -/
def refreshForgetsUptoCard : Claim7 := { stood := { row := refreshForgetsUptoRow, standIns := [], harness := (true, "0ef70353b5ae7a98ad7c2cf0998e104166e8d1382619a1bf1e206625b47f3fc6"), looks := false }, kinds := [], alts := [], laidByText := true, laidKinds := [.data, .data, .data], laidTests := true, laidLooks := .later }
def RefreshForgetsUptoCardSaid : Prop := Claim7.holds Tryd.pinned (.plain (OpenSpec.upto refreshForgetsSpec)) refreshForgetsUptoCard

/-- THE SECOND FORM's CARD OF 'voxsatkeep.CoderMemory'. -/
def coderMemoryUptoCard : Claim7 := { stood := { row := coderMemoryUptoRow, standIns := [], harness := (true, "0ef70353b5ae7a98ad7c2cf0998e104166e8d1382619a1bf1e206625b47f3fc6"), looks := false }, kinds := [], alts := [], laidByText := true, laidKinds := [.data, .data, .data], laidTests := true, laidLooks := .later }
def CoderMemoryUptoCardSaid : Prop := Claim7.holds Tryd.pinned (.plain (OpenSpec.upto coderMemorySpec)) coderMemoryUptoCard

/-- THE SECOND FORM's CARD OF 'voxsatkeep.DecodeGoods'. -/
def decodeGoodsUptoCard : Claim7 := { stood := { row := decodeGoodsUptoRow, standIns := [], harness := (true, "0ef70353b5ae7a98ad7c2cf0998e104166e8d1382619a1bf1e206625b47f3fc6"), looks := false }, kinds := [], alts := [], laidByText := true, laidKinds := [.data, .data, .data], laidTests := true, laidLooks := .later }
def DecodeGoodsUptoCardSaid : Prop := Claim7.holds Tryd.pinned (.plain (OpenSpec.upto decodeGoodsSpec)) decodeGoodsUptoCard
end Rows
end Go.Proofs.YtcoicmbjoaonoaaDoor
