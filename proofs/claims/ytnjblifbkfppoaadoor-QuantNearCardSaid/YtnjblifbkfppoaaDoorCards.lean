/-
  DERIVED. GIVEN WITH THE SEED: THE CARDS: each row of YtnjblifbkfppoaaDoorRows.lean that lists a variable, with what it lists TIED to the program's text (the seventh form; the later family's looks); each row that meets fmt, with fmt's text TOLD by the authors' own Lean function (tested against real Go, not proved from fmt's source: count such statements apart). THE CARD IS WHAT COUNTS. Prove the row's statement (the work); the ties are given (YtnjblifbkfppoaaDoorTie.lean); close each card by the builder's one call (the guide's Derived/Test/ToyasCard.lean, 'card_holds'). Laid BY PROGRAM, IN A SANDBOX (cutbox-door.mjs). By AI agents, Wed Nov 11 2026. No macro, syntax, notation, axiom, sorry.
-/
import Derived.Test.YtnjblifbkfppoaaDoorRows
import GoSem.ClaimSeven
namespace Go.Proofs.YtnjblifbkfppoaaDoor
namespace Rows

/-- THE TIED CARD OF 'voxsatkeep.QuantRises'. -/
def quantRisesCard : Claim7 := { stood := { row := quantRisesRow, standIns := [], harness := (true, "d636d7f1d50eee9fbb128b286f7c38e6465e6c714d0686a54a1d1a5a11f37ac2"), looks := false }, kinds := [], alts := [], laidByText := true, laidKinds := [.data], laidTests := true, laidLooks := .later }
def QuantRisesCardSaid : Prop := Claim7.holds Tryd.pinned (.plain (OpenSpec.ofChange quantRisesSpec)) quantRisesCard

/-- THE TIED CARD OF 'voxsatkeep.QuantBack'. -/
def quantBackCard : Claim7 := { stood := { row := quantBackRow, standIns := [], harness := (true, "d636d7f1d50eee9fbb128b286f7c38e6465e6c714d0686a54a1d1a5a11f37ac2"), looks := false }, kinds := [], alts := [], laidByText := true, laidKinds := [.data], laidTests := true, laidLooks := .later }
def QuantBackCardSaid : Prop := Claim7.holds Tryd.pinned (.plain (OpenSpec.ofChange quantBackSpec)) quantBackCard

/-- THE TIED CARD OF 'voxsatkeep.QuantNear'. -/
def quantNearCard : Claim7 := { stood := { row := quantNearRow, standIns := [], harness := (true, "d636d7f1d50eee9fbb128b286f7c38e6465e6c714d0686a54a1d1a5a11f37ac2"), looks := false }, kinds := [], alts := [], laidByText := true, laidKinds := [.data], laidTests := true, laidLooks := .later }
def QuantNearCardSaid : Prop := Claim7.holds Tryd.pinned (.plain (OpenSpec.ofChange quantNearSpec)) quantNearCard

/-- THE SECOND FORM's CARD OF 'voxsatkeep.QuantRises'. -/
def quantRisesUptoCard : Claim7 := { stood := { row := quantRisesUptoRow, standIns := [], harness := (true, "d636d7f1d50eee9fbb128b286f7c38e6465e6c714d0686a54a1d1a5a11f37ac2"), looks := false }, kinds := [], alts := [], laidByText := true, laidKinds := [.data], laidTests := true, laidLooks := .later }
def QuantRisesUptoCardSaid : Prop := Claim7.holds Tryd.pinned (.plain (OpenSpec.upto quantRisesSpec)) quantRisesUptoCard

/-- THE SECOND FORM's CARD OF 'voxsatkeep.QuantBack'. -/
def quantBackUptoCard : Claim7 := { stood := { row := quantBackUptoRow, standIns := [], harness := (true, "d636d7f1d50eee9fbb128b286f7c38e6465e6c714d0686a54a1d1a5a11f37ac2"), looks := false }, kinds := [], alts := [], laidByText := true, laidKinds := [.data], laidTests := true, laidLooks := .later }
def QuantBackUptoCardSaid : Prop := Claim7.holds Tryd.pinned (.plain (OpenSpec.upto quantBackSpec)) quantBackUptoCard

/-- THE SECOND FORM's CARD OF 'voxsatkeep.QuantNear'. -/
def quantNearUptoCard : Claim7 := { stood := { row := quantNearUptoRow, standIns := [], harness := (true, "d636d7f1d50eee9fbb128b286f7c38e6465e6c714d0686a54a1d1a5a11f37ac2"), looks := false }, kinds := [], alts := [], laidByText := true, laidKinds := [.data], laidTests := true, laidLooks := .later }
def QuantNearUptoCardSaid : Prop := Claim7.holds Tryd.pinned (.plain (OpenSpec.upto quantNearSpec)) quantNearUptoCard
end Rows
end Go.Proofs.YtnjblifbkfppoaaDoor
