/-
  DERIVED. GIVEN WITH THE SEED: THE CARDS: each row of YtabplcaeglnalaaDoorRows.lean that lists a variable, with what it lists TIED to the program's text (the seventh form; the later family's looks); each row that meets fmt, with fmt's text TOLD by the authors' own Lean function (tested against real Go, not proved from fmt's source: count such statements apart). THE CARD IS WHAT COUNTS. Prove the row's statement (the work); the ties are given (YtabplcaeglnalaaDoorTie.lean); close each card by the builder's one call (the guide's Derived/Test/ToyasCard.lean, 'card_holds'). Laid BY PROGRAM, IN A SANDBOX (cutbox-door.mjs). By AI agents, Wed Nov 11 2026. No macro, syntax, notation, axiom, sorry.
-/
import Derived.Test.YtabplcaeglnalaaDoorRows
import GoSem.ClaimSeven
namespace Go.Proofs.YtabplcaeglnalaaDoor
namespace Rows

/-- THE TIED CARD OF 'voxsatkeep.OpenBest'. -/
def openBestCard : Claim7 := { stood := { row := openBestRow, standIns := [], harness := (true, "8b21020c511a8f98f1e0e32db8bf629a5b8e8932c3d912c2283137cd5d8ee4eb"), looks := false }, kinds := [], alts := [], laidByText := true, laidKinds := [.data], laidTests := true, laidLooks := .later }
def OpenBestCardSaid : Prop := Claim7.holds Tryd.pinned (.plain (OpenSpec.ofChange openBestSpec)) openBestCard

/-- THE TIED CARD OF 'voxsatkeep.PickBest'. -/
def pickBestCard : Claim7 := { stood := { row := pickBestRow, standIns := [], harness := (true, "8b21020c511a8f98f1e0e32db8bf629a5b8e8932c3d912c2283137cd5d8ee4eb"), looks := false }, kinds := [], alts := [], laidByText := true, laidKinds := [.data], laidTests := true, laidLooks := .later }
def PickBestCardSaid : Prop := Claim7.holds Tryd.pinned (.plain (OpenSpec.ofChange pickBestSpec)) pickBestCard

/-- THE SECOND FORM's CARD OF 'voxsatkeep.OpenBest'. -/
def openBestUptoCard : Claim7 := { stood := { row := openBestUptoRow, standIns := [], harness := (true, "8b21020c511a8f98f1e0e32db8bf629a5b8e8932c3d912c2283137cd5d8ee4eb"), looks := false }, kinds := [], alts := [], laidByText := true, laidKinds := [.data], laidTests := true, laidLooks := .later }
def OpenBestUptoCardSaid : Prop := Claim7.holds Tryd.pinned (.plain (OpenSpec.upto openBestSpec)) openBestUptoCard

/-- THE SECOND FORM's CARD OF 'voxsatkeep.PickBest'. -/
def pickBestUptoCard : Claim7 := { stood := { row := pickBestUptoRow, standIns := [], harness := (true, "8b21020c511a8f98f1e0e32db8bf629a5b8e8932c3d912c2283137cd5d8ee4eb"), looks := false }, kinds := [], alts := [], laidByText := true, laidKinds := [.data], laidTests := true, laidLooks := .later }
def PickBestUptoCardSaid : Prop := Claim7.holds Tryd.pinned (.plain (OpenSpec.upto pickBestSpec)) pickBestUptoCard
end Rows
end Go.Proofs.YtabplcaeglnalaaDoor
