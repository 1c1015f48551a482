/-
  DERIVED. GIVEN WITH THE SEED: THE CARDS: each row of YtdpnadcoehmhbaaDoorRows.lean that lists a variable, with what it lists TIED to the program's text (the seventh form; the later family's looks); each row that meets fmt, with fmt's text TOLD by the authors' own Lean function (tested against real Go, not proved from fmt's source: count such statements apart). THE CARD IS WHAT COUNTS. Prove the row's statement (the work); the ties are given (YtdpnadcoehmhbaaDoorTie.lean); close each card by the builder's one call (the guide's Derived/Test/ToyasCard.lean, 'card_holds'). Laid BY PROGRAM, IN A SANDBOX (cutbox-door.mjs). By AI agents, Wed Nov 11 2026. No macro, syntax, notation, axiom, sorry.
-/
import Derived.Test.YtdpnadcoehmhbaaDoorRows
import GoSem.ClaimSeven
namespace Go.Proofs.YtdpnadcoehmhbaaDoor
namespace Rows

/-- THE TIED CARD OF 'voxsatkeep.PowRises'. -/
def powRisesCard : Claim7 := { stood := { row := powRisesRow, standIns := [], harness := (true, "329eaaad5541152ecef30ffe5ca3426c3d1213877e561ec093e030df4238605d"), looks := false }, kinds := [], alts := [], laidByText := true, laidKinds := [.data], laidTests := true, laidLooks := .later }
def PowRisesCardSaid : Prop := Claim7.holds Tryd.pinned (.plain (OpenSpec.ofChange powRisesSpec)) powRisesCard

/-- THE TIED CARD OF 'voxsatkeep.GainRises'. -/
def gainRisesCard : Claim7 := { stood := { row := gainRisesRow, standIns := [], harness := (true, "329eaaad5541152ecef30ffe5ca3426c3d1213877e561ec093e030df4238605d"), looks := false }, kinds := [], alts := [], laidByText := true, laidKinds := [.data], laidTests := true, laidLooks := .later }
def GainRisesCardSaid : Prop := Claim7.holds Tryd.pinned (.plain (OpenSpec.ofChange gainRisesSpec)) gainRisesCard

/-- THE TIED CARD OF 'voxsatkeep.GainNear'. -/
def gainNearCard : Claim7 := { stood := { row := gainNearRow, standIns := [], harness := (true, "329eaaad5541152ecef30ffe5ca3426c3d1213877e561ec093e030df4238605d"), looks := false }, kinds := [], alts := [], laidByText := true, laidKinds := [.data], laidTests := true, laidLooks := .later }
def GainNearCardSaid : Prop := Claim7.holds Tryd.pinned (.plain (OpenSpec.ofChange gainNearSpec)) gainNearCard

/-- THE TIED CARD OF 'voxsatkeep.FadeFalls'. -/
def fadeFallsCard : Claim7 := { stood := { row := fadeFallsRow, standIns := [], harness := (true, "329eaaad5541152ecef30ffe5ca3426c3d1213877e561ec093e030df4238605d"), looks := false }, kinds := [], alts := [], laidByText := true, laidKinds := [.data], laidTests := true, laidLooks := .later }
def FadeFallsCardSaid : Prop := Claim7.holds Tryd.pinned (.plain (OpenSpec.ofChange fadeFallsSpec)) fadeFallsCard

/-- THE TIED CARD OF 'voxsatkeep.NoiseWithin'. -/
def noiseWithinCard : Claim7 := { stood := { row := noiseWithinRow, standIns := [], harness := (true, "329eaaad5541152ecef30ffe5ca3426c3d1213877e561ec093e030df4238605d"), looks := false }, kinds := [], alts := [], laidByText := true, laidKinds := [.data], laidTests := true, laidLooks := .later }
def NoiseWithinCardSaid : Prop := Claim7.holds Tryd.pinned (.plain (OpenSpec.ofChange noiseWithinSpec)) noiseWithinCard

/-- THE TIED CARD OF 'voxsatkeep.NearestGain'. -/
def nearestGainCard : Claim7 := { stood := { row := nearestGainRow, standIns := [], harness := (true, "329eaaad5541152ecef30ffe5ca3426c3d1213877e561ec093e030df4238605d"), looks := false }, kinds := [], alts := [], laidByText := true, laidKinds := [.data], laidTests := true, laidLooks := .later }
def NearestGainCardSaid : Prop := Claim7.holds Tryd.pinned (.plain (OpenSpec.ofChange nearestGainSpec)) nearestGainCard

/-- THE TIED CARD OF 'voxsatkeep.PastRepeats'. -/
def pastRepeatsCard : Claim7 := { stood := { row := pastRepeatsRow, standIns := [], harness := (true, "329eaaad5541152ecef30ffe5ca3426c3d1213877e561ec093e030df4238605d"), looks := false }, kinds := [], alts := [], laidByText := true, laidKinds := [.data], laidTests := true, laidLooks := .later }
def PastRepeatsCardSaid : Prop := Claim7.holds Tryd.pinned (.plain (OpenSpec.ofChange pastRepeatsSpec)) pastRepeatsCard

/-- THE SECOND FORM's CARD OF 'voxsatkeep.PowRises'. -/
def powRisesUptoCard : Claim7 := { stood := { row := powRisesUptoRow, standIns := [], harness := (true, "329eaaad5541152ecef30ffe5ca3426c3d1213877e561ec093e030df4238605d"), looks := false }, kinds := [], alts := [], laidByText := true, laidKinds := [.data], laidTests := true, laidLooks := .later }
def PowRisesUptoCardSaid : Prop := Claim7.holds Tryd.pinned (.plain (OpenSpec.upto powRisesSpec)) powRisesUptoCard

/-- THE SECOND FORM's CARD OF 'voxsatkeep.GainRises'. -/
def gainRisesUptoCard : Claim7 := { stood := { row := gainRisesUptoRow, standIns := [], harness := (true, "329eaaad5541152ecef30ffe5ca3426c3d1213877e561ec093e030df4238605d"), looks := false }, kinds := [], alts := [], laidByText := true, laidKinds := [.data], laidTests := true, laidLooks := .later }
def GainRisesUptoCardSaid : Prop := Claim7.holds Tryd.pinned (.plain (OpenSpec.upto gainRisesSpec)) gainRisesUptoCard

/-- THE SECOND FORM's CARD OF 'voxsatkeep.GainNear'. -/
def gainNearUptoCard : Claim7 := { stood := { row := gainNearUptoRow, standIns := [], harness := (true, "329eaaad5541152ecef30ffe5ca3426c3d1213877e561ec093e030df4238605d"), looks := false }, kinds := [], alts := [], laidByText := true, laidKinds := [.data], laidTests := true, laidLooks := .later }
def GainNearUptoCardSaid : Prop := Claim7.holds Tryd.pinned (.plain (OpenSpec.upto gainNearSpec)) gainNearUptoCard

/-- THE SECOND FORM's CARD OF 'voxsatkeep.FadeFalls'. -/
def fadeFallsUptoCard : Claim7 := { stood := { row := fadeFallsUptoRow, standIns := [], harness := (true, "329eaaad5541152ecef30ffe5ca3426c3d1213877e561ec093e030df4238605d"), looks := false }, kinds := [], alts := [], laidByText := true, laidKinds := [.data], laidTests := true, laidLooks := .later }
def FadeFallsUptoCardSaid : Prop := Claim7.holds Tryd.pinned (.plain (OpenSpec.upto fadeFallsSpec)) fadeFallsUptoCard

/-- THE SECOND FORM's CARD OF 'voxsatkeep.NoiseWithin'. -/
def noiseWithinUptoCard : Claim7 := { stood := { row := noiseWithinUptoRow, standIns := [], harness := (true, "329eaaad5541152ecef30ffe5ca3426c3d1213877e561ec093e030df4238605d"), looks := false }, kinds := [], alts := [], laidByText := true, laidKinds := [.data], laidTests := true, laidLooks := .later }
def NoiseWithinUptoCardSaid : Prop := Claim7.holds Tryd.pinned (.plain (OpenSpec.upto noiseWithinSpec)) noiseWithinUptoCard

/-- THE SECOND FORM's CARD OF 'voxsatkeep.NearestGain'. -/
def nearestGainUptoCard : Claim7 := { stood := { row := nearestGainUptoRow, standIns := [], harness := (true, "329eaaad5541152ecef30ffe5ca3426c3d1213877e561ec093e030df4238605d"), looks := false }, kinds := [], alts := [], laidByText := true, laidKinds := [.data], laidTests := true, laidLooks := .later }
def NearestGainUptoCardSaid : Prop := Claim7.holds Tryd.pinned (.plain (OpenSpec.upto nearestGainSpec)) nearestGainUptoCard

/-- THE SECOND FORM's CARD OF 'voxsatkeep.PastRepeats'. -/
def pastRepeatsUptoCard : Claim7 := { stood := { row := pastRepeatsUptoRow, standIns := [], harness := (true, "329eaaad5541152ecef30ffe5ca3426c3d1213877e561ec093e030df4238605d"), looks := false }, kinds := [], alts := [], laidByText := true, laidKinds := [.data], laidTests := true, laidLooks := .later }
def PastRepeatsUptoCardSaid : Prop := Claim7.holds Tryd.pinned (.plain (OpenSpec.upto pastRepeatsSpec)) pastRepeatsUptoCard
end Rows
end Go.Proofs.YtdpnadcoehmhbaaDoor
