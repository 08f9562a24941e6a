/-
  DERIVED. GIVEN WITH THE SEED: THE CARDS: each row of YtgacdmkhgllceaaGreatDoorRows.lean that lists a variable, with what it lists TIED to the program's text (the seventh form; the later family's looks); each row that meets fmt, with fmt's text TOLD by the authors' own Lean function (tested against real Go, not proved from fmt's source: count such statements apart). THE CARD IS WHAT COUNTS. Prove the row's statement (the work); the ties are given (YtgacdmkhgllceaaGreatDoorTie.lean); close each card by the builder's one call (the guide's Derived/Test/ToyasCard.lean, 'card_holds'). Laid BY PROGRAM, IN A SANDBOX (cutbox-door.mjs). By AI agents, Wed Nov 11 2026. No macro, syntax, notation, axiom, sorry.
-/
import Derived.Test.YtgacdmkhgllceaaGreatDoorRows
import GoSem.ClaimSeven
namespace Go.Proofs.YtgacdmkhgllceaaGreatDoor
namespace Rows

/-- THE TIED CARD OF 'signatorylaw42.PartialSpec'. -/
def partialSpecCard : Claim7 := { stood := { row := partialSpecRow, standIns := [], harness := (true, "c78bf4d05194944e5df80f84fdfba090fbfb88574a25c1a5eefef38535adb8e4"), looks := true }, kinds := [], alts := [], laidByText := true, laidKinds := [.data, .data], laidTests := true, laidLooks := .later }
def PartialSpecCardSaid : Prop := Claim7.holds Tryz.pinned (.plain (OpenSpec.ofChange partialSpecSpec)) partialSpecCard

/-- THE TIED CARD OF 'signatorylaw42.PartialMakeSpec'. -/
def partialMakeSpecCard : Claim7 := { stood := { row := partialMakeSpecRow, standIns := [], harness := (true, "c78bf4d05194944e5df80f84fdfba090fbfb88574a25c1a5eefef38535adb8e4"), looks := true }, kinds := [], alts := [], laidByText := true, laidKinds := [.data, .data], laidTests := true, laidLooks := .later }
def PartialMakeSpecCardSaid : Prop := Claim7.holds Tryz.pinned (.plain (OpenSpec.ofChange partialMakeSpecSpec)) partialMakeSpecCard

/-- THE TIED CARD OF 'signatorylaw42.PartialSigns'. -/
def partialSignsCard : Claim7 := { stood := { row := partialSignsRow, standIns := [], harness := (true, "c78bf4d05194944e5df80f84fdfba090fbfb88574a25c1a5eefef38535adb8e4"), looks := true }, kinds := [], alts := [], laidByText := true, laidKinds := [.data, .data], laidTests := true, laidLooks := .later }
def PartialSignsCardSaid : Prop := Claim7.holds Tryz.pinned (.plain (OpenSpec.ofChange partialSignsSpec)) partialSignsCard

/-- THE TIED CARD OF 'signatorylaw42.PartialFits'. -/
def partialFitsCard : Claim7 := { stood := { row := partialFitsRow, standIns := [], harness := (true, "c78bf4d05194944e5df80f84fdfba090fbfb88574a25c1a5eefef38535adb8e4"), looks := true }, kinds := [], alts := [], laidByText := true, laidKinds := [.data, .data], laidTests := true, laidLooks := .later }
def PartialFitsCardSaid : Prop := Claim7.holds Tryz.pinned (.plain (OpenSpec.ofChange partialFitsSpec)) partialFitsCard

/-- THE TIED CARD OF 'signatorylaw42.PartialPoint'. -/
def partialPointCard : Claim7 := { stood := { row := partialPointRow, standIns := [], harness := (true, "c78bf4d05194944e5df80f84fdfba090fbfb88574a25c1a5eefef38535adb8e4"), looks := true }, kinds := [], alts := [], laidByText := true, laidKinds := [.data, .data], laidTests := true, laidLooks := .later }
def PartialPointCardSaid : Prop := Claim7.holds Tryz.pinned (.plain (OpenSpec.ofChange partialPointSpec)) partialPointCard

/-- THE TIED CARD OF 'signatorylaw43.CombineSpec'. -/
def combineSpecCard : Claim7 := { stood := { row := combineSpecRow, standIns := [], harness := (true, "c78bf4d05194944e5df80f84fdfba090fbfb88574a25c1a5eefef38535adb8e4"), looks := true }, kinds := [], alts := [], laidByText := true, laidKinds := [.data, .data], laidTests := true, laidLooks := .later }
def CombineSpecCardSaid : Prop := Claim7.holds Tryz.pinned (.plain (OpenSpec.ofChange combineSpecSpec)) combineSpecCard

/-- THE TIED CARD OF 'signatorylaw43.CombineBlameSpec'. -/
def combineBlameSpecCard : Claim7 := { stood := { row := combineBlameSpecRow, standIns := [], harness := (true, "c78bf4d05194944e5df80f84fdfba090fbfb88574a25c1a5eefef38535adb8e4"), looks := true }, kinds := [], alts := [], laidByText := true, laidKinds := [.data, .data], laidTests := true, laidLooks := .later }
def CombineBlameSpecCardSaid : Prop := Claim7.holds Tryz.pinned (.plain (OpenSpec.ofChange combineBlameSpecSpec)) combineBlameSpecCard

/-- THE TIED CARD OF 'signatorylaw43.CombineSigns'. -/
def combineSignsCard : Claim7 := { stood := { row := combineSignsRow, standIns := [], harness := (true, "c78bf4d05194944e5df80f84fdfba090fbfb88574a25c1a5eefef38535adb8e4"), looks := true }, kinds := [], alts := [], laidByText := true, laidKinds := [.data, .data], laidTests := true, laidLooks := .later }
def CombineSignsCardSaid : Prop := Claim7.holds Tryz.pinned (.plain (OpenSpec.ofChange combineSignsSpec)) combineSignsCard

/-- THE TIED CARD OF 'signatorylaw43.CombineBlame'. -/
def combineBlameCard : Claim7 := { stood := { row := combineBlameRow, standIns := [], harness := (true, "c78bf4d05194944e5df80f84fdfba090fbfb88574a25c1a5eefef38535adb8e4"), looks := true }, kinds := [], alts := [], laidByText := true, laidKinds := [.data, .data], laidTests := true, laidLooks := .later }
def CombineBlameCardSaid : Prop := Claim7.holds Tryz.pinned (.plain (OpenSpec.ofChange combineBlameSpec)) combineBlameCard

/-- THE TIED CARD OF 'signatorylaw43.CombineEvery'. -/
def combineEveryCard : Claim7 := { stood := { row := combineEveryRow, standIns := [], harness := (true, "c78bf4d05194944e5df80f84fdfba090fbfb88574a25c1a5eefef38535adb8e4"), looks := true }, kinds := [], alts := [], laidByText := true, laidKinds := [.data, .data], laidTests := true, laidLooks := .later }
def CombineEveryCardSaid : Prop := Claim7.holds Tryz.pinned (.plain (OpenSpec.ofChange combineEverySpec)) combineEveryCard

/-- THE TIED CARD OF 'signatorylaw43.CombineSum'. -/
def combineSumCard : Claim7 := { stood := { row := combineSumRow, standIns := [], harness := (true, "c78bf4d05194944e5df80f84fdfba090fbfb88574a25c1a5eefef38535adb8e4"), looks := true }, kinds := [], alts := [], laidByText := true, laidKinds := [.data, .data], laidTests := true, laidLooks := .later }
def CombineSumCardSaid : Prop := Claim7.holds Tryz.pinned (.plain (OpenSpec.ofChange combineSumSpec)) combineSumCard

/-- THE TIED CARD OF 'signatorylaw42.PartialRenewed'. -/
def partialRenewedCard : Claim7 := { stood := { row := partialRenewedRow, standIns := [], harness := (true, "c78bf4d05194944e5df80f84fdfba090fbfb88574a25c1a5eefef38535adb8e4"), looks := true }, kinds := [], alts := [], laidByText := true, laidKinds := [.data, .data], laidTests := true, laidLooks := .later }
def PartialRenewedCardSaid : Prop := Claim7.holds Tryz.pinned (.plain (OpenSpec.ofChange partialRenewedSpec)) partialRenewedCard

/-- THE SECOND FORM's CARD OF 'signatorylaw42.PartialSpec'. -/
def partialSpecUptoCard : Claim7 := { stood := { row := partialSpecUptoRow, standIns := [], harness := (true, "c78bf4d05194944e5df80f84fdfba090fbfb88574a25c1a5eefef38535adb8e4"), looks := true }, kinds := [], alts := [], laidByText := true, laidKinds := [.data, .data], laidTests := true, laidLooks := .later }
def PartialSpecUptoCardSaid : Prop := Claim7.holds Tryz.pinned (.plain (OpenSpec.upto partialSpecSpec)) partialSpecUptoCard

/-- THE SECOND FORM's CARD OF 'signatorylaw42.PartialMakeSpec'. -/
def partialMakeSpecUptoCard : Claim7 := { stood := { row := partialMakeSpecUptoRow, standIns := [], harness := (true, "c78bf4d05194944e5df80f84fdfba090fbfb88574a25c1a5eefef38535adb8e4"), looks := true }, kinds := [], alts := [], laidByText := true, laidKinds := [.data, .data], laidTests := true, laidLooks := .later }
def PartialMakeSpecUptoCardSaid : Prop := Claim7.holds Tryz.pinned (.plain (OpenSpec.upto partialMakeSpecSpec)) partialMakeSpecUptoCard

/-- THE SECOND FORM's CARD OF 'signatorylaw42.PartialSigns'. -/
def partialSignsUptoCard : Claim7 := { stood := { row := partialSignsUptoRow, standIns := [], harness := (true, "c78bf4d05194944e5df80f84fdfba090fbfb88574a25c1a5eefef38535adb8e4"), looks := true }, kinds := [], alts := [], laidByText := true, laidKinds := [.data, .data], laidTests := true, laidLooks := .later }
def PartialSignsUptoCardSaid : Prop := Claim7.holds Tryz.pinned (.plain (OpenSpec.upto partialSignsSpec)) partialSignsUptoCard

/-- THE SECOND FORM's CARD OF 'signatorylaw42.PartialFits'. -/
def partialFitsUptoCard : Claim7 := { stood := { row := partialFitsUptoRow, standIns := [], harness := (true, "c78bf4d05194944e5df80f84fdfba090fbfb88574a25c1a5eefef38535adb8e4"), looks := true }, kinds := [], alts := [], laidByText := true, laidKinds := [.data, .data], laidTests := true, laidLooks := .later }
def PartialFitsUptoCardSaid : Prop := Claim7.holds Tryz.pinned (.plain (OpenSpec.upto partialFitsSpec)) partialFitsUptoCard

/-- THE SECOND FORM's CARD OF 'signatorylaw42.PartialPoint'. -/
def partialPointUptoCard : Claim7 := { stood := { row := partialPointUptoRow, standIns := [], harness := (true, "c78bf4d05194944e5df80f84fdfba090fbfb88574a25c1a5eefef38535adb8e4"), looks := true }, kinds := [], alts := [], laidByText := true, laidKinds := [.data, .data], laidTests := true, laidLooks := .later }
def PartialPointUptoCardSaid : Prop := Claim7.holds Tryz.pinned (.plain (OpenSpec.upto partialPointSpec)) partialPointUptoCard

/-- THE SECOND FORM's CARD OF 'signatorylaw43.CombineSpec'. -/
def combineSpecUptoCard : Claim7 := { stood := { row := combineSpecUptoRow, standIns := [], harness := (true, "c78bf4d05194944e5df80f84fdfba090fbfb88574a25c1a5eefef38535adb8e4"), looks := true }, kinds := [], alts := [], laidByText := true, laidKinds := [.data, .data], laidTests := true, laidLooks := .later }
def CombineSpecUptoCardSaid : Prop := Claim7.holds Tryz.pinned (.plain (OpenSpec.upto combineSpecSpec)) combineSpecUptoCard

/-- THE SECOND FORM's CARD OF 'signatorylaw43.CombineBlameSpec'. -/
def combineBlameSpecUptoCard : Claim7 := { stood := { row := combineBlameSpecUptoRow, standIns := [], harness := (true, "c78bf4d05194944e5df80f84fdfba090fbfb88574a25c1a5eefef38535adb8e4"), looks := true }, kinds := [], alts := [], laidByText := true, laidKinds := [.data, .data], laidTests := true, laidLooks := .later }
def CombineBlameSpecUptoCardSaid : Prop := Claim7.holds Tryz.pinned (.plain (OpenSpec.upto combineBlameSpecSpec)) combineBlameSpecUptoCard

/-- THE SECOND FORM's CARD OF 'signatorylaw43.CombineSigns'. -/
def combineSignsUptoCard : Claim7 := { stood := { row := combineSignsUptoRow, standIns := [], harness := (true, "c78bf4d05194944e5df80f84fdfba090fbfb88574a25c1a5eefef38535adb8e4"), looks := true }, kinds := [], alts := [], laidByText := true, laidKinds := [.data, .data], laidTests := true, laidLooks := .later }
def CombineSignsUptoCardSaid : Prop := Claim7.holds Tryz.pinned (.plain (OpenSpec.upto combineSignsSpec)) combineSignsUptoCard

/-- THE SECOND FORM's CARD OF 'signatorylaw43.CombineBlame'. -/
def combineBlameUptoCard : Claim7 := { stood := { row := combineBlameUptoRow, standIns := [], harness := (true, "c78bf4d05194944e5df80f84fdfba090fbfb88574a25c1a5eefef38535adb8e4"), looks := true }, kinds := [], alts := [], laidByText := true, laidKinds := [.data, .data], laidTests := true, laidLooks := .later }
def CombineBlameUptoCardSaid : Prop := Claim7.holds Tryz.pinned (.plain (OpenSpec.upto combineBlameSpec)) combineBlameUptoCard

/-- THE SECOND FORM's CARD OF 'signatorylaw43.CombineEvery'. -/
def combineEveryUptoCard : Claim7 := { stood := { row := combineEveryUptoRow, standIns := [], harness := (true, "c78bf4d05194944e5df80f84fdfba090fbfb88574a25c1a5eefef38535adb8e4"), looks := true }, kinds := [], alts := [], laidByText := true, laidKinds := [.data, .data], laidTests := true, laidLooks := .later }
def CombineEveryUptoCardSaid : Prop := Claim7.holds Tryz.pinned (.plain (OpenSpec.upto combineEverySpec)) combineEveryUptoCard

/-- THE SECOND FORM's CARD OF 'signatorylaw43.CombineSum'. -/
def combineSumUptoCard : Claim7 := { stood := { row := combineSumUptoRow, standIns := [], harness := (true, "c78bf4d05194944e5df80f84fdfba090fbfb88574a25c1a5eefef38535adb8e4"), looks := true }, kinds := [], alts := [], laidByText := true, laidKinds := [.data, .data], laidTests := true, laidLooks := .later }
def CombineSumUptoCardSaid : Prop := Claim7.holds Tryz.pinned (.plain (OpenSpec.upto combineSumSpec)) combineSumUptoCard

/-- THE SECOND FORM's CARD OF 'signatorylaw42.PartialRenewed'. -/
def partialRenewedUptoCard : Claim7 := { stood := { row := partialRenewedUptoRow, standIns := [], harness := (true, "c78bf4d05194944e5df80f84fdfba090fbfb88574a25c1a5eefef38535adb8e4"), looks := true }, kinds := [], alts := [], laidByText := true, laidKinds := [.data, .data], laidTests := true, laidLooks := .later }
def PartialRenewedUptoCardSaid : Prop := Claim7.holds Tryz.pinned (.plain (OpenSpec.upto partialRenewedSpec)) partialRenewedUptoCard
end Rows
end Go.Proofs.YtgacdmkhgllceaaGreatDoor
