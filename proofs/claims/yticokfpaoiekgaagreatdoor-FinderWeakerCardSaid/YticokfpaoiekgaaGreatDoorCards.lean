/-
  DERIVED. GIVEN WITH THE SEED: THE CARDS: each row of YticokfpaoiekgaaGreatDoorRows.lean that lists a variable, with what it lists TIED to the program's text (the seventh form; the later family's looks); each row that meets fmt, with fmt's text TOLD by the authors' own Lean function (tested against real Go, not proved from fmt's source: count such statements apart). THE CARD IS WHAT COUNTS. Prove the row's statement (the work); the ties are given (YticokfpaoiekgaaGreatDoorTie.lean); close each card by the builder's one call (the guide's Derived/Test/ToyasCard.lean, 'card_holds'). Laid BY PROGRAM, IN A SANDBOX (cutbox-door.mjs). By AI agents, Wed Nov 11 2026. No macro, syntax, notation, axiom, sorry.
-/
import Derived.Test.YticokfpaoiekgaaGreatDoorRows
import GoSem.ClaimSeven
namespace Go.Proofs.YticokfpaoiekgaaGreatDoor
namespace Rows

/-- THE TIED CARD OF 'pandectlaw35.FinderRanks'. -/
def finderRanksCard : Claim7 := { stood := { row := finderRanksRow, standIns := [], harness := (true, "dcab370bff810923f36f2aacf27502e73d99faac3a9d6e23c30e896bd55015f0"), looks := true }, kinds := [], alts := [], laidByText := true, laidKinds := [.data, .data, .data, .data, .sentinel, .sentinel, .pinned], laidTests := true, laidLooks := .later }
def FinderRanksCardSaid : Prop := Claim7.holds Tryz.pinned (.plain (OpenSpec.ofChange finderRanksSpec)) finderRanksCard

/-- THE TIED CARD OF 'pandectlaw35.FinderTypes'. -/
def finderTypesCard : Claim7 := { stood := { row := finderTypesRow, standIns := [], harness := (true, "dcab370bff810923f36f2aacf27502e73d99faac3a9d6e23c30e896bd55015f0"), looks := true }, kinds := [], alts := [], laidByText := true, laidKinds := [.data, .data, .data, .data, .sentinel, .sentinel, .pinned], laidTests := true, laidLooks := .later }
def FinderTypesCardSaid : Prop := Claim7.holds Tryz.pinned (.plain (OpenSpec.ofChange finderTypesSpec)) finderTypesCard

/-- THE TIED CARD OF 'pandectlaw35.FinderNames'. -/
def finderNamesCard : Claim7 := { stood := { row := finderNamesRow, standIns := [], harness := (true, "dcab370bff810923f36f2aacf27502e73d99faac3a9d6e23c30e896bd55015f0"), looks := true }, kinds := [], alts := [], laidByText := true, laidKinds := [.data, .data, .data, .data, .sentinel, .sentinel, .pinned], laidTests := true, laidLooks := .later }
def FinderNamesCardSaid : Prop := Claim7.holds Tryz.pinned (.plain (OpenSpec.ofChange finderNamesSpec)) finderNamesCard

/-- THE TIED CARD OF 'pandectlaw35.FinderSound'. -/
def finderSoundCard : Claim7 := { stood := { row := finderSoundRow, standIns := [], harness := (true, "dcab370bff810923f36f2aacf27502e73d99faac3a9d6e23c30e896bd55015f0"), looks := true }, kinds := [], alts := [], laidByText := true, laidKinds := [.data, .data, .data, .data, .sentinel, .sentinel, .pinned], laidTests := true, laidLooks := .later }
def FinderSoundCardSaid : Prop := Claim7.holds Tryz.pinned (.plain (OpenSpec.ofChange finderSoundSpec)) finderSoundCard

/-- THE TIED CARD OF 'pandectlaw35.FinderMost'. -/
def finderMostCard : Claim7 := { stood := { row := finderMostRow, standIns := [], harness := (true, "dcab370bff810923f36f2aacf27502e73d99faac3a9d6e23c30e896bd55015f0"), looks := true }, kinds := [], alts := [], laidByText := true, laidKinds := [.data, .data, .data, .data, .sentinel, .sentinel, .pinned], laidTests := true, laidLooks := .later }
def FinderMostCardSaid : Prop := Claim7.holds Tryz.pinned (.plain (OpenSpec.ofChange finderMostSpec)) finderMostCard

/-- THE TIED CARD OF 'pandectlaw35.FinderWeaker'. -/
def finderWeakerCard : Claim7 := { stood := { row := finderWeakerRow, standIns := [], harness := (true, "dcab370bff810923f36f2aacf27502e73d99faac3a9d6e23c30e896bd55015f0"), looks := true }, kinds := [], alts := [], laidByText := true, laidKinds := [.data, .data, .data, .data, .sentinel, .sentinel, .pinned], laidTests := true, laidLooks := .later }
def FinderWeakerCardSaid : Prop := Claim7.holds Tryz.pinned (.plain (OpenSpec.ofChange finderWeakerSpec)) finderWeakerCard

/-- THE SECOND FORM's CARD OF 'pandectlaw35.FinderRanks'. -/
def finderRanksUptoCard : Claim7 := { stood := { row := finderRanksUptoRow, standIns := [], harness := (true, "dcab370bff810923f36f2aacf27502e73d99faac3a9d6e23c30e896bd55015f0"), looks := true }, kinds := [], alts := [], laidByText := true, laidKinds := [.data, .data, .data, .data, .sentinel, .sentinel, .pinned], laidTests := true, laidLooks := .later }
def FinderRanksUptoCardSaid : Prop := Claim7.holds Tryz.pinned (.plain (OpenSpec.upto finderRanksSpec)) finderRanksUptoCard

/-- THE SECOND FORM's CARD OF 'pandectlaw35.FinderTypes'. -/
def finderTypesUptoCard : Claim7 := { stood := { row := finderTypesUptoRow, standIns := [], harness := (true, "dcab370bff810923f36f2aacf27502e73d99faac3a9d6e23c30e896bd55015f0"), looks := true }, kinds := [], alts := [], laidByText := true, laidKinds := [.data, .data, .data, .data, .sentinel, .sentinel, .pinned], laidTests := true, laidLooks := .later }
def FinderTypesUptoCardSaid : Prop := Claim7.holds Tryz.pinned (.plain (OpenSpec.upto finderTypesSpec)) finderTypesUptoCard

/-- THE SECOND FORM's CARD OF 'pandectlaw35.FinderNames'. -/
def finderNamesUptoCard : Claim7 := { stood := { row := finderNamesUptoRow, standIns := [], harness := (true, "dcab370bff810923f36f2aacf27502e73d99faac3a9d6e23c30e896bd55015f0"), looks := true }, kinds := [], alts := [], laidByText := true, laidKinds := [.data, .data, .data, .data, .sentinel, .sentinel, .pinned], laidTests := true, laidLooks := .later }
def FinderNamesUptoCardSaid : Prop := Claim7.holds Tryz.pinned (.plain (OpenSpec.upto finderNamesSpec)) finderNamesUptoCard

/-- THE SECOND FORM's CARD OF 'pandectlaw35.FinderSound'. -/
def finderSoundUptoCard : Claim7 := { stood := { row := finderSoundUptoRow, standIns := [], harness := (true, "dcab370bff810923f36f2aacf27502e73d99faac3a9d6e23c30e896bd55015f0"), looks := true }, kinds := [], alts := [], laidByText := true, laidKinds := [.data, .data, .data, .data, .sentinel, .sentinel, .pinned], laidTests := true, laidLooks := .later }
def FinderSoundUptoCardSaid : Prop := Claim7.holds Tryz.pinned (.plain (OpenSpec.upto finderSoundSpec)) finderSoundUptoCard

/-- THE SECOND FORM's CARD OF 'pandectlaw35.FinderMost'. -/
def finderMostUptoCard : Claim7 := { stood := { row := finderMostUptoRow, standIns := [], harness := (true, "dcab370bff810923f36f2aacf27502e73d99faac3a9d6e23c30e896bd55015f0"), looks := true }, kinds := [], alts := [], laidByText := true, laidKinds := [.data, .data, .data, .data, .sentinel, .sentinel, .pinned], laidTests := true, laidLooks := .later }
def FinderMostUptoCardSaid : Prop := Claim7.holds Tryz.pinned (.plain (OpenSpec.upto finderMostSpec)) finderMostUptoCard

/-- THE SECOND FORM's CARD OF 'pandectlaw35.FinderWeaker'. -/
def finderWeakerUptoCard : Claim7 := { stood := { row := finderWeakerUptoRow, standIns := [], harness := (true, "dcab370bff810923f36f2aacf27502e73d99faac3a9d6e23c30e896bd55015f0"), looks := true }, kinds := [], alts := [], laidByText := true, laidKinds := [.data, .data, .data, .data, .sentinel, .sentinel, .pinned], laidTests := true, laidLooks := .later }
def FinderWeakerUptoCardSaid : Prop := Claim7.holds Tryz.pinned (.plain (OpenSpec.upto finderWeakerSpec)) finderWeakerUptoCard
end Rows
end Go.Proofs.YticokfpaoiekgaaGreatDoor
