/-
  DERIVED. GIVEN WITH THE SEED: THE CARDS: each row of YthccppldpfddjaaDoorRows.lean that lists a variable, with what it lists TIED to the program's text (the seventh form; the later family's looks); each row that meets fmt, with fmt's text TOLD by the authors' own Lean function (tested against real Go, not proved from fmt's source: count such statements apart). THE CARD IS WHAT COUNTS. Prove the row's statement (the work); the ties are given (YthccppldpfddjaaDoorTie.lean); close each card by the builder's one call (the guide's Derived/Test/ToyasCard.lean, 'card_holds'). Laid BY PROGRAM, IN A SANDBOX (cutbox-door.mjs). By AI agents, Wed Nov 11 2026. No macro, syntax, notation, axiom, sorry.
-/
import Derived.Test.YthccppldpfddjaaDoorRows
import GoSem.ClaimSeven
namespace Go.Proofs.YthccppldpfddjaaDoor
namespace Rows

/-- THE TIED CARD OF 'orpimentlaw16.AbilitiesParts'. -/
def abilitiesPartsCard : Claim7 := { stood := { row := abilitiesPartsRow, standIns := [], harness := (true, "2f7e6dc7b48a318716b7de95799bccbf46036f976f3bfef9161f66c3ad67fac7"), looks := false }, kinds := [], alts := [], laidByText := true, laidKinds := [.data, .data, .data, .funcs, .widerDeep], laidTests := true, laidLooks := .later }
def AbilitiesPartsCardSaid : Prop := Claim7.holds Tryd.pinned (.plain (OpenSpec.ofChange abilitiesPartsSpec)) abilitiesPartsCard

/-- THE TIED CARD OF 'orpimentlaw16.AbilitiesLocked'. -/
def abilitiesLockedCard : Claim7 := { stood := { row := abilitiesLockedRow, standIns := [], harness := (true, "2f7e6dc7b48a318716b7de95799bccbf46036f976f3bfef9161f66c3ad67fac7"), looks := false }, kinds := [], alts := [], laidByText := true, laidKinds := [.data, .data, .data, .funcs, .widerDeep], laidTests := true, laidLooks := .later }
def AbilitiesLockedCardSaid : Prop := Claim7.holds Tryd.pinned (.plain (OpenSpec.ofChange abilitiesLockedSpec)) abilitiesLockedCard

/-- THE TIED CARD OF 'orpimentlaw16.AbilitiesWithin'. -/
def abilitiesWithinCard : Claim7 := { stood := { row := abilitiesWithinRow, standIns := [], harness := (true, "2f7e6dc7b48a318716b7de95799bccbf46036f976f3bfef9161f66c3ad67fac7"), looks := false }, kinds := [], alts := [], laidByText := true, laidKinds := [.data, .data, .data, .funcs, .widerDeep], laidTests := true, laidLooks := .later }
def AbilitiesWithinCardSaid : Prop := Claim7.holds Tryd.pinned (.plain (OpenSpec.ofChange abilitiesWithinSpec)) abilitiesWithinCard

/-- THE TIED CARD OF 'orpimentlaw16.AbilitiesRuns'. -/
def abilitiesRunsCard : Claim7 := { stood := { row := abilitiesRunsRow, standIns := [], harness := (true, "2f7e6dc7b48a318716b7de95799bccbf46036f976f3bfef9161f66c3ad67fac7"), looks := false }, kinds := [], alts := [], laidByText := true, laidKinds := [.data, .data, .data, .funcs, .widerDeep], laidTests := true, laidLooks := .later }
def AbilitiesRunsCardSaid : Prop := Claim7.holds Tryd.pinned (.plain (OpenSpec.ofChange abilitiesRunsSpec)) abilitiesRunsCard

/-- THE TIED CARD OF 'orpimentlaw16.AbilitiesLimits'. -/
def abilitiesLimitsCard : Claim7 := { stood := { row := abilitiesLimitsRow, standIns := [], harness := (true, "2f7e6dc7b48a318716b7de95799bccbf46036f976f3bfef9161f66c3ad67fac7"), looks := false }, kinds := [], alts := [], laidByText := true, laidKinds := [.data, .data, .data, .funcs, .widerDeep], laidTests := true, laidLooks := .later }
def AbilitiesLimitsCardSaid : Prop := Claim7.holds Tryd.pinned (.plain (OpenSpec.ofChange abilitiesLimitsSpec)) abilitiesLimitsCard

/-- THE TIED CARD OF 'orpimentlaw16.AbilitiesNil'. -/
def abilitiesNilCard : Claim7 := { stood := { row := abilitiesNilRow, standIns := [], harness := (true, "2f7e6dc7b48a318716b7de95799bccbf46036f976f3bfef9161f66c3ad67fac7"), looks := false }, kinds := [], alts := [], laidByText := true, laidKinds := [.data, .data, .data, .funcs, .widerDeep], laidTests := true, laidLooks := .later }
def AbilitiesNilCardSaid : Prop := Claim7.holds Tryd.pinned (.plain (OpenSpec.ofChange abilitiesNilSpec)) abilitiesNilCard

/-- THE SECOND FORM's CARD OF 'orpimentlaw16.AbilitiesParts'. -/
def abilitiesPartsUptoCard : Claim7 := { stood := { row := abilitiesPartsUptoRow, standIns := [], harness := (true, "2f7e6dc7b48a318716b7de95799bccbf46036f976f3bfef9161f66c3ad67fac7"), looks := false }, kinds := [], alts := [], laidByText := true, laidKinds := [.data, .data, .data, .funcs, .widerDeep], laidTests := true, laidLooks := .later }
def AbilitiesPartsUptoCardSaid : Prop := Claim7.holds Tryd.pinned (.plain (OpenSpec.upto abilitiesPartsSpec)) abilitiesPartsUptoCard

/-- THE SECOND FORM's CARD OF 'orpimentlaw16.AbilitiesLocked'. -/
def abilitiesLockedUptoCard : Claim7 := { stood := { row := abilitiesLockedUptoRow, standIns := [], harness := (true, "2f7e6dc7b48a318716b7de95799bccbf46036f976f3bfef9161f66c3ad67fac7"), looks := false }, kinds := [], alts := [], laidByText := true, laidKinds := [.data, .data, .data, .funcs, .widerDeep], laidTests := true, laidLooks := .later }
def AbilitiesLockedUptoCardSaid : Prop := Claim7.holds Tryd.pinned (.plain (OpenSpec.upto abilitiesLockedSpec)) abilitiesLockedUptoCard

/-- THE SECOND FORM's CARD OF 'orpimentlaw16.AbilitiesWithin'. -/
def abilitiesWithinUptoCard : Claim7 := { stood := { row := abilitiesWithinUptoRow, standIns := [], harness := (true, "2f7e6dc7b48a318716b7de95799bccbf46036f976f3bfef9161f66c3ad67fac7"), looks := false }, kinds := [], alts := [], laidByText := true, laidKinds := [.data, .data, .data, .funcs, .widerDeep], laidTests := true, laidLooks := .later }
def AbilitiesWithinUptoCardSaid : Prop := Claim7.holds Tryd.pinned (.plain (OpenSpec.upto abilitiesWithinSpec)) abilitiesWithinUptoCard

/-- THE SECOND FORM's CARD OF 'orpimentlaw16.AbilitiesRuns'. -/
def abilitiesRunsUptoCard : Claim7 := { stood := { row := abilitiesRunsUptoRow, standIns := [], harness := (true, "2f7e6dc7b48a318716b7de95799bccbf46036f976f3bfef9161f66c3ad67fac7"), looks := false }, kinds := [], alts := [], laidByText := true, laidKinds := [.data, .data, .data, .funcs, .widerDeep], laidTests := true, laidLooks := .later }
def AbilitiesRunsUptoCardSaid : Prop := Claim7.holds Tryd.pinned (.plain (OpenSpec.upto abilitiesRunsSpec)) abilitiesRunsUptoCard

/-- THE SECOND FORM's CARD OF 'orpimentlaw16.AbilitiesLimits'. -/
def abilitiesLimitsUptoCard : Claim7 := { stood := { row := abilitiesLimitsUptoRow, standIns := [], harness := (true, "2f7e6dc7b48a318716b7de95799bccbf46036f976f3bfef9161f66c3ad67fac7"), looks := false }, kinds := [], alts := [], laidByText := true, laidKinds := [.data, .data, .data, .funcs, .widerDeep], laidTests := true, laidLooks := .later }
def AbilitiesLimitsUptoCardSaid : Prop := Claim7.holds Tryd.pinned (.plain (OpenSpec.upto abilitiesLimitsSpec)) abilitiesLimitsUptoCard

/-- THE SECOND FORM's CARD OF 'orpimentlaw16.AbilitiesNil'. -/
def abilitiesNilUptoCard : Claim7 := { stood := { row := abilitiesNilUptoRow, standIns := [], harness := (true, "2f7e6dc7b48a318716b7de95799bccbf46036f976f3bfef9161f66c3ad67fac7"), looks := false }, kinds := [], alts := [], laidByText := true, laidKinds := [.data, .data, .data, .funcs, .widerDeep], laidTests := true, laidLooks := .later }
def AbilitiesNilUptoCardSaid : Prop := Claim7.holds Tryd.pinned (.plain (OpenSpec.upto abilitiesNilSpec)) abilitiesNilUptoCard
end Rows
end Go.Proofs.YthccppldpfddjaaDoor
