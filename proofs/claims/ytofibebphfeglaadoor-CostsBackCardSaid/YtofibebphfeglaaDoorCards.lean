/-
  DERIVED. GIVEN WITH THE SEED: THE CARDS: each row of YtofibebphfeglaaDoorRows.lean that lists a variable, with what it lists TIED to the program's text (the seventh form; the later family's looks); each row that meets fmt, with fmt's text TOLD by the authors' own Lean function (tested against real Go, not proved from fmt's source: count such statements apart). THE CARD IS WHAT COUNTS. Prove the row's statement (the work); the ties are given (YtofibebphfeglaaDoorTie.lean); close each card by the builder's one call (the guide's Derived/Test/ToyasCard.lean, 'card_holds'). Laid BY PROGRAM, IN A SANDBOX (cutbox-door.mjs). By AI agents, Wed Nov 11 2026. No macro, syntax, notation, axiom, sorry.
-/
import Derived.Test.YtofibebphfeglaaDoorRows
import GoSem.ClaimSeven
namespace Go.Proofs.YtofibebphfeglaaDoor
namespace Rows

/-- THE TIED CARD OF 'orpimentlaw01.CostsNames'. -/
def costsNamesCard : Claim7 := { stood := { row := costsNamesRow, standIns := [], harness := (true, "dfa8f52a1594210a931050af96ae3c2e9194f86fbe373d3c7e0e3fb0df9e85e6"), looks := true }, kinds := [], alts := [], laidByText := true, laidKinds := [.data], laidTests := true, laidLooks := .later }
def CostsNamesCardSaid : Prop := Claim7.holds Tryd.pinned (.plain (OpenSpec.ofChange costsNamesSpec)) costsNamesCard

/-- THE TIED CARD OF 'orpimentlaw01.CostsTexts'. -/
def costsTextsCard : Claim7 := { stood := { row := costsTextsRow, standIns := [], harness := (true, "dfa8f52a1594210a931050af96ae3c2e9194f86fbe373d3c7e0e3fb0df9e85e6"), looks := true }, kinds := [], alts := [], laidByText := true, laidKinds := [.data, .data, .data, .data, .sentinel, .sentinel, .data, .pinned], laidTests := true, laidLooks := .later }
def CostsTextsCardSaid : Prop := Claim7.holds Tryd.pinned (.plain (OpenSpec.ofChange costsTextsSpec)) costsTextsCard

/-- THE TIED CARD OF 'orpimentlaw01.CostsBack'. -/
def costsBackCard : Claim7 := { stood := { row := costsBackRow, standIns := [], harness := (true, "dfa8f52a1594210a931050af96ae3c2e9194f86fbe373d3c7e0e3fb0df9e85e6"), looks := true }, kinds := [], alts := [], laidByText := true, laidKinds := [.data, .data, .data, .data, .sentinel, .sentinel, .data, .pinned], laidTests := true, laidLooks := .later }
def CostsBackCardSaid : Prop := Claim7.holds Tryd.pinned (.plain (OpenSpec.ofChange costsBackSpec)) costsBackCard

/-- THE SECOND FORM's CARD OF 'orpimentlaw01.CostsNames'. -/
def costsNamesUptoCard : Claim7 := { stood := { row := costsNamesUptoRow, standIns := [], harness := (true, "dfa8f52a1594210a931050af96ae3c2e9194f86fbe373d3c7e0e3fb0df9e85e6"), looks := true }, kinds := [], alts := [], laidByText := true, laidKinds := [.data], laidTests := true, laidLooks := .later }
def CostsNamesUptoCardSaid : Prop := Claim7.holds Tryd.pinned (.plain (OpenSpec.upto costsNamesSpec)) costsNamesUptoCard

/-- THE SECOND FORM's CARD OF 'orpimentlaw01.CostsTexts'. -/
def costsTextsUptoCard : Claim7 := { stood := { row := costsTextsUptoRow, standIns := [], harness := (true, "dfa8f52a1594210a931050af96ae3c2e9194f86fbe373d3c7e0e3fb0df9e85e6"), looks := true }, kinds := [], alts := [], laidByText := true, laidKinds := [.data, .data, .data, .data, .sentinel, .sentinel, .data, .pinned], laidTests := true, laidLooks := .later }
def CostsTextsUptoCardSaid : Prop := Claim7.holds Tryd.pinned (.plain (OpenSpec.upto costsTextsSpec)) costsTextsUptoCard

/-- THE SECOND FORM's CARD OF 'orpimentlaw01.CostsBack'. -/
def costsBackUptoCard : Claim7 := { stood := { row := costsBackUptoRow, standIns := [], harness := (true, "dfa8f52a1594210a931050af96ae3c2e9194f86fbe373d3c7e0e3fb0df9e85e6"), looks := true }, kinds := [], alts := [], laidByText := true, laidKinds := [.data, .data, .data, .data, .sentinel, .sentinel, .data, .pinned], laidTests := true, laidLooks := .later }
def CostsBackUptoCardSaid : Prop := Claim7.holds Tryd.pinned (.plain (OpenSpec.upto costsBackSpec)) costsBackUptoCard
end Rows
end Go.Proofs.YtofibebphfeglaaDoor
