/-
  DERIVED. GIVEN WITH THE SEED: THE CARDS: each row of YtpcgjkolkddiaaaDoorRows.lean that lists a variable, with what it lists TIED to the program's text (the seventh form; the later family's looks); each row that meets fmt, with fmt's text TOLD by the authors' own Lean function (tested against real Go, not proved from fmt's source: count such statements apart). THE CARD IS WHAT COUNTS. Prove the row's statement (the work); the ties are given (YtpcgjkolkddiaaaDoorTie.lean); close each card by the builder's one call (the guide's Derived/Test/ToyasCard.lean, 'card_holds'). Laid BY PROGRAM, IN A SANDBOX (cutbox-door.mjs). By AI agents, Wed Nov 11 2026. No macro, syntax, notation, axiom, sorry.
-/
import Derived.Test.YtpcgjkolkddiaaaDoorRows
import GoSem.ClaimSeven
namespace Go.Proofs.YtpcgjkolkddiaaaDoor
namespace Rows

/-- THE TIED CARD OF 'skeinlaw05.PrintNet'. -/
def printNetCard : Claim7 := { stood := { row := printNetRow, standIns := [], harness := (true, "528cf1ddbe645b288278cc4f6be2e298ae502e8ce17caf394df384a261b2cb98"), looks := false }, kinds := [], alts := [], laidByText := true, laidKinds := [.data, .data, .data], laidTests := true, laidLooks := .later }
def PrintNetCardSaid : Prop := Claim7.holds Tryd.pinned (.plain (OpenSpec.ofChange printNetSpec)) printNetCard

/-- THE TIED CARD OF 'skeinlaw05.PrintRule'. -/
def printRuleCard : Claim7 := { stood := { row := printRuleRow, standIns := [], harness := (true, "528cf1ddbe645b288278cc4f6be2e298ae502e8ce17caf394df384a261b2cb98"), looks := false }, kinds := [], alts := [], laidByText := true, laidKinds := [.data, .data, .data], laidTests := true, laidLooks := .later }
def PrintRuleCardSaid : Prop := Claim7.holds Tryd.pinned (.plain (OpenSpec.ofChange printRuleSpec)) printRuleCard

/-- THE SECOND FORM's CARD OF 'skeinlaw05.PrintNet'. -/
def printNetUptoCard : Claim7 := { stood := { row := printNetUptoRow, standIns := [], harness := (true, "528cf1ddbe645b288278cc4f6be2e298ae502e8ce17caf394df384a261b2cb98"), looks := false }, kinds := [], alts := [], laidByText := true, laidKinds := [.data, .data, .data], laidTests := true, laidLooks := .later }
def PrintNetUptoCardSaid : Prop := Claim7.holds Tryd.pinned (.plain (OpenSpec.upto printNetSpec)) printNetUptoCard

/-- THE SECOND FORM's CARD OF 'skeinlaw05.PrintRule'. -/
def printRuleUptoCard : Claim7 := { stood := { row := printRuleUptoRow, standIns := [], harness := (true, "528cf1ddbe645b288278cc4f6be2e298ae502e8ce17caf394df384a261b2cb98"), looks := false }, kinds := [], alts := [], laidByText := true, laidKinds := [.data, .data, .data], laidTests := true, laidLooks := .later }
def PrintRuleUptoCardSaid : Prop := Claim7.holds Tryd.pinned (.plain (OpenSpec.upto printRuleSpec)) printRuleUptoCard
end Rows
end Go.Proofs.YtpcgjkolkddiaaaDoor
