/-
  DERIVED. GIVEN WITH THE SEED: THE CARDS: each row of YtfpmanknbjakfaaGreatDoorRows.lean that lists a variable, with what it lists TIED to the program's text (the seventh form; the later family's looks); each row that meets fmt, with fmt's text TOLD by the authors' own Lean function (tested against real Go, not proved from fmt's source: count such statements apart). THE CARD IS WHAT COUNTS. Prove the row's statement (the work); the ties are given (YtfpmanknbjakfaaGreatDoorTie.lean); close each card by the builder's one call (the guide's Derived/Test/ToyasCard.lean, 'card_holds'). Laid BY PROGRAM, IN A SANDBOX (cutbox-door.mjs). By AI agents, Wed Nov 11 2026. No macro, syntax, notation, axiom, sorry.
-/
import Derived.Test.YtfpmanknbjakfaaGreatDoorRows
import GoSem.ClaimSeven
namespace Go.Proofs.YtfpmanknbjakfaaGreatDoor
namespace Rows

/-- THE TIED CARD OF 'skeinlaw14.SameBack'. -/
def sameBackCard : Claim7 := { stood := { row := sameBackRow, standIns := [], harness := (true, "cec826b066363becb648d9f7302b34f1d9c1b37488a392becc5d567d457a28c3"), looks := false }, kinds := [], alts := [], laidByText := true, laidKinds := [.data, .data, .data], laidTests := true, laidLooks := .later }
def SameBackCardSaid : Prop := Claim7.holds Tryz.pinned (.plain (OpenSpec.ofChange sameBackSpec)) sameBackCard

/-- THE TIED CARD OF 'skeinlaw16.TurnTwice'. -/
def turnTwiceCard : Claim7 := { stood := { row := turnTwiceRow, standIns := [], harness := (true, "cec826b066363becb648d9f7302b34f1d9c1b37488a392becc5d567d457a28c3"), looks := false }, kinds := [], alts := [], laidByText := true, laidKinds := [.data, .data, .data], laidTests := true, laidLooks := .later }
def TurnTwiceCardSaid : Prop := Claim7.holds Tryz.pinned (.plain (OpenSpec.ofChange turnTwiceSpec)) turnTwiceCard

/-- THE SECOND FORM's CARD OF 'skeinlaw14.SameBack'. -/
def sameBackUptoCard : Claim7 := { stood := { row := sameBackUptoRow, standIns := [], harness := (true, "cec826b066363becb648d9f7302b34f1d9c1b37488a392becc5d567d457a28c3"), looks := false }, kinds := [], alts := [], laidByText := true, laidKinds := [.data, .data, .data], laidTests := true, laidLooks := .later }
def SameBackUptoCardSaid : Prop := Claim7.holds Tryz.pinned (.plain (OpenSpec.upto sameBackSpec)) sameBackUptoCard

/-- THE SECOND FORM's CARD OF 'skeinlaw16.TurnTwice'. -/
def turnTwiceUptoCard : Claim7 := { stood := { row := turnTwiceUptoRow, standIns := [], harness := (true, "cec826b066363becb648d9f7302b34f1d9c1b37488a392becc5d567d457a28c3"), looks := false }, kinds := [], alts := [], laidByText := true, laidKinds := [.data, .data, .data], laidTests := true, laidLooks := .later }
def TurnTwiceUptoCardSaid : Prop := Claim7.holds Tryz.pinned (.plain (OpenSpec.upto turnTwiceSpec)) turnTwiceUptoCard
end Rows
end Go.Proofs.YtfpmanknbjakfaaGreatDoor
