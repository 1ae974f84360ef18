/-
  DERIVED. GIVEN WITH THE SEED: THE CARDS: each row of YtfhgobimlckfeaaGreatDoorRows.lean that lists a variable, with what it lists TIED to the program's text (the seventh form; the later family's looks); each row that meets fmt, with fmt's text TOLD by the authors' own Lean function (tested against real Go, not proved from fmt's source: count such statements apart). THE CARD IS WHAT COUNTS. Prove the row's statement (the work); the ties are given (YtfhgobimlckfeaaGreatDoorTie.lean); close each card by the builder's one call (the guide's Derived/Test/ToyasCard.lean, 'card_holds'). Laid BY PROGRAM, IN A SANDBOX (cutbox-door.mjs). By AI agents, Wed Nov 11 2026. No macro, syntax, notation, axiom, sorry.
-/
import Derived.Test.YtfhgobimlckfeaaGreatDoorRows
import GoSem.ClaimSeven
namespace Go.Proofs.YtfhgobimlckfeaaGreatDoor
namespace Rows

/-- THE TIED CARD OF 'skeinlaw17.BookNil'. -/
def bookNilCard : Claim7 := { stood := { row := bookNilRow, standIns := [], harness := (true, "d439fba767a69309cc079d07742a486820907b6d514803bd58be80544a214154"), looks := true }, kinds := [], alts := [], laidByText := true, laidKinds := [.data, .data, .data], laidTests := true, laidLooks := .later }
def BookNilCardSaid : Prop := Claim7.holds Tryz.pinned (.plain (OpenSpec.ofChange bookNilSpec)) bookNilCard

/-- THE TIED CARD OF 'skeinlaw30.SessionNil'. -/
def sessionNilCard : Claim7 := { stood := { row := sessionNilRow, standIns := [], harness := (true, "d439fba767a69309cc079d07742a486820907b6d514803bd58be80544a214154"), looks := true }, kinds := [], alts := [], laidByText := true, laidKinds := [.data, .data, .data], laidTests := true, laidLooks := .later }
def SessionNilCardSaid : Prop := Claim7.holds Tryz.pinned (.plain (OpenSpec.ofChange sessionNilSpec)) sessionNilCard

/-- THE SECOND FORM's CARD OF 'skeinlaw17.BookNil'. -/
def bookNilUptoCard : Claim7 := { stood := { row := bookNilUptoRow, standIns := [], harness := (true, "d439fba767a69309cc079d07742a486820907b6d514803bd58be80544a214154"), looks := true }, kinds := [], alts := [], laidByText := true, laidKinds := [.data, .data, .data], laidTests := true, laidLooks := .later }
def BookNilUptoCardSaid : Prop := Claim7.holds Tryz.pinned (.plain (OpenSpec.upto bookNilSpec)) bookNilUptoCard

/-- THE SECOND FORM's CARD OF 'skeinlaw30.SessionNil'. -/
def sessionNilUptoCard : Claim7 := { stood := { row := sessionNilUptoRow, standIns := [], harness := (true, "d439fba767a69309cc079d07742a486820907b6d514803bd58be80544a214154"), looks := true }, kinds := [], alts := [], laidByText := true, laidKinds := [.data, .data, .data], laidTests := true, laidLooks := .later }
def SessionNilUptoCardSaid : Prop := Claim7.holds Tryz.pinned (.plain (OpenSpec.upto sessionNilSpec)) sessionNilUptoCard
end Rows
end Go.Proofs.YtfhgobimlckfeaaGreatDoor
