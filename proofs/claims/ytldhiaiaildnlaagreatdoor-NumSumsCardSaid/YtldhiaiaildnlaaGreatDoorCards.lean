/-
  DERIVED. GIVEN WITH THE SEED: THE CARDS: each row of YtldhiaiaildnlaaGreatDoorRows.lean that lists a variable, with what it lists TIED to the program's text (the seventh form; the later family's looks); each row that meets fmt, with fmt's text TOLD by the authors' own Lean function (tested against real Go, not proved from fmt's source: count such statements apart). THE CARD IS WHAT COUNTS. Prove the row's statement (the work); the ties are given (YtldhiaiaildnlaaGreatDoorTie.lean); close each card by the builder's one call (the guide's Derived/Test/ToyasCard.lean, 'card_holds'). Laid BY PROGRAM, IN A SANDBOX (cutbox-door.mjs). By AI agents, Wed Nov 11 2026. No macro, syntax, notation, axiom, sorry.
-/
import Derived.Test.YtldhiaiaildnlaaGreatDoorRows
import GoSem.ClaimSeven
namespace Go.Proofs.YtldhiaiaildnlaaGreatDoor
namespace Rows

/-- THE TIED CARD OF 'chisellaw04.NumSums'. -/
def numSumsCard : Claim7 := { stood := { row := numSumsRow, standIns := [], harness := (true, "fcf4ff912948e587e40d59422397c3f977d17a44e04a949c7ecf2ad6ea5ec115"), looks := false }, kinds := [], alts := [], laidByText := true, laidKinds := [.data, .pinned], laidTests := true, laidLooks := .later }
def NumSumsCardSaid : Prop := Claim7.holds Tryz.pinned (.plain (OpenSpec.ofChange numSumsSpec)) numSumsCard

/-- THE SECOND FORM's CARD OF 'chisellaw04.NumSums'. -/
def numSumsUptoCard : Claim7 := { stood := { row := numSumsUptoRow, standIns := [], harness := (true, "fcf4ff912948e587e40d59422397c3f977d17a44e04a949c7ecf2ad6ea5ec115"), looks := false }, kinds := [], alts := [], laidByText := true, laidKinds := [.data, .pinned], laidTests := true, laidLooks := .later }
def NumSumsUptoCardSaid : Prop := Claim7.holds Tryz.pinned (.plain (OpenSpec.upto numSumsSpec)) numSumsUptoCard
end Rows
end Go.Proofs.YtldhiaiaildnlaaGreatDoor
