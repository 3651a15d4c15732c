/-
  DERIVED. GIVEN WITH THE SEED: THE CARDS: each row of YtdfcndmgndihjaaGreatDoorRows.lean that lists a variable, with what it lists TIED to the program's text (the seventh form; the later family's looks); each row that meets fmt, with fmt's text TOLD by the authors' own Lean function (tested against real Go, not proved from fmt's source: count such statements apart). THE CARD IS WHAT COUNTS. Prove the row's statement (the work); the ties are given (YtdfcndmgndihjaaGreatDoorTie.lean); close each card by the builder's one call (the guide's Derived/Test/ToyasCard.lean, 'card_holds'). Laid BY PROGRAM, IN A SANDBOX (cutbox-door.mjs). By AI agents, Wed Nov 11 2026. No macro, syntax, notation, axiom, sorry.
-/
import Derived.Test.YtdfcndmgndihjaaGreatDoorRows
import GoSem.ClaimSeven
namespace Go.Proofs.YtdfcndmgndihjaaGreatDoor
namespace Rows

/-- THE TIED CARD OF 'rampartlaw26.PlayMost'. -/
def playMostCard : Claim7 := { stood := { row := playMostRow, standIns := [], harness := (true, "91f7dfa4f5d8160353441edb2a54c7fc3ad628979cd4bd78856425eb4cd8518f"), looks := true }, kinds := [], alts := [], laidByText := true, laidKinds := [.data, .pinned, .pinned], laidTests := true, laidLooks := .later }
def PlayMostCardSaid : Prop := Claim7.holds Tryz.pinned (.plain (OpenSpec.ofChange playMostSpec)) playMostCard

/-- THE SECOND FORM's CARD OF 'rampartlaw26.PlayMost'. -/
def playMostUptoCard : Claim7 := { stood := { row := playMostUptoRow, standIns := [], harness := (true, "91f7dfa4f5d8160353441edb2a54c7fc3ad628979cd4bd78856425eb4cd8518f"), looks := true }, kinds := [], alts := [], laidByText := true, laidKinds := [.data, .pinned, .pinned], laidTests := true, laidLooks := .later }
def PlayMostUptoCardSaid : Prop := Claim7.holds Tryz.pinned (.plain (OpenSpec.upto playMostSpec)) playMostUptoCard
end Rows
end Go.Proofs.YtdfcndmgndihjaaGreatDoor
