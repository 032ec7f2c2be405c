/-
  DERIVED. GIVEN WITH THE SEED: THE CARDS: each row of YtkhfddodmjnecaaGreatDoorRows.lean that lists a variable, with what it lists TIED to the program's text (the seventh form; the later family's looks); each row that meets fmt, with fmt's text TOLD by the authors' own Lean function (tested against real Go, not proved from fmt's source: count such statements apart). THE CARD IS WHAT COUNTS. Prove the row's statement (the work); the ties are given (YtkhfddodmjnecaaGreatDoorTie.lean); close each card by the builder's one call (the guide's Derived/Test/ToyasCard.lean, 'card_holds'). Laid BY PROGRAM, IN A SANDBOX (cutbox-door.mjs). By AI agents, Wed Nov 11 2026. No macro, syntax, notation, axiom, sorry.
-/
import Derived.Test.YtkhfddodmjnecaaGreatDoorRows
import GoSem.ClaimSeven
namespace Go.Proofs.YtkhfddodmjnecaaGreatDoor
namespace Rows

/-- THE TIED CARD OF 'rushlightlaw17.FoldDoes'. -/
def foldDoesCard : Claim7 := { stood := { row := foldDoesRow, standIns := [], harness := (true, "50660b4a92dfac3c1bb0e7a5708a439dbdf1c1a4bb5b90dfffe768c8c2cd94f5"), looks := false }, kinds := [], alts := [], laidByText := true, laidKinds := [.data, .data, .data], laidTests := true, laidLooks := .later }
def FoldDoesCardSaid : Prop := Claim7.holds Tryz.pinned (.plain (OpenSpec.ofChange foldDoesSpec)) foldDoesCard

/-- THE TIED CARD OF 'rushlightlaw17.FoldKnown'. -/
def foldKnownCard : Claim7 := { stood := { row := foldKnownRow, standIns := [], harness := (true, "50660b4a92dfac3c1bb0e7a5708a439dbdf1c1a4bb5b90dfffe768c8c2cd94f5"), looks := false }, kinds := [], alts := [], laidByText := true, laidKinds := [.data, .data, .data], laidTests := true, laidLooks := .later }
def FoldKnownCardSaid : Prop := Claim7.holds Tryz.pinned (.plain (OpenSpec.ofChange foldKnownSpec)) foldKnownCard

/-- THE TIED CARD OF 'rushlightlaw20.InlineAll'. -/
def inlineAllCard : Claim7 := { stood := { row := inlineAllRow, standIns := [], harness := (true, "50660b4a92dfac3c1bb0e7a5708a439dbdf1c1a4bb5b90dfffe768c8c2cd94f5"), looks := false }, kinds := [], alts := [], laidByText := true, laidKinds := [.data, .data, .data], laidTests := true, laidLooks := .later }
def InlineAllCardSaid : Prop := Claim7.holds Tryz.pinned (.plain (OpenSpec.ofChange inlineAllSpec)) inlineAllCard

/-- THE SECOND FORM's CARD OF 'rushlightlaw17.FoldDoes'. -/
def foldDoesUptoCard : Claim7 := { stood := { row := foldDoesUptoRow, standIns := [], harness := (true, "50660b4a92dfac3c1bb0e7a5708a439dbdf1c1a4bb5b90dfffe768c8c2cd94f5"), looks := false }, kinds := [], alts := [], laidByText := true, laidKinds := [.data, .data, .data], laidTests := true, laidLooks := .later }
def FoldDoesUptoCardSaid : Prop := Claim7.holds Tryz.pinned (.plain (OpenSpec.upto foldDoesSpec)) foldDoesUptoCard

/-- THE SECOND FORM's CARD OF 'rushlightlaw17.FoldKnown'. -/
def foldKnownUptoCard : Claim7 := { stood := { row := foldKnownUptoRow, standIns := [], harness := (true, "50660b4a92dfac3c1bb0e7a5708a439dbdf1c1a4bb5b90dfffe768c8c2cd94f5"), looks := false }, kinds := [], alts := [], laidByText := true, laidKinds := [.data, .data, .data], laidTests := true, laidLooks := .later }
def FoldKnownUptoCardSaid : Prop := Claim7.holds Tryz.pinned (.plain (OpenSpec.upto foldKnownSpec)) foldKnownUptoCard

/-- THE SECOND FORM's CARD OF 'rushlightlaw20.InlineAll'. -/
def inlineAllUptoCard : Claim7 := { stood := { row := inlineAllUptoRow, standIns := [], harness := (true, "50660b4a92dfac3c1bb0e7a5708a439dbdf1c1a4bb5b90dfffe768c8c2cd94f5"), looks := false }, kinds := [], alts := [], laidByText := true, laidKinds := [.data, .data, .data], laidTests := true, laidLooks := .later }
def InlineAllUptoCardSaid : Prop := Claim7.holds Tryz.pinned (.plain (OpenSpec.upto inlineAllSpec)) inlineAllUptoCard
end Rows
end Go.Proofs.YtkhfddodmjnecaaGreatDoor
