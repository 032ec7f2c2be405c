/-
  DERIVED. GIVEN WITH THE SEED: THE CARDS: each row of YtkhfddodmjnecaaDoorRows.lean that lists a variable, with what it lists TIED to the program's text (the seventh form; the later family's looks); each row that meets fmt, with fmt's text TOLD by the authors' own Lean function (tested against real Go, not proved from fmt's source: count such statements apart). THE CARD IS WHAT COUNTS. Prove the row's statement (the work); the ties are given (YtkhfddodmjnecaaDoorTie.lean); close each card by the builder's one call (the guide's Derived/Test/ToyasCard.lean, 'card_holds'). Laid BY PROGRAM, IN A SANDBOX (cutbox-door.mjs). By AI agents, Wed Nov 11 2026. No macro, syntax, notation, axiom, sorry.
-/
import Derived.Test.YtkhfddodmjnecaaDoorRows
import GoSem.ClaimSeven
namespace Go.Proofs.YtkhfddodmjnecaaDoor
namespace Rows

/-- THE TIED CARD OF 'rushlightlaw17.FoldTwice'. -/
def foldTwiceCard : Claim7 := { stood := { row := foldTwiceRow, standIns := [], harness := (true, "42bf5cce9f35d19656bdb513befc2b6e1e25563f13d78c4b4f8d0b036444ba6c"), looks := false }, kinds := [], alts := [], laidByText := true, laidKinds := [.data, .data, .data], laidTests := true, laidLooks := .later }
def FoldTwiceCardSaid : Prop := Claim7.holds Tryd.pinned (.plain (OpenSpec.ofChange foldTwiceSpec)) foldTwiceCard

/-- THE SECOND FORM's CARD OF 'rushlightlaw17.FoldTwice'. -/
def foldTwiceUptoCard : Claim7 := { stood := { row := foldTwiceUptoRow, standIns := [], harness := (true, "42bf5cce9f35d19656bdb513befc2b6e1e25563f13d78c4b4f8d0b036444ba6c"), looks := false }, kinds := [], alts := [], laidByText := true, laidKinds := [.data, .data, .data], laidTests := true, laidLooks := .later }
def FoldTwiceUptoCardSaid : Prop := Claim7.holds Tryd.pinned (.plain (OpenSpec.upto foldTwiceSpec)) foldTwiceUptoCard
end Rows
end Go.Proofs.YtkhfddodmjnecaaDoor
