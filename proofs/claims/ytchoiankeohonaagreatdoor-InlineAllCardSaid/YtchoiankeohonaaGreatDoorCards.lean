/-
  DERIVED. GIVEN WITH THE SEED: THE CARDS: each row of YtchoiankeohonaaGreatDoorRows.lean that lists a variable, with what it lists TIED to the program's text (the seventh form; the later family's looks); each row that meets fmt, with fmt's text TOLD by the authors' own Lean function (tested against real Go, not proved from fmt's source: count such statements apart). THE CARD IS WHAT COUNTS. Prove the row's statement (the work); the ties are given (YtchoiankeohonaaGreatDoorTie.lean); close each card by the builder's one call (the guide's Derived/Test/ToyasCard.lean, 'card_holds'). Laid BY PROGRAM, IN A SANDBOX (cutbox-door.mjs). By AI agents, Wed Nov 11 2026. No macro, syntax, notation, axiom, sorry.
-/
import Derived.Test.YtchoiankeohonaaGreatDoorRows
import GoSem.ClaimSeven
namespace Go.Proofs.YtchoiankeohonaaGreatDoor
namespace Rows

/-- THE TIED CARD OF 'rushlightlaw20.InlineAll'. -/
def inlineAllCard : Claim7 := { stood := { row := inlineAllRow, standIns := [], harness := (true, "ceaaf1ec64d8c390812e34bc7fd4c005c4619b450f6972640a74e0fb3fb93874"), looks := false }, kinds := [], alts := [], laidByText := true, laidKinds := [.data, .data, .data], laidTests := true, laidLooks := .later }
def InlineAllCardSaid : Prop := Claim7.holds Tryz.pinned (.plain (OpenSpec.ofChange inlineAllSpec)) inlineAllCard

/-- THE SECOND FORM's CARD OF 'rushlightlaw20.InlineAll'. -/
def inlineAllUptoCard : Claim7 := { stood := { row := inlineAllUptoRow, standIns := [], harness := (true, "ceaaf1ec64d8c390812e34bc7fd4c005c4619b450f6972640a74e0fb3fb93874"), looks := false }, kinds := [], alts := [], laidByText := true, laidKinds := [.data, .data, .data], laidTests := true, laidLooks := .later }
def InlineAllUptoCardSaid : Prop := Claim7.holds Tryz.pinned (.plain (OpenSpec.upto inlineAllSpec)) inlineAllUptoCard
end Rows
end Go.Proofs.YtchoiankeohonaaGreatDoor
