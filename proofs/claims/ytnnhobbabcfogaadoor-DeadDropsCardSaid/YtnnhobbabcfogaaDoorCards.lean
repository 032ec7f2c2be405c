/-
  DERIVED. GIVEN WITH THE SEED: THE CARDS: each row of YtnnhobbabcfogaaDoorRows.lean that lists a variable, with what it lists TIED to the program's text (the seventh form; the later family's looks); each row that meets fmt, with fmt's text TOLD by the authors' own Lean function (tested against real Go, not proved from fmt's source: count such statements apart). THE CARD IS WHAT COUNTS. Prove the row's statement (the work); the ties are given (YtnnhobbabcfogaaDoorTie.lean); close each card by the builder's one call (the guide's Derived/Test/ToyasCard.lean, 'card_holds'). Laid BY PROGRAM, IN A SANDBOX (cutbox-door.mjs). By AI agents, Wed Nov 11 2026. No macro, syntax, notation, axiom, sorry.
-/
import Derived.Test.YtnnhobbabcfogaaDoorRows
import GoSem.ClaimSeven
namespace Go.Proofs.YtnnhobbabcfogaaDoor
namespace Rows

/-- THE TIED CARD OF 'rushlightlaw13.IrChecks'. -/
def irChecksCard : Claim7 := { stood := { row := irChecksRow, standIns := [], harness := (true, "4f3ea083895c43ece5e5157602274fc396a48d3f7be2b11a2de89661bdff8be7"), looks := false }, kinds := [], alts := [], laidByText := true, laidKinds := [.data, .data, .data], laidTests := true, laidLooks := .later }
def IrChecksCardSaid : Prop := Claim7.holds Tryd.pinned (.plain (OpenSpec.ofChange irChecksSpec)) irChecksCard

/-- THE TIED CARD OF 'rushlightlaw13.IrTexts'. -/
def irTextsCard : Claim7 := { stood := { row := irTextsRow, standIns := [], harness := (true, "4f3ea083895c43ece5e5157602274fc396a48d3f7be2b11a2de89661bdff8be7"), looks := false }, kinds := [], alts := [], laidByText := true, laidKinds := [.data, .data, .data], laidTests := true, laidLooks := .later }
def IrTextsCardSaid : Prop := Claim7.holds Tryd.pinned (.plain (OpenSpec.ofChange irTextsSpec)) irTextsCard

/-- THE TIED CARD OF 'rushlightlaw13.IrTells'. -/
def irTellsCard : Claim7 := { stood := { row := irTellsRow, standIns := [], harness := (true, "4f3ea083895c43ece5e5157602274fc396a48d3f7be2b11a2de89661bdff8be7"), looks := false }, kinds := [], alts := [], laidByText := true, laidKinds := [.data, .data, .data], laidTests := true, laidLooks := .later }
def IrTellsCardSaid : Prop := Claim7.holds Tryd.pinned (.plain (OpenSpec.ofChange irTellsSpec)) irTellsCard

/-- THE TIED CARD OF 'rushlightlaw19.ShapeThreads'. -/
def shapeThreadsCard : Claim7 := { stood := { row := shapeThreadsRow, standIns := [], harness := (true, "4f3ea083895c43ece5e5157602274fc396a48d3f7be2b11a2de89661bdff8be7"), looks := false }, kinds := [], alts := [], laidByText := true, laidKinds := [.data, .data, .data], laidTests := true, laidLooks := .later }
def ShapeThreadsCardSaid : Prop := Claim7.holds Tryd.pinned (.plain (OpenSpec.ofChange shapeThreadsSpec)) shapeThreadsCard

/-- THE TIED CARD OF 'rushlightlaw19.ShapePrunes'. -/
def shapePrunesCard : Claim7 := { stood := { row := shapePrunesRow, standIns := [], harness := (true, "4f3ea083895c43ece5e5157602274fc396a48d3f7be2b11a2de89661bdff8be7"), looks := false }, kinds := [], alts := [], laidByText := true, laidKinds := [.data, .data, .data], laidTests := true, laidLooks := .later }
def ShapePrunesCardSaid : Prop := Claim7.holds Tryd.pinned (.plain (OpenSpec.ofChange shapePrunesSpec)) shapePrunesCard

/-- THE TIED CARD OF 'rushlightlaw18.DeadDrops'. -/
def deadDropsCard : Claim7 := { stood := { row := deadDropsRow, standIns := [], harness := (true, "4f3ea083895c43ece5e5157602274fc396a48d3f7be2b11a2de89661bdff8be7"), looks := false }, kinds := [], alts := [], laidByText := true, laidKinds := [.data, .data, .data], laidTests := true, laidLooks := .later }
def DeadDropsCardSaid : Prop := Claim7.holds Tryd.pinned (.plain (OpenSpec.ofChange deadDropsSpec)) deadDropsCard

/-- THE SECOND FORM's CARD OF 'rushlightlaw13.IrChecks'. -/
def irChecksUptoCard : Claim7 := { stood := { row := irChecksUptoRow, standIns := [], harness := (true, "4f3ea083895c43ece5e5157602274fc396a48d3f7be2b11a2de89661bdff8be7"), looks := false }, kinds := [], alts := [], laidByText := true, laidKinds := [.data, .data, .data], laidTests := true, laidLooks := .later }
def IrChecksUptoCardSaid : Prop := Claim7.holds Tryd.pinned (.plain (OpenSpec.upto irChecksSpec)) irChecksUptoCard

/-- THE SECOND FORM's CARD OF 'rushlightlaw13.IrTexts'. -/
def irTextsUptoCard : Claim7 := { stood := { row := irTextsUptoRow, standIns := [], harness := (true, "4f3ea083895c43ece5e5157602274fc396a48d3f7be2b11a2de89661bdff8be7"), looks := false }, kinds := [], alts := [], laidByText := true, laidKinds := [.data, .data, .data], laidTests := true, laidLooks := .later }
def IrTextsUptoCardSaid : Prop := Claim7.holds Tryd.pinned (.plain (OpenSpec.upto irTextsSpec)) irTextsUptoCard

/-- THE SECOND FORM's CARD OF 'rushlightlaw13.IrTells'. -/
def irTellsUptoCard : Claim7 := { stood := { row := irTellsUptoRow, standIns := [], harness := (true, "4f3ea083895c43ece5e5157602274fc396a48d3f7be2b11a2de89661bdff8be7"), looks := false }, kinds := [], alts := [], laidByText := true, laidKinds := [.data, .data, .data], laidTests := true, laidLooks := .later }
def IrTellsUptoCardSaid : Prop := Claim7.holds Tryd.pinned (.plain (OpenSpec.upto irTellsSpec)) irTellsUptoCard

/-- THE SECOND FORM's CARD OF 'rushlightlaw19.ShapeThreads'. -/
def shapeThreadsUptoCard : Claim7 := { stood := { row := shapeThreadsUptoRow, standIns := [], harness := (true, "4f3ea083895c43ece5e5157602274fc396a48d3f7be2b11a2de89661bdff8be7"), looks := false }, kinds := [], alts := [], laidByText := true, laidKinds := [.data, .data, .data], laidTests := true, laidLooks := .later }
def ShapeThreadsUptoCardSaid : Prop := Claim7.holds Tryd.pinned (.plain (OpenSpec.upto shapeThreadsSpec)) shapeThreadsUptoCard

/-- THE SECOND FORM's CARD OF 'rushlightlaw19.ShapePrunes'. -/
def shapePrunesUptoCard : Claim7 := { stood := { row := shapePrunesUptoRow, standIns := [], harness := (true, "4f3ea083895c43ece5e5157602274fc396a48d3f7be2b11a2de89661bdff8be7"), looks := false }, kinds := [], alts := [], laidByText := true, laidKinds := [.data, .data, .data], laidTests := true, laidLooks := .later }
def ShapePrunesUptoCardSaid : Prop := Claim7.holds Tryd.pinned (.plain (OpenSpec.upto shapePrunesSpec)) shapePrunesUptoCard

/-- THE SECOND FORM's CARD OF 'rushlightlaw18.DeadDrops'. -/
def deadDropsUptoCard : Claim7 := { stood := { row := deadDropsUptoRow, standIns := [], harness := (true, "4f3ea083895c43ece5e5157602274fc396a48d3f7be2b11a2de89661bdff8be7"), looks := false }, kinds := [], alts := [], laidByText := true, laidKinds := [.data, .data, .data], laidTests := true, laidLooks := .later }
def DeadDropsUptoCardSaid : Prop := Claim7.holds Tryd.pinned (.plain (OpenSpec.upto deadDropsSpec)) deadDropsUptoCard
end Rows
end Go.Proofs.YtnnhobbabcfogaaDoor
