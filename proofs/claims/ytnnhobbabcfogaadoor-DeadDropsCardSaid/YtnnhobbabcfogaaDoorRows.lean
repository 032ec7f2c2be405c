/-
  NARROWER THAN 'FOR EVERY INPUT', by the rows' own cells (each row's printed sentence says how): IrChecks: laid · IrTexts: laid · IrTells: laid · ShapeThreads: laid · ShapePrunes: laid · DeadDrops: laid.
  DERIVED. THE GIVEN ROWS OF THIS SEAT. 6 by the template 'for every input the law returns true; each argument reads behind the call as it read before'; 0 by the template 'total and deterministic' (their statements: YtnnhobbabcfogaaDoorTotals.lean).
  GIVEN WITH THE SEED: the statements are not yours to turn. If you find one false, say at which input.
  Laid BY PROGRAM, IN A SANDBOX (cutbox-rows.mjs): the forced cells as the released guide's own fill.sh prints them over the translation 2a0b6cfba2714003… (all of the seat's roots in one cut). By AI agents, Wed Nov 11 2026. No macro, syntax, notation, axiom, sorry.
-/
import Derived.Test.YtnnhobbabcfogaaDoorChecked
import GoSem.Claim
import GoSem.ClaimJoined
import GoSem.ClaimMapViews
import Derived.JoinedTies
import Derived.KernelRfl
namespace Go.Proofs.YtnnhobbabcfogaaDoor
/- THE CELL 'sum', in the pinned program and in every row, IS THE sha256 OF THE DUMP (.gsa) THAT YtnnhobbabcfogaaDoorProg.lean LOADS. Nothing in Lean hashes anything: it is a label: what it is worth is what the hold of that sum in a sandbox is worth. -/
noncomputable def Tryd.pinned : Pinned := { name := "ytnnhobbabcfogaadoor", sum := "2a0b6cfba271400307e4548cfbf0cc3d25d25e1b729e9b0a2854c74c449b9fcb", checked := Tryd.checked }
namespace Rows
def none {H : Type} : Left H := { results := [], args := [] }

/- WHAT THE LISTED PACKAGE-LEVEL VARIABLES READ AS WHEN THE CALL BEGINS. Each datum BY PROGRAM (the guide's laid-datum.mjs) off the statement by which the dump's own 'gosem.cut.vars' lays the variable. In a bare row this is a premise. The card (YtnnhobbabcfogaaDoorCards.lean) ties it to the program's text. -/
def laid_math_bits_deBruijn32tab {H : Type} : DataW H := .agg [.lit (.int .u8 0), .lit (.int .u8 1), .lit (.int .u8 28), .lit (.int .u8 2), .lit (.int .u8 29), .lit (.int .u8 14), .lit (.int .u8 24), .lit (.int .u8 3), .lit (.int .u8 30), .lit (.int .u8 22), .lit (.int .u8 20), .lit (.int .u8 15), .lit (.int .u8 25), .lit (.int .u8 17), .lit (.int .u8 4), .lit (.int .u8 8), .lit (.int .u8 31), .lit (.int .u8 27), .lit (.int .u8 13), .lit (.int .u8 23), .lit (.int .u8 21), .lit (.int .u8 19), .lit (.int .u8 16), .lit (.int .u8 7), .lit (.int .u8 26), .lit (.int .u8 12), .lit (.int .u8 18), .lit (.int .u8 6), .lit (.int .u8 11), .lit (.int .u8 5), .lit (.int .u8 10), .lit (.int .u8 9)]
def laid_math_bits_deBruijn64tab {H : Type} : DataW H := .agg [.lit (.int .u8 0), .lit (.int .u8 1), .lit (.int .u8 56), .lit (.int .u8 2), .lit (.int .u8 57), .lit (.int .u8 49), .lit (.int .u8 28), .lit (.int .u8 3), .lit (.int .u8 61), .lit (.int .u8 58), .lit (.int .u8 42), .lit (.int .u8 50), .lit (.int .u8 38), .lit (.int .u8 29), .lit (.int .u8 17), .lit (.int .u8 4), .lit (.int .u8 62), .lit (.int .u8 47), .lit (.int .u8 59), .lit (.int .u8 36), .lit (.int .u8 45), .lit (.int .u8 43), .lit (.int .u8 51), .lit (.int .u8 22), .lit (.int .u8 53), .lit (.int .u8 39), .lit (.int .u8 33), .lit (.int .u8 30), .lit (.int .u8 24), .lit (.int .u8 18), .lit (.int .u8 12), .lit (.int .u8 5), .lit (.int .u8 63), .lit (.int .u8 55), .lit (.int .u8 48), .lit (.int .u8 27), .lit (.int .u8 60), .lit (.int .u8 41), .lit (.int .u8 37), .lit (.int .u8 16), .lit (.int .u8 46), .lit (.int .u8 35), .lit (.int .u8 44), .lit (.int .u8 21), .lit (.int .u8 52), .lit (.int .u8 32), .lit (.int .u8 23), .lit (.int .u8 11), .lit (.int .u8 54), .lit (.int .u8 26), .lit (.int .u8 40), .lit (.int .u8 15), .lit (.int .u8 34), .lit (.int .u8 20), .lit (.int .u8 31), .lit (.int .u8 10), .lit (.int .u8 25), .lit (.int .u8 14), .lit (.int .u8 19), .lit (.int .u8 9), .lit (.int .u8 13), .lit (.int .u8 8), .lit (.int .u8 7), .lit (.int .u8 6)]
def laid_internal_strconv_uint64pow10 {H : Type} : DataW H := .agg [.lit (.int .u64 1), .lit (.int .u64 10), .lit (.int .u64 100), .lit (.int .u64 1000), .lit (.int .u64 10000), .lit (.int .u64 100000), .lit (.int .u64 1000000), .lit (.int .u64 10000000), .lit (.int .u64 100000000), .lit (.int .u64 1000000000), .lit (.int .u64 10000000000), .lit (.int .u64 100000000000), .lit (.int .u64 1000000000000), .lit (.int .u64 10000000000000), .lit (.int .u64 100000000000000), .lit (.int .u64 1000000000000000), .lit (.int .u64 10000000000000000), .lit (.int .u64 100000000000000000), .lit (.int .u64 1000000000000000000), .lit (.int .u64 10000000000000000000)]

/-- 'rushlightlaw13.IrChecks': WHATEVER THE INPUT: true; the input reads as it did. -/
def irChecksSpec : ChangeSpec := { name := "irChecks", fn := fun _ => fun
  | [d1, d2] => { results := [.lit (.bool true)], args := [d1, d2] }
  | _ => none }
def irChecksRow : OpenClaim := { program := "ytnnhobbabcfogaadoor", sum := "2a0b6cfba271400307e4548cfbf0cc3d25d25e1b729e9b0a2854c74c449b9fcb", func := "rushlight/rushlightlaw13.IrChecks", spec := "irChecks", inPlace := ["internal/abi.NoEscape"], named := ["internal/strconv.uint64pow10", "math/bits.deBruijn32tab", "math/bits.deBruijn64tab"], apart := false, laid := [("math/bits.deBruijn32tab", laid_math_bits_deBruijn32tab), ("math/bits.deBruijn64tab", laid_math_bits_deBruijn64tab), ("internal/strconv.uint64pow10", laid_internal_strconv_uint64pow10)] }
def IrChecksSaid : Prop := irChecksRow.holds Tryd.pinned (OpenSpec.ofChange irChecksSpec)

/-- ITS FALSE NEIGHBOUR: 'it returns false'. Refute it at one input. -/
def irChecksWrong : ChangeSpec := { name := "irChecks", fn := fun _ => fun
  | [d1, d2] => { results := [.lit (.bool false)], args := [d1, d2] }
  | _ => none }
def IrChecksWrongFalsely : Prop := irChecksRow.holds Tryd.pinned (OpenSpec.ofChange irChecksWrong)

/-- 'rushlightlaw13.IrTexts': WHATEVER THE INPUT: true; the input reads as it did. -/
def irTextsSpec : ChangeSpec := { name := "irTexts", fn := fun _ => fun
  | [d] => { results := [.lit (.bool true)], args := [d] }
  | _ => none }
def irTextsRow : OpenClaim := { program := "ytnnhobbabcfogaadoor", sum := "2a0b6cfba271400307e4548cfbf0cc3d25d25e1b729e9b0a2854c74c449b9fcb", func := "rushlight/rushlightlaw13.IrTexts", spec := "irTexts", inPlace := ["internal/abi.NoEscape"], recurses := true, named := ["internal/strconv.uint64pow10", "math/bits.deBruijn32tab", "math/bits.deBruijn64tab"], apart := false, laid := [("math/bits.deBruijn32tab", laid_math_bits_deBruijn32tab), ("math/bits.deBruijn64tab", laid_math_bits_deBruijn64tab), ("internal/strconv.uint64pow10", laid_internal_strconv_uint64pow10)] }
def IrTextsSaid : Prop := irTextsRow.holds Tryd.pinned (OpenSpec.ofChange irTextsSpec)

/-- ITS FALSE NEIGHBOUR: 'it returns false'. Refute it at one input. -/
def irTextsWrong : ChangeSpec := { name := "irTexts", fn := fun _ => fun
  | [d] => { results := [.lit (.bool false)], args := [d] }
  | _ => none }
def IrTextsWrongFalsely : Prop := irTextsRow.holds Tryd.pinned (OpenSpec.ofChange irTextsWrong)

/-- 'rushlightlaw13.IrTells': WHATEVER THE INPUT: true; the input reads as it did. -/
def irTellsSpec : ChangeSpec := { name := "irTells", fn := fun _ => fun
  | [d1, d2] => { results := [.lit (.bool true)], args := [d1, d2] }
  | _ => none }
def irTellsRow : OpenClaim := { program := "ytnnhobbabcfogaadoor", sum := "2a0b6cfba271400307e4548cfbf0cc3d25d25e1b729e9b0a2854c74c449b9fcb", func := "rushlight/rushlightlaw13.IrTells", spec := "irTells", inPlace := ["internal/abi.NoEscape"], named := ["internal/strconv.uint64pow10", "math/bits.deBruijn32tab", "math/bits.deBruijn64tab"], apart := false, laid := [("math/bits.deBruijn32tab", laid_math_bits_deBruijn32tab), ("math/bits.deBruijn64tab", laid_math_bits_deBruijn64tab), ("internal/strconv.uint64pow10", laid_internal_strconv_uint64pow10)] }
def IrTellsSaid : Prop := irTellsRow.holds Tryd.pinned (OpenSpec.ofChange irTellsSpec)

/-- ITS FALSE NEIGHBOUR: 'it returns false'. Refute it at one input. -/
def irTellsWrong : ChangeSpec := { name := "irTells", fn := fun _ => fun
  | [d1, d2] => { results := [.lit (.bool false)], args := [d1, d2] }
  | _ => none }
def IrTellsWrongFalsely : Prop := irTellsRow.holds Tryd.pinned (OpenSpec.ofChange irTellsWrong)

/-- 'rushlightlaw19.ShapeThreads': WHATEVER THE INPUT: true; the input reads as it did. -/
def shapeThreadsSpec : ChangeSpec := { name := "shapeThreads", fn := fun _ => fun
  | [d1, d2] => { results := [.lit (.bool true)], args := [d1, d2] }
  | _ => none }
def shapeThreadsRow : OpenClaim := { program := "ytnnhobbabcfogaadoor", sum := "2a0b6cfba271400307e4548cfbf0cc3d25d25e1b729e9b0a2854c74c449b9fcb", func := "rushlight/rushlightlaw19.ShapeThreads", spec := "shapeThreads", inPlace := ["internal/abi.NoEscape"], unfollowed := true, recurses := true, named := ["internal/strconv.uint64pow10", "math/bits.deBruijn32tab", "math/bits.deBruijn64tab"], apart := false, laid := [("math/bits.deBruijn32tab", laid_math_bits_deBruijn32tab), ("math/bits.deBruijn64tab", laid_math_bits_deBruijn64tab), ("internal/strconv.uint64pow10", laid_internal_strconv_uint64pow10)] }
def ShapeThreadsSaid : Prop := shapeThreadsRow.holds Tryd.pinned (OpenSpec.ofChange shapeThreadsSpec)

/-- ITS FALSE NEIGHBOUR: 'it returns false'. Refute it at one input. -/
def shapeThreadsWrong : ChangeSpec := { name := "shapeThreads", fn := fun _ => fun
  | [d1, d2] => { results := [.lit (.bool false)], args := [d1, d2] }
  | _ => none }
def ShapeThreadsWrongFalsely : Prop := shapeThreadsRow.holds Tryd.pinned (OpenSpec.ofChange shapeThreadsWrong)

/-- 'rushlightlaw19.ShapePrunes': WHATEVER THE INPUT: true; the input reads as it did. -/
def shapePrunesSpec : ChangeSpec := { name := "shapePrunes", fn := fun _ => fun
  | [d1, d2] => { results := [.lit (.bool true)], args := [d1, d2] }
  | _ => none }
def shapePrunesRow : OpenClaim := { program := "ytnnhobbabcfogaadoor", sum := "2a0b6cfba271400307e4548cfbf0cc3d25d25e1b729e9b0a2854c74c449b9fcb", func := "rushlight/rushlightlaw19.ShapePrunes", spec := "shapePrunes", inPlace := ["internal/abi.NoEscape"], unfollowed := true, recurses := true, named := ["internal/strconv.uint64pow10", "math/bits.deBruijn32tab", "math/bits.deBruijn64tab"], apart := false, laid := [("math/bits.deBruijn32tab", laid_math_bits_deBruijn32tab), ("math/bits.deBruijn64tab", laid_math_bits_deBruijn64tab), ("internal/strconv.uint64pow10", laid_internal_strconv_uint64pow10)] }
def ShapePrunesSaid : Prop := shapePrunesRow.holds Tryd.pinned (OpenSpec.ofChange shapePrunesSpec)

/-- ITS FALSE NEIGHBOUR: 'it returns false'. Refute it at one input. -/
def shapePrunesWrong : ChangeSpec := { name := "shapePrunes", fn := fun _ => fun
  | [d1, d2] => { results := [.lit (.bool false)], args := [d1, d2] }
  | _ => none }
def ShapePrunesWrongFalsely : Prop := shapePrunesRow.holds Tryd.pinned (OpenSpec.ofChange shapePrunesWrong)

/-- 'rushlightlaw18.DeadDrops': WHATEVER THE INPUT: true; the input reads as it did. -/
def deadDropsSpec : ChangeSpec := { name := "deadDrops", fn := fun _ => fun
  | [d1, d2] => { results := [.lit (.bool true)], args := [d1, d2] }
  | _ => none }
def deadDropsRow : OpenClaim := { program := "ytnnhobbabcfogaadoor", sum := "2a0b6cfba271400307e4548cfbf0cc3d25d25e1b729e9b0a2854c74c449b9fcb", func := "rushlight/rushlightlaw18.DeadDrops", spec := "deadDrops", inPlace := ["internal/abi.NoEscape"], unfollowed := true, recurses := true, named := ["internal/strconv.uint64pow10", "math/bits.deBruijn32tab", "math/bits.deBruijn64tab"], apart := false, laid := [("math/bits.deBruijn32tab", laid_math_bits_deBruijn32tab), ("math/bits.deBruijn64tab", laid_math_bits_deBruijn64tab), ("internal/strconv.uint64pow10", laid_internal_strconv_uint64pow10)] }
def DeadDropsSaid : Prop := deadDropsRow.holds Tryd.pinned (OpenSpec.ofChange deadDropsSpec)

/-- ITS FALSE NEIGHBOUR: 'it returns false'. Refute it at one input. -/
def deadDropsWrong : ChangeSpec := { name := "deadDrops", fn := fun _ => fun
  | [d1, d2] => { results := [.lit (.bool false)], args := [d1, d2] }
  | _ => none }
def DeadDropsWrongFalsely : Prop := deadDropsRow.holds Tryd.pinned (OpenSpec.ofChange deadDropsWrong)

/- THE SECOND FORM. 'bulk': how many values and letters a reading holds, each counted each time it is reached (what is shared counts as often as it is met; a slice's spare places count too). A statement '..UptoSaid' is the law's where the arguments, and the package variables that the reading takes, are together of bulk at most 1048576: NARROWER than '..Said'. Prove '..Said' where nothing that the law and all that it calls make is longer than what came in: it says more and counts as full. Else prove '..UptoSaid'. A law counts once. -/
mutual
def uptoBulk {H : Type} : DataW H → Nat
  | .lit (.string bytes) => bytes.length + 1
  | .lit _ => 1
  | .nil => 1
  | .ptr d => uptoBulk d + 1
  | .slice elems spare => uptoBulkAll elems + uptoBulkAll spare + 1
  | .agg parts => uptoBulkAll parts + 1
  | .iface _ d => uptoBulk d + 1
  | .map entries => uptoBulkEntries entries + 1
  | .held _ => 1
def uptoBulkAll {H : Type} : List (DataW H) → Nat
  | [] => 0
  | d :: r => uptoBulk d + uptoBulkAll r
def uptoBulkEntries {H : Type} : List (Lit × DataW H) → Nat
  | [] => 0
  | x :: r => uptoBulkEntry x + uptoBulkEntries r
def uptoBulkEntry {H : Type} : Lit × DataW H → Nat
  | (.string bytes, d) => bytes.length + uptoBulk d + 1
  | (_, d) => uptoBulk d + 1
 end
def uptoSmall : (H : Type) → List (DataW H) → Bool := fun _ ds => decide (uptoBulkAll ds ≤ 1048576)
def OpenSpec.upto (s : _root_.Go.ChangeSpec) : _root_.Go.OpenSpec := { _root_.Go.OpenSpec.ofChange s with cond := some uptoSmall }

/-- 'rushlightlaw13.IrChecks', WHERE WHAT IT READS IS OF BULK AT MOST 1048576: true; the input reads as it did. -/
def irChecksUptoRow : OpenClaim := { program := "ytnnhobbabcfogaadoor", sum := "2a0b6cfba271400307e4548cfbf0cc3d25d25e1b729e9b0a2854c74c449b9fcb", func := "rushlight/rushlightlaw13.IrChecks", spec := "irChecks", inPlace := ["internal/abi.NoEscape"], named := ["internal/strconv.uint64pow10", "math/bits.deBruijn32tab", "math/bits.deBruijn64tab"], apart := false, laid := [("math/bits.deBruijn32tab", laid_math_bits_deBruijn32tab), ("math/bits.deBruijn64tab", laid_math_bits_deBruijn64tab), ("internal/strconv.uint64pow10", laid_internal_strconv_uint64pow10)], narrowed := true }
def IrChecksUptoSaid : Prop := irChecksUptoRow.holds Tryd.pinned (OpenSpec.upto irChecksSpec)

/-- 'rushlightlaw13.IrTexts', WHERE WHAT IT READS IS OF BULK AT MOST 1048576: true; the input reads as it did. -/
def irTextsUptoRow : OpenClaim := { program := "ytnnhobbabcfogaadoor", sum := "2a0b6cfba271400307e4548cfbf0cc3d25d25e1b729e9b0a2854c74c449b9fcb", func := "rushlight/rushlightlaw13.IrTexts", spec := "irTexts", inPlace := ["internal/abi.NoEscape"], recurses := true, named := ["internal/strconv.uint64pow10", "math/bits.deBruijn32tab", "math/bits.deBruijn64tab"], apart := false, laid := [("math/bits.deBruijn32tab", laid_math_bits_deBruijn32tab), ("math/bits.deBruijn64tab", laid_math_bits_deBruijn64tab), ("internal/strconv.uint64pow10", laid_internal_strconv_uint64pow10)], narrowed := true }
def IrTextsUptoSaid : Prop := irTextsUptoRow.holds Tryd.pinned (OpenSpec.upto irTextsSpec)

/-- 'rushlightlaw13.IrTells', WHERE WHAT IT READS IS OF BULK AT MOST 1048576: true; the input reads as it did. -/
def irTellsUptoRow : OpenClaim := { program := "ytnnhobbabcfogaadoor", sum := "2a0b6cfba271400307e4548cfbf0cc3d25d25e1b729e9b0a2854c74c449b9fcb", func := "rushlight/rushlightlaw13.IrTells", spec := "irTells", inPlace := ["internal/abi.NoEscape"], named := ["internal/strconv.uint64pow10", "math/bits.deBruijn32tab", "math/bits.deBruijn64tab"], apart := false, laid := [("math/bits.deBruijn32tab", laid_math_bits_deBruijn32tab), ("math/bits.deBruijn64tab", laid_math_bits_deBruijn64tab), ("internal/strconv.uint64pow10", laid_internal_strconv_uint64pow10)], narrowed := true }
def IrTellsUptoSaid : Prop := irTellsUptoRow.holds Tryd.pinned (OpenSpec.upto irTellsSpec)

/-- 'rushlightlaw19.ShapeThreads', WHERE WHAT IT READS IS OF BULK AT MOST 1048576: true; the input reads as it did. -/
def shapeThreadsUptoRow : OpenClaim := { program := "ytnnhobbabcfogaadoor", sum := "2a0b6cfba271400307e4548cfbf0cc3d25d25e1b729e9b0a2854c74c449b9fcb", func := "rushlight/rushlightlaw19.ShapeThreads", spec := "shapeThreads", inPlace := ["internal/abi.NoEscape"], unfollowed := true, recurses := true, named := ["internal/strconv.uint64pow10", "math/bits.deBruijn32tab", "math/bits.deBruijn64tab"], apart := false, laid := [("math/bits.deBruijn32tab", laid_math_bits_deBruijn32tab), ("math/bits.deBruijn64tab", laid_math_bits_deBruijn64tab), ("internal/strconv.uint64pow10", laid_internal_strconv_uint64pow10)], narrowed := true }
def ShapeThreadsUptoSaid : Prop := shapeThreadsUptoRow.holds Tryd.pinned (OpenSpec.upto shapeThreadsSpec)

/-- 'rushlightlaw19.ShapePrunes', WHERE WHAT IT READS IS OF BULK AT MOST 1048576: true; the input reads as it did. -/
def shapePrunesUptoRow : OpenClaim := { program := "ytnnhobbabcfogaadoor", sum := "2a0b6cfba271400307e4548cfbf0cc3d25d25e1b729e9b0a2854c74c449b9fcb", func := "rushlight/rushlightlaw19.ShapePrunes", spec := "shapePrunes", inPlace := ["internal/abi.NoEscape"], unfollowed := true, recurses := true, named := ["internal/strconv.uint64pow10", "math/bits.deBruijn32tab", "math/bits.deBruijn64tab"], apart := false, laid := [("math/bits.deBruijn32tab", laid_math_bits_deBruijn32tab), ("math/bits.deBruijn64tab", laid_math_bits_deBruijn64tab), ("internal/strconv.uint64pow10", laid_internal_strconv_uint64pow10)], narrowed := true }
def ShapePrunesUptoSaid : Prop := shapePrunesUptoRow.holds Tryd.pinned (OpenSpec.upto shapePrunesSpec)

/-- 'rushlightlaw18.DeadDrops', WHERE WHAT IT READS IS OF BULK AT MOST 1048576: true; the input reads as it did. -/
def deadDropsUptoRow : OpenClaim := { program := "ytnnhobbabcfogaadoor", sum := "2a0b6cfba271400307e4548cfbf0cc3d25d25e1b729e9b0a2854c74c449b9fcb", func := "rushlight/rushlightlaw18.DeadDrops", spec := "deadDrops", inPlace := ["internal/abi.NoEscape"], unfollowed := true, recurses := true, named := ["internal/strconv.uint64pow10", "math/bits.deBruijn32tab", "math/bits.deBruijn64tab"], apart := false, laid := [("math/bits.deBruijn32tab", laid_math_bits_deBruijn32tab), ("math/bits.deBruijn64tab", laid_math_bits_deBruijn64tab), ("internal/strconv.uint64pow10", laid_internal_strconv_uint64pow10)], narrowed := true }
def DeadDropsUptoSaid : Prop := deadDropsUptoRow.holds Tryd.pinned (OpenSpec.upto deadDropsSpec)

end Rows
end Go.Proofs.YtnnhobbabcfogaaDoor
