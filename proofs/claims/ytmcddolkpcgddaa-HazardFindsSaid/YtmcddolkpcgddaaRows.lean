/-
  No cell of these rows narrows 'for every input' (looked for: loops, veiled, ifaces, maps, wideKeys, modest, calm, conditions, laid).
  DERIVED. THE GIVEN ROWS OF THIS SEAT. 5 by the template 'for every input the law returns true; each argument reads behind the call as it read before'; 0 by the template 'total and deterministic' (their statements: YtmcddolkpcgddaaTotals.lean).
  GIVEN WITH THE SEED: the statements are not yours to turn. If you find one false, say at which input.
  Laid BY PROGRAM, IN A SANDBOX (cutbox-rows.mjs): the forced cells as the released guide's own fill.sh prints them over the translation 6875b7d3a02688b5… (all of the seat's roots in one cut). By AI agents, Wed Nov 11 2026. No macro, syntax, notation, axiom, sorry.
-/
import Derived.Test.YtmcddolkpcgddaaChecked
import GoSem.Claim
import GoSem.ClaimJoined
import GoSem.ClaimMapViews
import Derived.JoinedTies
import Derived.KernelRfl
namespace Go.Proofs.Ytmcddolkpcgddaa
/- THE CELL 'sum', in the pinned program and in every row, IS THE sha256 OF THE DUMP (.gsa) THAT YtmcddolkpcgddaaProg.lean LOADS. Nothing in Lean hashes anything: it is a label: what it is worth is what the hold of that sum in a sandbox is worth. -/
noncomputable def Try.pinned : Pinned := { name := "ytmcddolkpcgddaa", sum := "6875b7d3a02688b557b3772ff2a0474fca6b8135b1af6a7e7b16ff126a157660", checked := Try.checked }
namespace Rows
def none {H : Type} : Left H := { results := [], args := [] }

/-- 'rushlightlaw20.InlineSmall': WHATEVER THE INPUT: true; the input reads as it did. -/
def inlineSmallSpec : ChangeSpec := { name := "inlineSmall", fn := fun _ => fun
  | [d1, d2] => { results := [.lit (.bool true)], args := [d1, d2] }
  | _ => none }
def inlineSmallRow : OpenClaim := { program := "ytmcddolkpcgddaa", sum := "6875b7d3a02688b557b3772ff2a0474fca6b8135b1af6a7e7b16ff126a157660", func := "rushlight/rushlightlaw20.InlineSmall", spec := "inlineSmall", unfollowed := true, recurses := true, apart := false }
def InlineSmallSaid : Prop := inlineSmallRow.holds Try.pinned (OpenSpec.ofChange inlineSmallSpec)

/-- ITS FALSE NEIGHBOUR: 'it returns false'. Refute it at one input. -/
def inlineSmallWrong : ChangeSpec := { name := "inlineSmall", fn := fun _ => fun
  | [d1, d2] => { results := [.lit (.bool false)], args := [d1, d2] }
  | _ => none }
def InlineSmallWrongFalsely : Prop := inlineSmallRow.holds Try.pinned (OpenSpec.ofChange inlineSmallWrong)

/-- 'rushlightlaw20.InlineDoes': WHATEVER THE INPUT: true; the input reads as it did. -/
def inlineDoesSpec : ChangeSpec := { name := "inlineDoes", fn := fun _ => fun
  | [d1, d2, d3] => { results := [.lit (.bool true)], args := [d1, d2, d3] }
  | _ => none }
def inlineDoesRow : OpenClaim := { program := "ytmcddolkpcgddaa", sum := "6875b7d3a02688b557b3772ff2a0474fca6b8135b1af6a7e7b16ff126a157660", func := "rushlight/rushlightlaw20.InlineDoes", spec := "inlineDoes", unfollowed := true, recurses := true, apart := false }
def InlineDoesSaid : Prop := inlineDoesRow.holds Try.pinned (OpenSpec.ofChange inlineDoesSpec)

/-- ITS FALSE NEIGHBOUR: 'it returns false'. Refute it at one input. -/
def inlineDoesWrong : ChangeSpec := { name := "inlineDoes", fn := fun _ => fun
  | [d1, d2, d3] => { results := [.lit (.bool false)], args := [d1, d2, d3] }
  | _ => none }
def InlineDoesWrongFalsely : Prop := inlineDoesRow.holds Try.pinned (OpenSpec.ofChange inlineDoesWrong)

/-- 'rushlightlaw22.HazardFinds': WHATEVER THE INPUT: true; the input reads as it did. -/
def hazardFindsSpec : ChangeSpec := { name := "hazardFinds", fn := fun _ => fun
  | [d1, d2, d3] => { results := [.lit (.bool true)], args := [d1, d2, d3] }
  | _ => none }
def hazardFindsRow : OpenClaim := { program := "ytmcddolkpcgddaa", sum := "6875b7d3a02688b557b3772ff2a0474fca6b8135b1af6a7e7b16ff126a157660", func := "rushlight/rushlightlaw22.HazardFinds", spec := "hazardFinds", unfollowed := true, recurses := true, apart := false }
def HazardFindsSaid : Prop := hazardFindsRow.holds Try.pinned (OpenSpec.ofChange hazardFindsSpec)

/-- ITS FALSE NEIGHBOUR: 'it returns false'. Refute it at one input. -/
def hazardFindsWrong : ChangeSpec := { name := "hazardFinds", fn := fun _ => fun
  | [d1, d2, d3] => { results := [.lit (.bool false)], args := [d1, d2, d3] }
  | _ => none }
def HazardFindsWrongFalsely : Prop := hazardFindsRow.holds Try.pinned (OpenSpec.ofChange hazardFindsWrong)

/-- 'rushlightlaw22.HazardMarks': WHATEVER THE INPUT: true; the input reads as it did. -/
def hazardMarksSpec : ChangeSpec := { name := "hazardMarks", fn := fun _ => fun
  | [d1, d2, d3] => { results := [.lit (.bool true)], args := [d1, d2, d3] }
  | _ => none }
def hazardMarksRow : OpenClaim := { program := "ytmcddolkpcgddaa", sum := "6875b7d3a02688b557b3772ff2a0474fca6b8135b1af6a7e7b16ff126a157660", func := "rushlight/rushlightlaw22.HazardMarks", spec := "hazardMarks", unfollowed := true, recurses := true, apart := false }
def HazardMarksSaid : Prop := hazardMarksRow.holds Try.pinned (OpenSpec.ofChange hazardMarksSpec)

/-- ITS FALSE NEIGHBOUR: 'it returns false'. Refute it at one input. -/
def hazardMarksWrong : ChangeSpec := { name := "hazardMarks", fn := fun _ => fun
  | [d1, d2, d3] => { results := [.lit (.bool false)], args := [d1, d2, d3] }
  | _ => none }
def HazardMarksWrongFalsely : Prop := hazardMarksRow.holds Try.pinned (OpenSpec.ofChange hazardMarksWrong)

/-- 'rushlightlaw22.HazardWrites': WHATEVER THE INPUT: true; the input reads as it did. -/
def hazardWritesSpec : ChangeSpec := { name := "hazardWrites", fn := fun _ => fun
  | [d1, d2, d3] => { results := [.lit (.bool true)], args := [d1, d2, d3] }
  | _ => none }
def hazardWritesRow : OpenClaim := { program := "ytmcddolkpcgddaa", sum := "6875b7d3a02688b557b3772ff2a0474fca6b8135b1af6a7e7b16ff126a157660", func := "rushlight/rushlightlaw22.HazardWrites", spec := "hazardWrites", unfollowed := true, recurses := true, apart := false }
def HazardWritesSaid : Prop := hazardWritesRow.holds Try.pinned (OpenSpec.ofChange hazardWritesSpec)

/-- ITS FALSE NEIGHBOUR: 'it returns false'. Refute it at one input. -/
def hazardWritesWrong : ChangeSpec := { name := "hazardWrites", fn := fun _ => fun
  | [d1, d2, d3] => { results := [.lit (.bool false)], args := [d1, d2, d3] }
  | _ => none }
def HazardWritesWrongFalsely : Prop := hazardWritesRow.holds Try.pinned (OpenSpec.ofChange hazardWritesWrong)

/- THE SECOND FORM. 'bulk': how many values and letters a reading holds, each counted each time it is reached (what is shared counts as often as it is met; a slice's spare places count too). A statement '..UptoSaid' is the law's where the arguments, and the package variables that the reading takes, are together of bulk at most 1048576: NARROWER than '..Said'. Prove '..Said' where nothing that the law and all that it calls make is longer than what came in: it says more and counts as full. Else prove '..UptoSaid'. A law counts once. -/
mutual
def uptoBulk {H : Type} : DataW H → Nat
  | .lit (.string bytes) => bytes.length + 1
  | .lit _ => 1
  | .nil => 1
  | .ptr d => uptoBulk d + 1
  | .slice elems spare => uptoBulkAll elems + uptoBulkAll spare + 1
  | .agg parts => uptoBulkAll parts + 1
  | .iface _ d => uptoBulk d + 1
  | .map entries => uptoBulkEntries entries + 1
  | .held _ => 1
def uptoBulkAll {H : Type} : List (DataW H) → Nat
  | [] => 0
  | d :: r => uptoBulk d + uptoBulkAll r
def uptoBulkEntries {H : Type} : List (Lit × DataW H) → Nat
  | [] => 0
  | x :: r => uptoBulkEntry x + uptoBulkEntries r
def uptoBulkEntry {H : Type} : Lit × DataW H → Nat
  | (.string bytes, d) => bytes.length + uptoBulk d + 1
  | (_, d) => uptoBulk d + 1
 end
def uptoSmall : (H : Type) → List (DataW H) → Bool := fun _ ds => decide (uptoBulkAll ds ≤ 1048576)
def OpenSpec.upto (s : _root_.Go.ChangeSpec) : _root_.Go.OpenSpec := { _root_.Go.OpenSpec.ofChange s with cond := some uptoSmall }

/-- 'rushlightlaw20.InlineSmall', WHERE WHAT IT READS IS OF BULK AT MOST 1048576: true; the input reads as it did. -/
def inlineSmallUptoRow : OpenClaim := { program := "ytmcddolkpcgddaa", sum := "6875b7d3a02688b557b3772ff2a0474fca6b8135b1af6a7e7b16ff126a157660", func := "rushlight/rushlightlaw20.InlineSmall", spec := "inlineSmall", unfollowed := true, recurses := true, apart := false, narrowed := true }
def InlineSmallUptoSaid : Prop := inlineSmallUptoRow.holds Try.pinned (OpenSpec.upto inlineSmallSpec)

/-- 'rushlightlaw20.InlineDoes', WHERE WHAT IT READS IS OF BULK AT MOST 1048576: true; the input reads as it did. -/
def inlineDoesUptoRow : OpenClaim := { program := "ytmcddolkpcgddaa", sum := "6875b7d3a02688b557b3772ff2a0474fca6b8135b1af6a7e7b16ff126a157660", func := "rushlight/rushlightlaw20.InlineDoes", spec := "inlineDoes", unfollowed := true, recurses := true, apart := false, narrowed := true }
def InlineDoesUptoSaid : Prop := inlineDoesUptoRow.holds Try.pinned (OpenSpec.upto inlineDoesSpec)

/-- 'rushlightlaw22.HazardFinds', WHERE WHAT IT READS IS OF BULK AT MOST 1048576: true; the input reads as it did. -/
def hazardFindsUptoRow : OpenClaim := { program := "ytmcddolkpcgddaa", sum := "6875b7d3a02688b557b3772ff2a0474fca6b8135b1af6a7e7b16ff126a157660", func := "rushlight/rushlightlaw22.HazardFinds", spec := "hazardFinds", unfollowed := true, recurses := true, apart := false, narrowed := true }
def HazardFindsUptoSaid : Prop := hazardFindsUptoRow.holds Try.pinned (OpenSpec.upto hazardFindsSpec)

/-- 'rushlightlaw22.HazardMarks', WHERE WHAT IT READS IS OF BULK AT MOST 1048576: true; the input reads as it did. -/
def hazardMarksUptoRow : OpenClaim := { program := "ytmcddolkpcgddaa", sum := "6875b7d3a02688b557b3772ff2a0474fca6b8135b1af6a7e7b16ff126a157660", func := "rushlight/rushlightlaw22.HazardMarks", spec := "hazardMarks", unfollowed := true, recurses := true, apart := false, narrowed := true }
def HazardMarksUptoSaid : Prop := hazardMarksUptoRow.holds Try.pinned (OpenSpec.upto hazardMarksSpec)

/-- 'rushlightlaw22.HazardWrites', WHERE WHAT IT READS IS OF BULK AT MOST 1048576: true; the input reads as it did. -/
def hazardWritesUptoRow : OpenClaim := { program := "ytmcddolkpcgddaa", sum := "6875b7d3a02688b557b3772ff2a0474fca6b8135b1af6a7e7b16ff126a157660", func := "rushlight/rushlightlaw22.HazardWrites", spec := "hazardWrites", unfollowed := true, recurses := true, apart := false, narrowed := true }
def HazardWritesUptoSaid : Prop := hazardWritesUptoRow.holds Try.pinned (OpenSpec.upto hazardWritesSpec)

end Rows
end Go.Proofs.Ytmcddolkpcgddaa
