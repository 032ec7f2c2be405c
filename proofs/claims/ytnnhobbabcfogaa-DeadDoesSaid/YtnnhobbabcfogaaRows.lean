/-
  No cell of these rows narrows 'for every input' (looked for: loops, veiled, ifaces, maps, wideKeys, modest, calm, conditions, laid).
  DERIVED. THE GIVEN ROWS OF THIS SEAT. 8 by the template 'for every input the law returns true; each argument reads behind the call as it read before'; 0 by the template 'total and deterministic' (their statements: YtnnhobbabcfogaaTotals.lean).
  GIVEN WITH THE SEED: the statements are not yours to turn. If you find one false, say at which input.
  Laid BY PROGRAM, IN A SANDBOX (cutbox-rows.mjs): the forced cells as the released guide's own fill.sh prints them over the translation 61a6283c0400706e… (all of the seat's roots in one cut). By AI agents, Wed Nov 11 2026. No macro, syntax, notation, axiom, sorry.
-/
import Derived.Test.YtnnhobbabcfogaaChecked
import GoSem.Claim
import GoSem.ClaimJoined
import GoSem.ClaimMapViews
import Derived.JoinedTies
import Derived.KernelRfl
namespace Go.Proofs.Ytnnhobbabcfogaa
/- THE CELL 'sum', in the pinned program and in every row, IS THE sha256 OF THE DUMP (.gsa) THAT YtnnhobbabcfogaaProg.lean LOADS. Nothing in Lean hashes anything: it is a label: what it is worth is what the hold of that sum in a sandbox is worth. -/
noncomputable def Try.pinned : Pinned := { name := "ytnnhobbabcfogaa", sum := "61a6283c0400706e5508353511120bf99f93c56440507f105a550d65ad359899", checked := Try.checked }
namespace Rows
def none {H : Type} : Left H := { results := [], args := [] }

/-- 'rushlightlaw19.ShapeDoes': WHATEVER THE INPUT: true; the input reads as it did. -/
def shapeDoesSpec : ChangeSpec := { name := "shapeDoes", fn := fun _ => fun
  | [d1, d2, d3] => { results := [.lit (.bool true)], args := [d1, d2, d3] }
  | _ => none }
def shapeDoesRow : OpenClaim := { program := "ytnnhobbabcfogaa", sum := "61a6283c0400706e5508353511120bf99f93c56440507f105a550d65ad359899", func := "rushlight/rushlightlaw19.ShapeDoes", spec := "shapeDoes", unfollowed := true, recurses := true, apart := false }
def ShapeDoesSaid : Prop := shapeDoesRow.holds Try.pinned (OpenSpec.ofChange shapeDoesSpec)

/-- ITS FALSE NEIGHBOUR: 'it returns false'. Refute it at one input. -/
def shapeDoesWrong : ChangeSpec := { name := "shapeDoes", fn := fun _ => fun
  | [d1, d2, d3] => { results := [.lit (.bool false)], args := [d1, d2, d3] }
  | _ => none }
def ShapeDoesWrongFalsely : Prop := shapeDoesRow.holds Try.pinned (OpenSpec.ofChange shapeDoesWrong)

/-- 'rushlightlaw18.DeadIdle': WHATEVER THE INPUT: true; the input reads as it did. -/
def deadIdleSpec : ChangeSpec := { name := "deadIdle", fn := fun _ => fun
  | [d1, d2] => { results := [.lit (.bool true)], args := [d1, d2] }
  | _ => none }
def deadIdleRow : OpenClaim := { program := "ytnnhobbabcfogaa", sum := "61a6283c0400706e5508353511120bf99f93c56440507f105a550d65ad359899", func := "rushlight/rushlightlaw18.DeadIdle", spec := "deadIdle", unfollowed := true, recurses := true, apart := false }
def DeadIdleSaid : Prop := deadIdleRow.holds Try.pinned (OpenSpec.ofChange deadIdleSpec)

/-- ITS FALSE NEIGHBOUR: 'it returns false'. Refute it at one input. -/
def deadIdleWrong : ChangeSpec := { name := "deadIdle", fn := fun _ => fun
  | [d1, d2] => { results := [.lit (.bool false)], args := [d1, d2] }
  | _ => none }
def DeadIdleWrongFalsely : Prop := deadIdleRow.holds Try.pinned (OpenSpec.ofChange deadIdleWrong)

/-- 'rushlightlaw18.DeadDoes': WHATEVER THE INPUT: true; the input reads as it did. -/
def deadDoesSpec : ChangeSpec := { name := "deadDoes", fn := fun _ => fun
  | [d1, d2, d3] => { results := [.lit (.bool true)], args := [d1, d2, d3] }
  | _ => none }
def deadDoesRow : OpenClaim := { program := "ytnnhobbabcfogaa", sum := "61a6283c0400706e5508353511120bf99f93c56440507f105a550d65ad359899", func := "rushlight/rushlightlaw18.DeadDoes", spec := "deadDoes", unfollowed := true, recurses := true, apart := false }
def DeadDoesSaid : Prop := deadDoesRow.holds Try.pinned (OpenSpec.ofChange deadDoesSpec)

/-- ITS FALSE NEIGHBOUR: 'it returns false'. Refute it at one input. -/
def deadDoesWrong : ChangeSpec := { name := "deadDoes", fn := fun _ => fun
  | [d1, d2, d3] => { results := [.lit (.bool false)], args := [d1, d2, d3] }
  | _ => none }
def DeadDoesWrongFalsely : Prop := deadDoesRow.holds Try.pinned (OpenSpec.ofChange deadDoesWrong)

/-- 'rushlightlaw20.InlineSmall': WHATEVER THE INPUT: true; the input reads as it did. -/
def inlineSmallSpec : ChangeSpec := { name := "inlineSmall", fn := fun _ => fun
  | [d1, d2] => { results := [.lit (.bool true)], args := [d1, d2] }
  | _ => none }
def inlineSmallRow : OpenClaim := { program := "ytnnhobbabcfogaa", sum := "61a6283c0400706e5508353511120bf99f93c56440507f105a550d65ad359899", func := "rushlight/rushlightlaw20.InlineSmall", spec := "inlineSmall", unfollowed := true, recurses := true, apart := false }
def InlineSmallSaid : Prop := inlineSmallRow.holds Try.pinned (OpenSpec.ofChange inlineSmallSpec)

/-- ITS FALSE NEIGHBOUR: 'it returns false'. Refute it at one input. -/
def inlineSmallWrong : ChangeSpec := { name := "inlineSmall", fn := fun _ => fun
  | [d1, d2] => { results := [.lit (.bool false)], args := [d1, d2] }
  | _ => none }
def InlineSmallWrongFalsely : Prop := inlineSmallRow.holds Try.pinned (OpenSpec.ofChange inlineSmallWrong)

/-- 'rushlightlaw20.InlineDoes': WHATEVER THE INPUT: true; the input reads as it did. -/
def inlineDoesSpec : ChangeSpec := { name := "inlineDoes", fn := fun _ => fun
  | [d1, d2, d3] => { results := [.lit (.bool true)], args := [d1, d2, d3] }
  | _ => none }
def inlineDoesRow : OpenClaim := { program := "ytnnhobbabcfogaa", sum := "61a6283c0400706e5508353511120bf99f93c56440507f105a550d65ad359899", func := "rushlight/rushlightlaw20.InlineDoes", spec := "inlineDoes", unfollowed := true, recurses := true, apart := false }
def InlineDoesSaid : Prop := inlineDoesRow.holds Try.pinned (OpenSpec.ofChange inlineDoesSpec)

/-- ITS FALSE NEIGHBOUR: 'it returns false'. Refute it at one input. -/
def inlineDoesWrong : ChangeSpec := { name := "inlineDoes", fn := fun _ => fun
  | [d1, d2, d3] => { results := [.lit (.bool false)], args := [d1, d2, d3] }
  | _ => none }
def InlineDoesWrongFalsely : Prop := inlineDoesRow.holds Try.pinned (OpenSpec.ofChange inlineDoesWrong)

/-- 'rushlightlaw21.AliasMeets': WHATEVER THE INPUT: true; the input reads as it did. -/
def aliasMeetsSpec : ChangeSpec := { name := "aliasMeets", fn := fun _ => fun
  | [d1, d2, d3] => { results := [.lit (.bool true)], args := [d1, d2, d3] }
  | _ => none }
def aliasMeetsRow : OpenClaim := { program := "ytnnhobbabcfogaa", sum := "61a6283c0400706e5508353511120bf99f93c56440507f105a550d65ad359899", func := "rushlight/rushlightlaw21.AliasMeets", spec := "aliasMeets", unfollowed := true, recurses := true, apart := false }
def AliasMeetsSaid : Prop := aliasMeetsRow.holds Try.pinned (OpenSpec.ofChange aliasMeetsSpec)

/-- ITS FALSE NEIGHBOUR: 'it returns false'. Refute it at one input. -/
def aliasMeetsWrong : ChangeSpec := { name := "aliasMeets", fn := fun _ => fun
  | [d1, d2, d3] => { results := [.lit (.bool false)], args := [d1, d2, d3] }
  | _ => none }
def AliasMeetsWrongFalsely : Prop := aliasMeetsRow.holds Try.pinned (OpenSpec.ofChange aliasMeetsWrong)

/-- 'rushlightlaw21.AliasThings': WHATEVER THE INPUT: true; the input reads as it did. -/
def aliasThingsSpec : ChangeSpec := { name := "aliasThings", fn := fun _ => fun
  | [d1, d2] => { results := [.lit (.bool true)], args := [d1, d2] }
  | _ => none }
def aliasThingsRow : OpenClaim := { program := "ytnnhobbabcfogaa", sum := "61a6283c0400706e5508353511120bf99f93c56440507f105a550d65ad359899", func := "rushlight/rushlightlaw21.AliasThings", spec := "aliasThings", unfollowed := true, recurses := true, apart := false }
def AliasThingsSaid : Prop := aliasThingsRow.holds Try.pinned (OpenSpec.ofChange aliasThingsSpec)

/-- ITS FALSE NEIGHBOUR: 'it returns false'. Refute it at one input. -/
def aliasThingsWrong : ChangeSpec := { name := "aliasThings", fn := fun _ => fun
  | [d1, d2] => { results := [.lit (.bool false)], args := [d1, d2] }
  | _ => none }
def AliasThingsWrongFalsely : Prop := aliasThingsRow.holds Try.pinned (OpenSpec.ofChange aliasThingsWrong)

/-- 'rushlightlaw16.FlowEach': WHATEVER THE INPUT: true; the input reads as it did. -/
def flowEachSpec : ChangeSpec := { name := "flowEach", fn := fun _ => fun
  | [d1, d2] => { results := [.lit (.bool true)], args := [d1, d2] }
  | _ => none }
def flowEachRow : OpenClaim := { program := "ytnnhobbabcfogaa", sum := "61a6283c0400706e5508353511120bf99f93c56440507f105a550d65ad359899", func := "rushlight/rushlightlaw16.FlowEach", spec := "flowEach", unfollowed := true, recurses := true, apart := false }
def FlowEachSaid : Prop := flowEachRow.holds Try.pinned (OpenSpec.ofChange flowEachSpec)

/-- ITS FALSE NEIGHBOUR: 'it returns false'. Refute it at one input. -/
def flowEachWrong : ChangeSpec := { name := "flowEach", fn := fun _ => fun
  | [d1, d2] => { results := [.lit (.bool false)], args := [d1, d2] }
  | _ => none }
def FlowEachWrongFalsely : Prop := flowEachRow.holds Try.pinned (OpenSpec.ofChange flowEachWrong)

/- THE SECOND FORM. 'bulk': how many values and letters a reading holds, each counted each time it is reached (what is shared counts as often as it is met; a slice's spare places count too). A statement '..UptoSaid' is the law's where the arguments, and the package variables that the reading takes, are together of bulk at most 1048576: NARROWER than '..Said'. Prove '..Said' where nothing that the law and all that it calls make is longer than what came in: it says more and counts as full. Else prove '..UptoSaid'. A law counts once. -/
mutual
def uptoBulk {H : Type} : DataW H → Nat
  | .lit (.string bytes) => bytes.length + 1
  | .lit _ => 1
  | .nil => 1
  | .ptr d => uptoBulk d + 1
  | .slice elems spare => uptoBulkAll elems + uptoBulkAll spare + 1
  | .agg parts => uptoBulkAll parts + 1
  | .iface _ d => uptoBulk d + 1
  | .map entries => uptoBulkEntries entries + 1
  | .held _ => 1
def uptoBulkAll {H : Type} : List (DataW H) → Nat
  | [] => 0
  | d :: r => uptoBulk d + uptoBulkAll r
def uptoBulkEntries {H : Type} : List (Lit × DataW H) → Nat
  | [] => 0
  | x :: r => uptoBulkEntry x + uptoBulkEntries r
def uptoBulkEntry {H : Type} : Lit × DataW H → Nat
  | (.string bytes, d) => bytes.length + uptoBulk d + 1
  | (_, d) => uptoBulk d + 1
 end
def uptoSmall : (H : Type) → List (DataW H) → Bool := fun _ ds => decide (uptoBulkAll ds ≤ 1048576)
def OpenSpec.upto (s : _root_.Go.ChangeSpec) : _root_.Go.OpenSpec := { _root_.Go.OpenSpec.ofChange s with cond := some uptoSmall }

/-- 'rushlightlaw19.ShapeDoes', WHERE WHAT IT READS IS OF BULK AT MOST 1048576: true; the input reads as it did. -/
def shapeDoesUptoRow : OpenClaim := { program := "ytnnhobbabcfogaa", sum := "61a6283c0400706e5508353511120bf99f93c56440507f105a550d65ad359899", func := "rushlight/rushlightlaw19.ShapeDoes", spec := "shapeDoes", unfollowed := true, recurses := true, apart := false, narrowed := true }
def ShapeDoesUptoSaid : Prop := shapeDoesUptoRow.holds Try.pinned (OpenSpec.upto shapeDoesSpec)

/-- 'rushlightlaw18.DeadIdle', WHERE WHAT IT READS IS OF BULK AT MOST 1048576: true; the input reads as it did. -/
def deadIdleUptoRow : OpenClaim := { program := "ytnnhobbabcfogaa", sum := "61a6283c0400706e5508353511120bf99f93c56440507f105a550d65ad359899", func := "rushlight/rushlightlaw18.DeadIdle", spec := "deadIdle", unfollowed := true, recurses := true, apart := false, narrowed := true }
def DeadIdleUptoSaid : Prop := deadIdleUptoRow.holds Try.pinned (OpenSpec.upto deadIdleSpec)

/-- 'rushlightlaw18.DeadDoes', WHERE WHAT IT READS IS OF BULK AT MOST 1048576: true; the input reads as it did. -/
def deadDoesUptoRow : OpenClaim := { program := "ytnnhobbabcfogaa", sum := "61a6283c0400706e5508353511120bf99f93c56440507f105a550d65ad359899", func := "rushlight/rushlightlaw18.DeadDoes", spec := "deadDoes", unfollowed := true, recurses := true, apart := false, narrowed := true }
def DeadDoesUptoSaid : Prop := deadDoesUptoRow.holds Try.pinned (OpenSpec.upto deadDoesSpec)

/-- 'rushlightlaw20.InlineSmall', WHERE WHAT IT READS IS OF BULK AT MOST 1048576: true; the input reads as it did. -/
def inlineSmallUptoRow : OpenClaim := { program := "ytnnhobbabcfogaa", sum := "61a6283c0400706e5508353511120bf99f93c56440507f105a550d65ad359899", func := "rushlight/rushlightlaw20.InlineSmall", spec := "inlineSmall", unfollowed := true, recurses := true, apart := false, narrowed := true }
def InlineSmallUptoSaid : Prop := inlineSmallUptoRow.holds Try.pinned (OpenSpec.upto inlineSmallSpec)

/-- 'rushlightlaw20.InlineDoes', WHERE WHAT IT READS IS OF BULK AT MOST 1048576: true; the input reads as it did. -/
def inlineDoesUptoRow : OpenClaim := { program := "ytnnhobbabcfogaa", sum := "61a6283c0400706e5508353511120bf99f93c56440507f105a550d65ad359899", func := "rushlight/rushlightlaw20.InlineDoes", spec := "inlineDoes", unfollowed := true, recurses := true, apart := false, narrowed := true }
def InlineDoesUptoSaid : Prop := inlineDoesUptoRow.holds Try.pinned (OpenSpec.upto inlineDoesSpec)

/-- 'rushlightlaw21.AliasMeets', WHERE WHAT IT READS IS OF BULK AT MOST 1048576: true; the input reads as it did. -/
def aliasMeetsUptoRow : OpenClaim := { program := "ytnnhobbabcfogaa", sum := "61a6283c0400706e5508353511120bf99f93c56440507f105a550d65ad359899", func := "rushlight/rushlightlaw21.AliasMeets", spec := "aliasMeets", unfollowed := true, recurses := true, apart := false, narrowed := true }
def AliasMeetsUptoSaid : Prop := aliasMeetsUptoRow.holds Try.pinned (OpenSpec.upto aliasMeetsSpec)

/-- 'rushlightlaw21.AliasThings', WHERE WHAT IT READS IS OF BULK AT MOST 1048576: true; the input reads as it did. -/
def aliasThingsUptoRow : OpenClaim := { program := "ytnnhobbabcfogaa", sum := "61a6283c0400706e5508353511120bf99f93c56440507f105a550d65ad359899", func := "rushlight/rushlightlaw21.AliasThings", spec := "aliasThings", unfollowed := true, recurses := true, apart := false, narrowed := true }
def AliasThingsUptoSaid : Prop := aliasThingsUptoRow.holds Try.pinned (OpenSpec.upto aliasThingsSpec)

/-- 'rushlightlaw16.FlowEach', WHERE WHAT IT READS IS OF BULK AT MOST 1048576: true; the input reads as it did. -/
def flowEachUptoRow : OpenClaim := { program := "ytnnhobbabcfogaa", sum := "61a6283c0400706e5508353511120bf99f93c56440507f105a550d65ad359899", func := "rushlight/rushlightlaw16.FlowEach", spec := "flowEach", unfollowed := true, recurses := true, apart := false, narrowed := true }
def FlowEachUptoSaid : Prop := flowEachUptoRow.holds Try.pinned (OpenSpec.upto flowEachSpec)

end Rows
end Go.Proofs.Ytnnhobbabcfogaa
