/-
  No cell of these rows narrows 'for every input' (looked for: loops, veiled, ifaces, maps, wideKeys, modest, calm, conditions, laid).
  DERIVED. THE GIVEN ROWS OF THIS SEAT. 8 by the template 'for every input the law returns true; each argument reads behind the call as it read before'; 0 by the template 'total and deterministic' (their statements: YtegkbopibacfoaaTotals.lean).
  GIVEN WITH THE SEED: the statements are not yours to turn. If you find one false, say at which input.
  Laid BY PROGRAM, IN A SANDBOX (cutbox-rows.mjs): the forced cells as the released guide's own fill.sh prints them over the translation 5e358a52d435d394… (all of the seat's roots in one cut). By AI agents, Wed Nov 11 2026. No macro, syntax, notation, axiom, sorry.
-/
import Derived.Test.YtegkbopibacfoaaChecked
import GoSem.Claim
import GoSem.ClaimJoined
import GoSem.ClaimMapViews
import Derived.JoinedTies
import Derived.KernelRfl
namespace Go.Proofs.Ytegkbopibacfoaa
/- THE CELL 'sum', in the pinned program and in every row, IS THE sha256 OF THE DUMP (.gsa) THAT YtegkbopibacfoaaProg.lean LOADS. Nothing in Lean hashes anything: it is a label: what it is worth is what the hold of that sum in a sandbox is worth. -/
noncomputable def Try.pinned : Pinned := { name := "ytegkbopibacfoaa", sum := "5e358a52d435d3940dbbfd169c83d40285d0db476ee04dad2d4eeefcfbda84cc", checked := Try.checked }
namespace Rows
def none {H : Type} : Left H := { results := [], args := [] }

/-- 'rushlightlaw16.FlowLives': WHATEVER THE INPUT: true; the input reads as it did. -/
def flowLivesSpec : ChangeSpec := { name := "flowLives", fn := fun _ => fun
  | [d] => { results := [.lit (.bool true)], args := [d] }
  | _ => none }
def flowLivesRow : OpenClaim := { program := "ytegkbopibacfoaa", sum := "5e358a52d435d3940dbbfd169c83d40285d0db476ee04dad2d4eeefcfbda84cc", func := "rushlight/rushlightlaw16.FlowLives", spec := "flowLives", unfollowed := true, recurses := true, apart := false }
def FlowLivesSaid : Prop := flowLivesRow.holds Try.pinned (OpenSpec.ofChange flowLivesSpec)

/-- ITS FALSE NEIGHBOUR: 'it returns false'. Refute it at one input. -/
def flowLivesWrong : ChangeSpec := { name := "flowLives", fn := fun _ => fun
  | [d] => { results := [.lit (.bool false)], args := [d] }
  | _ => none }
def FlowLivesWrongFalsely : Prop := flowLivesRow.holds Try.pinned (OpenSpec.ofChange flowLivesWrong)

/-- 'rushlightlaw16.FlowRound': WHATEVER THE INPUT: true; the input reads as it did. -/
def flowRoundSpec : ChangeSpec := { name := "flowRound", fn := fun _ => fun
  | [d] => { results := [.lit (.bool true)], args := [d] }
  | _ => none }
def flowRoundRow : OpenClaim := { program := "ytegkbopibacfoaa", sum := "5e358a52d435d3940dbbfd169c83d40285d0db476ee04dad2d4eeefcfbda84cc", func := "rushlight/rushlightlaw16.FlowRound", spec := "flowRound", unfollowed := true, recurses := true, apart := false }
def FlowRoundSaid : Prop := flowRoundRow.holds Try.pinned (OpenSpec.ofChange flowRoundSpec)

/-- ITS FALSE NEIGHBOUR: 'it returns false'. Refute it at one input. -/
def flowRoundWrong : ChangeSpec := { name := "flowRound", fn := fun _ => fun
  | [d] => { results := [.lit (.bool false)], args := [d] }
  | _ => none }
def FlowRoundWrongFalsely : Prop := flowRoundRow.holds Try.pinned (OpenSpec.ofChange flowRoundWrong)

/-- 'rushlightlaw16.FlowEach': WHATEVER THE INPUT: true; the input reads as it did. -/
def flowEachSpec : ChangeSpec := { name := "flowEach", fn := fun _ => fun
  | [d1, d2] => { results := [.lit (.bool true)], args := [d1, d2] }
  | _ => none }
def flowEachRow : OpenClaim := { program := "ytegkbopibacfoaa", sum := "5e358a52d435d3940dbbfd169c83d40285d0db476ee04dad2d4eeefcfbda84cc", func := "rushlight/rushlightlaw16.FlowEach", spec := "flowEach", unfollowed := true, recurses := true, apart := false }
def FlowEachSaid : Prop := flowEachRow.holds Try.pinned (OpenSpec.ofChange flowEachSpec)

/-- ITS FALSE NEIGHBOUR: 'it returns false'. Refute it at one input. -/
def flowEachWrong : ChangeSpec := { name := "flowEach", fn := fun _ => fun
  | [d1, d2] => { results := [.lit (.bool false)], args := [d1, d2] }
  | _ => none }
def FlowEachWrongFalsely : Prop := flowEachRow.holds Try.pinned (OpenSpec.ofChange flowEachWrong)

/-- 'rushlightlaw16.FlowLeads': WHATEVER THE INPUT: true; the input reads as it did. -/
def flowLeadsSpec : ChangeSpec := { name := "flowLeads", fn := fun _ => fun
  | [d] => { results := [.lit (.bool true)], args := [d] }
  | _ => none }
def flowLeadsRow : OpenClaim := { program := "ytegkbopibacfoaa", sum := "5e358a52d435d3940dbbfd169c83d40285d0db476ee04dad2d4eeefcfbda84cc", func := "rushlight/rushlightlaw16.FlowLeads", spec := "flowLeads", unfollowed := true, recurses := true, apart := false }
def FlowLeadsSaid : Prop := flowLeadsRow.holds Try.pinned (OpenSpec.ofChange flowLeadsSpec)

/-- ITS FALSE NEIGHBOUR: 'it returns false'. Refute it at one input. -/
def flowLeadsWrong : ChangeSpec := { name := "flowLeads", fn := fun _ => fun
  | [d] => { results := [.lit (.bool false)], args := [d] }
  | _ => none }
def FlowLeadsWrongFalsely : Prop := flowLeadsRow.holds Try.pinned (OpenSpec.ofChange flowLeadsWrong)

/-- 'rushlightlaw18.DeadIdle': WHATEVER THE INPUT: true; the input reads as it did. -/
def deadIdleSpec : ChangeSpec := { name := "deadIdle", fn := fun _ => fun
  | [d1, d2] => { results := [.lit (.bool true)], args := [d1, d2] }
  | _ => none }
def deadIdleRow : OpenClaim := { program := "ytegkbopibacfoaa", sum := "5e358a52d435d3940dbbfd169c83d40285d0db476ee04dad2d4eeefcfbda84cc", func := "rushlight/rushlightlaw18.DeadIdle", spec := "deadIdle", unfollowed := true, recurses := true, apart := false }
def DeadIdleSaid : Prop := deadIdleRow.holds Try.pinned (OpenSpec.ofChange deadIdleSpec)

/-- ITS FALSE NEIGHBOUR: 'it returns false'. Refute it at one input. -/
def deadIdleWrong : ChangeSpec := { name := "deadIdle", fn := fun _ => fun
  | [d1, d2] => { results := [.lit (.bool false)], args := [d1, d2] }
  | _ => none }
def DeadIdleWrongFalsely : Prop := deadIdleRow.holds Try.pinned (OpenSpec.ofChange deadIdleWrong)

/-- 'rushlightlaw18.DeadDoes': WHATEVER THE INPUT: true; the input reads as it did. -/
def deadDoesSpec : ChangeSpec := { name := "deadDoes", fn := fun _ => fun
  | [d1, d2, d3] => { results := [.lit (.bool true)], args := [d1, d2, d3] }
  | _ => none }
def deadDoesRow : OpenClaim := { program := "ytegkbopibacfoaa", sum := "5e358a52d435d3940dbbfd169c83d40285d0db476ee04dad2d4eeefcfbda84cc", func := "rushlight/rushlightlaw18.DeadDoes", spec := "deadDoes", unfollowed := true, recurses := true, apart := false }
def DeadDoesSaid : Prop := deadDoesRow.holds Try.pinned (OpenSpec.ofChange deadDoesSpec)

/-- ITS FALSE NEIGHBOUR: 'it returns false'. Refute it at one input. -/
def deadDoesWrong : ChangeSpec := { name := "deadDoes", fn := fun _ => fun
  | [d1, d2, d3] => { results := [.lit (.bool false)], args := [d1, d2, d3] }
  | _ => none }
def DeadDoesWrongFalsely : Prop := deadDoesRow.holds Try.pinned (OpenSpec.ofChange deadDoesWrong)

/-- 'rushlightlaw21.AliasMeets': WHATEVER THE INPUT: true; the input reads as it did. -/
def aliasMeetsSpec : ChangeSpec := { name := "aliasMeets", fn := fun _ => fun
  | [d1, d2, d3] => { results := [.lit (.bool true)], args := [d1, d2, d3] }
  | _ => none }
def aliasMeetsRow : OpenClaim := { program := "ytegkbopibacfoaa", sum := "5e358a52d435d3940dbbfd169c83d40285d0db476ee04dad2d4eeefcfbda84cc", func := "rushlight/rushlightlaw21.AliasMeets", spec := "aliasMeets", unfollowed := true, recurses := true, apart := false }
def AliasMeetsSaid : Prop := aliasMeetsRow.holds Try.pinned (OpenSpec.ofChange aliasMeetsSpec)

/-- ITS FALSE NEIGHBOUR: 'it returns false'. Refute it at one input. -/
def aliasMeetsWrong : ChangeSpec := { name := "aliasMeets", fn := fun _ => fun
  | [d1, d2, d3] => { results := [.lit (.bool false)], args := [d1, d2, d3] }
  | _ => none }
def AliasMeetsWrongFalsely : Prop := aliasMeetsRow.holds Try.pinned (OpenSpec.ofChange aliasMeetsWrong)

/-- 'rushlightlaw21.AliasThings': WHATEVER THE INPUT: true; the input reads as it did. -/
def aliasThingsSpec : ChangeSpec := { name := "aliasThings", fn := fun _ => fun
  | [d1, d2] => { results := [.lit (.bool true)], args := [d1, d2] }
  | _ => none }
def aliasThingsRow : OpenClaim := { program := "ytegkbopibacfoaa", sum := "5e358a52d435d3940dbbfd169c83d40285d0db476ee04dad2d4eeefcfbda84cc", func := "rushlight/rushlightlaw21.AliasThings", spec := "aliasThings", unfollowed := true, recurses := true, apart := false }
def AliasThingsSaid : Prop := aliasThingsRow.holds Try.pinned (OpenSpec.ofChange aliasThingsSpec)

/-- ITS FALSE NEIGHBOUR: 'it returns false'. Refute it at one input. -/
def aliasThingsWrong : ChangeSpec := { name := "aliasThings", fn := fun _ => fun
  | [d1, d2] => { results := [.lit (.bool false)], args := [d1, d2] }
  | _ => none }
def AliasThingsWrongFalsely : Prop := aliasThingsRow.holds Try.pinned (OpenSpec.ofChange aliasThingsWrong)

/- THE SECOND FORM. 'bulk': how many values and letters a reading holds, each counted each time it is reached (what is shared counts as often as it is met; a slice's spare places count too). A statement '..UptoSaid' is the law's where the arguments, and the package variables that the reading takes, are together of bulk at most 1048576: NARROWER than '..Said'. Prove '..Said' where nothing that the law and all that it calls make is longer than what came in: it says more and counts as full. Else prove '..UptoSaid'. A law counts once. -/
mutual
def uptoBulk {H : Type} : DataW H → Nat
  | .lit (.string bytes) => bytes.length + 1
  | .lit _ => 1
  | .nil => 1
  | .ptr d => uptoBulk d + 1
  | .slice elems spare => uptoBulkAll elems + uptoBulkAll spare + 1
  | .agg parts => uptoBulkAll parts + 1
  | .iface _ d => uptoBulk d + 1
  | .map entries => uptoBulkEntries entries + 1
  | .held _ => 1
def uptoBulkAll {H : Type} : List (DataW H) → Nat
  | [] => 0
  | d :: r => uptoBulk d + uptoBulkAll r
def uptoBulkEntries {H : Type} : List (Lit × DataW H) → Nat
  | [] => 0
  | x :: r => uptoBulkEntry x + uptoBulkEntries r
def uptoBulkEntry {H : Type} : Lit × DataW H → Nat
  | (.string bytes, d) => bytes.length + uptoBulk d + 1
  | (_, d) => uptoBulk d + 1
 end
def uptoSmall : (H : Type) → List (DataW H) → Bool := fun _ ds => decide (uptoBulkAll ds ≤ 1048576)
def OpenSpec.upto (s : _root_.Go.ChangeSpec) : _root_.Go.OpenSpec := { _root_.Go.OpenSpec.ofChange s with cond := some uptoSmall }

/-- 'rushlightlaw16.FlowLives', WHERE WHAT IT READS IS OF BULK AT MOST 1048576: true; the input reads as it did. -/
def flowLivesUptoRow : OpenClaim := { program := "ytegkbopibacfoaa", sum := "5e358a52d435d3940dbbfd169c83d40285d0db476ee04dad2d4eeefcfbda84cc", func := "rushlight/rushlightlaw16.FlowLives", spec := "flowLives", unfollowed := true, recurses := true, apart := false, narrowed := true }
def FlowLivesUptoSaid : Prop := flowLivesUptoRow.holds Try.pinned (OpenSpec.upto flowLivesSpec)

/-- 'rushlightlaw16.FlowRound', WHERE WHAT IT READS IS OF BULK AT MOST 1048576: true; the input reads as it did. -/
def flowRoundUptoRow : OpenClaim := { program := "ytegkbopibacfoaa", sum := "5e358a52d435d3940dbbfd169c83d40285d0db476ee04dad2d4eeefcfbda84cc", func := "rushlight/rushlightlaw16.FlowRound", spec := "flowRound", unfollowed := true, recurses := true, apart := false, narrowed := true }
def FlowRoundUptoSaid : Prop := flowRoundUptoRow.holds Try.pinned (OpenSpec.upto flowRoundSpec)

/-- 'rushlightlaw16.FlowEach', WHERE WHAT IT READS IS OF BULK AT MOST 1048576: true; the input reads as it did. -/
def flowEachUptoRow : OpenClaim := { program := "ytegkbopibacfoaa", sum := "5e358a52d435d3940dbbfd169c83d40285d0db476ee04dad2d4eeefcfbda84cc", func := "rushlight/rushlightlaw16.FlowEach", spec := "flowEach", unfollowed := true, recurses := true, apart := false, narrowed := true }
def FlowEachUptoSaid : Prop := flowEachUptoRow.holds Try.pinned (OpenSpec.upto flowEachSpec)

/-- 'rushlightlaw16.FlowLeads', WHERE WHAT IT READS IS OF BULK AT MOST 1048576: true; the input reads as it did. -/
def flowLeadsUptoRow : OpenClaim := { program := "ytegkbopibacfoaa", sum := "5e358a52d435d3940dbbfd169c83d40285d0db476ee04dad2d4eeefcfbda84cc", func := "rushlight/rushlightlaw16.FlowLeads", spec := "flowLeads", unfollowed := true, recurses := true, apart := false, narrowed := true }
def FlowLeadsUptoSaid : Prop := flowLeadsUptoRow.holds Try.pinned (OpenSpec.upto flowLeadsSpec)

/-- 'rushlightlaw18.DeadIdle', WHERE WHAT IT READS IS OF BULK AT MOST 1048576: true; the input reads as it did. -/
def deadIdleUptoRow : OpenClaim := { program := "ytegkbopibacfoaa", sum := "5e358a52d435d3940dbbfd169c83d40285d0db476ee04dad2d4eeefcfbda84cc", func := "rushlight/rushlightlaw18.DeadIdle", spec := "deadIdle", unfollowed := true, recurses := true, apart := false, narrowed := true }
def DeadIdleUptoSaid : Prop := deadIdleUptoRow.holds Try.pinned (OpenSpec.upto deadIdleSpec)

/-- 'rushlightlaw18.DeadDoes', WHERE WHAT IT READS IS OF BULK AT MOST 1048576: true; the input reads as it did. -/
def deadDoesUptoRow : OpenClaim := { program := "ytegkbopibacfoaa", sum := "5e358a52d435d3940dbbfd169c83d40285d0db476ee04dad2d4eeefcfbda84cc", func := "rushlight/rushlightlaw18.DeadDoes", spec := "deadDoes", unfollowed := true, recurses := true, apart := false, narrowed := true }
def DeadDoesUptoSaid : Prop := deadDoesUptoRow.holds Try.pinned (OpenSpec.upto deadDoesSpec)

/-- 'rushlightlaw21.AliasMeets', WHERE WHAT IT READS IS OF BULK AT MOST 1048576: true; the input reads as it did. -/
def aliasMeetsUptoRow : OpenClaim := { program := "ytegkbopibacfoaa", sum := "5e358a52d435d3940dbbfd169c83d40285d0db476ee04dad2d4eeefcfbda84cc", func := "rushlight/rushlightlaw21.AliasMeets", spec := "aliasMeets", unfollowed := true, recurses := true, apart := false, narrowed := true }
def AliasMeetsUptoSaid : Prop := aliasMeetsUptoRow.holds Try.pinned (OpenSpec.upto aliasMeetsSpec)

/-- 'rushlightlaw21.AliasThings', WHERE WHAT IT READS IS OF BULK AT MOST 1048576: true; the input reads as it did. -/
def aliasThingsUptoRow : OpenClaim := { program := "ytegkbopibacfoaa", sum := "5e358a52d435d3940dbbfd169c83d40285d0db476ee04dad2d4eeefcfbda84cc", func := "rushlight/rushlightlaw21.AliasThings", spec := "aliasThings", unfollowed := true, recurses := true, apart := false, narrowed := true }
def AliasThingsUptoSaid : Prop := aliasThingsUptoRow.holds Try.pinned (OpenSpec.upto aliasThingsSpec)

end Rows
end Go.Proofs.Ytegkbopibacfoaa
