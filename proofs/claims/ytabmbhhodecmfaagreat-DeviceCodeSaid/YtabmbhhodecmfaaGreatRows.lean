/-
  No cell of these rows narrows 'for every input' (looked for: loops, veiled, ifaces, maps, wideKeys, modest, calm, conditions, laid).
  DERIVED. THE GIVEN ROWS OF THIS SEAT. 3 by the template 'for every input the law returns true; each argument reads behind the call as it read before'; 0 by the template 'total and deterministic' (their statements: YtabmbhhodecmfaaGreatTotals.lean).
  GIVEN WITH THE SEED: the statements are not yours to turn. If you find one false, say at which input.
  Laid BY PROGRAM, IN A SANDBOX (cutbox-rows.mjs): the forced cells as the released guide's own fill.sh prints them over the translation 97170af1d86e88a3… (all of the seat's roots in one cut). By AI agents, Wed Nov 11 2026. No macro, syntax, notation, axiom, sorry.
-/
import Derived.Test.YtabmbhhodecmfaaGreatChecked
import GoSem.Claim
import GoSem.ClaimJoined
import GoSem.ClaimMapViews
import Derived.JoinedTies
import Derived.KernelRfl
namespace Go.Proofs.YtabmbhhodecmfaaGreat
/- THE CELL 'sum', in the pinned program and in every row, IS THE sha256 OF THE DUMP (.gsa) THAT YtabmbhhodecmfaaGreatProg.lean LOADS. Nothing in Lean hashes anything: it is a label: what it is worth is what the hold of that sum in a sandbox is worth. -/
noncomputable def Tryz.pinned : Pinned := { name := "ytabmbhhodecmfaagreat", sum := "97170af1d86e88a30a69a089bed1c24f889c888fecb835a083961124cfae82b6", checked := Tryz.checked }
namespace Rows
def none {H : Type} : Left H := { results := [], args := [] }

/-- 'rushlightlaw03.DeviceRuns': WHATEVER THE INPUT: true; the input reads as it did. -/
def deviceRunsSpec : ChangeSpec := { name := "deviceRuns", fn := fun _ => fun
  | [d] => { results := [.lit (.bool true)], args := [d] }
  | _ => none }
def deviceRunsRow : OpenClaim := { program := "ytabmbhhodecmfaagreat", sum := "97170af1d86e88a30a69a089bed1c24f889c888fecb835a083961124cfae82b6", func := "rushlight/rushlightlaw03.DeviceRuns", spec := "deviceRuns", unfollowed := true, recurses := true, apart := false }
def DeviceRunsSaid : Prop := deviceRunsRow.holds Tryz.pinned (OpenSpec.ofChange deviceRunsSpec)

/-- ITS FALSE NEIGHBOUR: 'it returns false'. Refute it at one input. -/
def deviceRunsWrong : ChangeSpec := { name := "deviceRuns", fn := fun _ => fun
  | [d] => { results := [.lit (.bool false)], args := [d] }
  | _ => none }
def DeviceRunsWrongFalsely : Prop := deviceRunsRow.holds Tryz.pinned (OpenSpec.ofChange deviceRunsWrong)

/-- 'rushlightlaw03.DeviceSteps': WHATEVER THE INPUT: true; the input reads as it did. -/
def deviceStepsSpec : ChangeSpec := { name := "deviceSteps", fn := fun _ => fun
  | [d1, d2] => { results := [.lit (.bool true)], args := [d1, d2] }
  | _ => none }
def deviceStepsRow : OpenClaim := { program := "ytabmbhhodecmfaagreat", sum := "97170af1d86e88a30a69a089bed1c24f889c888fecb835a083961124cfae82b6", func := "rushlight/rushlightlaw03.DeviceSteps", spec := "deviceSteps", unfollowed := true, recurses := true, apart := false }
def DeviceStepsSaid : Prop := deviceStepsRow.holds Tryz.pinned (OpenSpec.ofChange deviceStepsSpec)

/-- ITS FALSE NEIGHBOUR: 'it returns false'. Refute it at one input. -/
def deviceStepsWrong : ChangeSpec := { name := "deviceSteps", fn := fun _ => fun
  | [d1, d2] => { results := [.lit (.bool false)], args := [d1, d2] }
  | _ => none }
def DeviceStepsWrongFalsely : Prop := deviceStepsRow.holds Tryz.pinned (OpenSpec.ofChange deviceStepsWrong)

/-- 'rushlightlaw03.DeviceCode': WHATEVER THE INPUT: true; the input reads as it did. -/
def deviceCodeSpec : ChangeSpec := { name := "deviceCode", fn := fun _ => fun
  | [d] => { results := [.lit (.bool true)], args := [d] }
  | _ => none }
def deviceCodeRow : OpenClaim := { program := "ytabmbhhodecmfaagreat", sum := "97170af1d86e88a30a69a089bed1c24f889c888fecb835a083961124cfae82b6", func := "rushlight/rushlightlaw03.DeviceCode", spec := "deviceCode", unfollowed := true, recurses := true, apart := false }
def DeviceCodeSaid : Prop := deviceCodeRow.holds Tryz.pinned (OpenSpec.ofChange deviceCodeSpec)

/-- ITS FALSE NEIGHBOUR: 'it returns false'. Refute it at one input. -/
def deviceCodeWrong : ChangeSpec := { name := "deviceCode", fn := fun _ => fun
  | [d] => { results := [.lit (.bool false)], args := [d] }
  | _ => none }
def DeviceCodeWrongFalsely : Prop := deviceCodeRow.holds Tryz.pinned (OpenSpec.ofChange deviceCodeWrong)

/- THE SECOND FORM. 'bulk': how many values and letters a reading holds, each counted each time it is reached (what is shared counts as often as it is met; a slice's spare places count too). A statement '..UptoSaid' is the law's where the arguments, and the package variables that the reading takes, are together of bulk at most 1048576: NARROWER than '..Said'. Prove '..Said' where nothing that the law and all that it calls make is longer than what came in: it says more and counts as full. Else prove '..UptoSaid'. A law counts once. -/
mutual
def uptoBulk {H : Type} : DataW H → Nat
  | .lit (.string bytes) => bytes.length + 1
  | .lit _ => 1
  | .nil => 1
  | .ptr d => uptoBulk d + 1
  | .slice elems spare => uptoBulkAll elems + uptoBulkAll spare + 1
  | .agg parts => uptoBulkAll parts + 1
  | .iface _ d => uptoBulk d + 1
  | .map entries => uptoBulkEntries entries + 1
  | .held _ => 1
def uptoBulkAll {H : Type} : List (DataW H) → Nat
  | [] => 0
  | d :: r => uptoBulk d + uptoBulkAll r
def uptoBulkEntries {H : Type} : List (Lit × DataW H) → Nat
  | [] => 0
  | x :: r => uptoBulkEntry x + uptoBulkEntries r
def uptoBulkEntry {H : Type} : Lit × DataW H → Nat
  | (.string bytes, d) => bytes.length + uptoBulk d + 1
  | (_, d) => uptoBulk d + 1
 end
def uptoSmall : (H : Type) → List (DataW H) → Bool := fun _ ds => decide (uptoBulkAll ds ≤ 1048576)
def OpenSpec.upto (s : _root_.Go.ChangeSpec) : _root_.Go.OpenSpec := { _root_.Go.OpenSpec.ofChange s with cond := some uptoSmall }

/-- 'rushlightlaw03.DeviceRuns', WHERE WHAT IT READS IS OF BULK AT MOST 1048576: true; the input reads as it did. -/
def deviceRunsUptoRow : OpenClaim := { program := "ytabmbhhodecmfaagreat", sum := "97170af1d86e88a30a69a089bed1c24f889c888fecb835a083961124cfae82b6", func := "rushlight/rushlightlaw03.DeviceRuns", spec := "deviceRuns", unfollowed := true, recurses := true, apart := false, narrowed := true }
def DeviceRunsUptoSaid : Prop := deviceRunsUptoRow.holds Tryz.pinned (OpenSpec.upto deviceRunsSpec)

/-- 'rushlightlaw03.DeviceSteps', WHERE WHAT IT READS IS OF BULK AT MOST 1048576: true; the input reads as it did. -/
def deviceStepsUptoRow : OpenClaim := { program := "ytabmbhhodecmfaagreat", sum := "97170af1d86e88a30a69a089bed1c24f889c888fecb835a083961124cfae82b6", func := "rushlight/rushlightlaw03.DeviceSteps", spec := "deviceSteps", unfollowed := true, recurses := true, apart := false, narrowed := true }
def DeviceStepsUptoSaid : Prop := deviceStepsUptoRow.holds Tryz.pinned (OpenSpec.upto deviceStepsSpec)

/-- 'rushlightlaw03.DeviceCode', WHERE WHAT IT READS IS OF BULK AT MOST 1048576: true; the input reads as it did. -/
def deviceCodeUptoRow : OpenClaim := { program := "ytabmbhhodecmfaagreat", sum := "97170af1d86e88a30a69a089bed1c24f889c888fecb835a083961124cfae82b6", func := "rushlight/rushlightlaw03.DeviceCode", spec := "deviceCode", unfollowed := true, recurses := true, apart := false, narrowed := true }
def DeviceCodeUptoSaid : Prop := deviceCodeUptoRow.holds Tryz.pinned (OpenSpec.upto deviceCodeSpec)

end Rows
end Go.Proofs.YtabmbhhodecmfaaGreat
