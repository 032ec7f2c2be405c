/-
  No cell of these rows narrows 'for every input' (looked for: loops, veiled, ifaces, maps, wideKeys, modest, calm, conditions, laid).
  DERIVED. THE GIVEN ROWS OF THIS SEAT. 13 by the template 'for every input the law returns true; each argument reads behind the call as it read before'; 0 by the template 'total and deterministic' (their statements: YtkfgfihmcjpgeaaTotals.lean).
  GIVEN WITH THE SEED: the statements are not yours to turn. If you find one false, say at which input.
  Laid BY PROGRAM, IN A SANDBOX (cutbox-rows.mjs): the forced cells as the released guide's own fill.sh prints them over the translation 0b3ed8c18d58a367… (all of the seat's roots in one cut). By AI agents, Wed Nov 11 2026. No macro, syntax, notation, axiom, sorry.
-/
import Derived.Test.YtkfgfihmcjpgeaaChecked
import GoSem.Claim
import GoSem.ClaimJoined
import GoSem.ClaimMapViews
import Derived.JoinedTies
import Derived.KernelRfl
namespace Go.Proofs.Ytkfgfihmcjpgeaa
/- THE CELL 'sum', in the pinned program and in every row, IS THE sha256 OF THE DUMP (.gsa) THAT YtkfgfihmcjpgeaaProg.lean LOADS. Nothing in Lean hashes anything: it is a label: what it is worth is what the hold of that sum in a sandbox is worth. -/
noncomputable def Try.pinned : Pinned := { name := "ytkfgfihmcjpgeaa", sum := "0b3ed8c18d58a367a45e045cefdb52128bc3bbb3f6fd931eb8611f93b83e5439", checked := Try.checked }
namespace Rows
def none {H : Type} : Left H := { results := [], args := [] }

/-- 'rushlightlaw01.WordSigns': WHATEVER THE INPUT: true; the input reads as it did. -/
def wordSignsSpec : ChangeSpec := { name := "wordSigns", fn := fun _ => fun
  | [d1, d2] => { results := [.lit (.bool true)], args := [d1, d2] }
  | _ => none }
def wordSignsRow : OpenClaim := { program := "ytkfgfihmcjpgeaa", sum := "0b3ed8c18d58a367a45e045cefdb52128bc3bbb3f6fd931eb8611f93b83e5439", func := "rushlight/rushlightlaw01.WordSigns", spec := "wordSigns", unfollowed := true, recurses := true, apart := false }
def WordSignsSaid : Prop := wordSignsRow.holds Try.pinned (OpenSpec.ofChange wordSignsSpec)

/-- ITS FALSE NEIGHBOUR: 'it returns false'. Refute it at one input. -/
def wordSignsWrong : ChangeSpec := { name := "wordSigns", fn := fun _ => fun
  | [d1, d2] => { results := [.lit (.bool false)], args := [d1, d2] }
  | _ => none }
def WordSignsWrongFalsely : Prop := wordSignsRow.holds Try.pinned (OpenSpec.ofChange wordSignsWrong)

/-- 'rushlightlaw01.WordShifts': WHATEVER THE INPUT: true; the input reads as it did. -/
def wordShiftsSpec : ChangeSpec := { name := "wordShifts", fn := fun _ => fun
  | [d1, d2] => { results := [.lit (.bool true)], args := [d1, d2] }
  | _ => none }
def wordShiftsRow : OpenClaim := { program := "ytkfgfihmcjpgeaa", sum := "0b3ed8c18d58a367a45e045cefdb52128bc3bbb3f6fd931eb8611f93b83e5439", func := "rushlight/rushlightlaw01.WordShifts", spec := "wordShifts", unfollowed := true, recurses := true, apart := false }
def WordShiftsSaid : Prop := wordShiftsRow.holds Try.pinned (OpenSpec.ofChange wordShiftsSpec)

/-- ITS FALSE NEIGHBOUR: 'it returns false'. Refute it at one input. -/
def wordShiftsWrong : ChangeSpec := { name := "wordShifts", fn := fun _ => fun
  | [d1, d2] => { results := [.lit (.bool false)], args := [d1, d2] }
  | _ => none }
def WordShiftsWrongFalsely : Prop := wordShiftsRow.holds Try.pinned (OpenSpec.ofChange wordShiftsWrong)

/-- 'rushlightlaw01.WordSums': WHATEVER THE INPUT: true; the input reads as it did. -/
def wordSumsSpec : ChangeSpec := { name := "wordSums", fn := fun _ => fun
  | [d1, d2] => { results := [.lit (.bool true)], args := [d1, d2] }
  | _ => none }
def wordSumsRow : OpenClaim := { program := "ytkfgfihmcjpgeaa", sum := "0b3ed8c18d58a367a45e045cefdb52128bc3bbb3f6fd931eb8611f93b83e5439", func := "rushlight/rushlightlaw01.WordSums", spec := "wordSums", unfollowed := true, recurses := true, apart := false }
def WordSumsSaid : Prop := wordSumsRow.holds Try.pinned (OpenSpec.ofChange wordSumsSpec)

/-- ITS FALSE NEIGHBOUR: 'it returns false'. Refute it at one input. -/
def wordSumsWrong : ChangeSpec := { name := "wordSums", fn := fun _ => fun
  | [d1, d2] => { results := [.lit (.bool false)], args := [d1, d2] }
  | _ => none }
def WordSumsWrongFalsely : Prop := wordSumsRow.holds Try.pinned (OpenSpec.ofChange wordSumsWrong)

/-- 'rushlightlaw01.WordHighs': WHATEVER THE INPUT: true; the input reads as it did. -/
def wordHighsSpec : ChangeSpec := { name := "wordHighs", fn := fun _ => fun
  | [d1, d2] => { results := [.lit (.bool true)], args := [d1, d2] }
  | _ => none }
def wordHighsRow : OpenClaim := { program := "ytkfgfihmcjpgeaa", sum := "0b3ed8c18d58a367a45e045cefdb52128bc3bbb3f6fd931eb8611f93b83e5439", func := "rushlight/rushlightlaw01.WordHighs", spec := "wordHighs", unfollowed := true, recurses := true, apart := false }
def WordHighsSaid : Prop := wordHighsRow.holds Try.pinned (OpenSpec.ofChange wordHighsSpec)

/-- ITS FALSE NEIGHBOUR: 'it returns false'. Refute it at one input. -/
def wordHighsWrong : ChangeSpec := { name := "wordHighs", fn := fun _ => fun
  | [d1, d2] => { results := [.lit (.bool false)], args := [d1, d2] }
  | _ => none }
def WordHighsWrongFalsely : Prop := wordHighsRow.holds Try.pinned (OpenSpec.ofChange wordHighsWrong)

/-- 'rushlightlaw01.WordProducts': WHATEVER THE INPUT: true; the input reads as it did. -/
def wordProductsSpec : ChangeSpec := { name := "wordProducts", fn := fun _ => fun
  | [d1, d2] => { results := [.lit (.bool true)], args := [d1, d2] }
  | _ => none }
def wordProductsRow : OpenClaim := { program := "ytkfgfihmcjpgeaa", sum := "0b3ed8c18d58a367a45e045cefdb52128bc3bbb3f6fd931eb8611f93b83e5439", func := "rushlight/rushlightlaw01.WordProducts", spec := "wordProducts", unfollowed := true, recurses := true, apart := false }
def WordProductsSaid : Prop := wordProductsRow.holds Try.pinned (OpenSpec.ofChange wordProductsSpec)

/-- ITS FALSE NEIGHBOUR: 'it returns false'. Refute it at one input. -/
def wordProductsWrong : ChangeSpec := { name := "wordProducts", fn := fun _ => fun
  | [d1, d2] => { results := [.lit (.bool false)], args := [d1, d2] }
  | _ => none }
def WordProductsWrongFalsely : Prop := wordProductsRow.holds Try.pinned (OpenSpec.ofChange wordProductsWrong)

/-- 'rushlightlaw01.WordLess': WHATEVER THE INPUT: true; the input reads as it did. -/
def wordLessSpec : ChangeSpec := { name := "wordLess", fn := fun _ => fun
  | [d1, d2] => { results := [.lit (.bool true)], args := [d1, d2] }
  | _ => none }
def wordLessRow : OpenClaim := { program := "ytkfgfihmcjpgeaa", sum := "0b3ed8c18d58a367a45e045cefdb52128bc3bbb3f6fd931eb8611f93b83e5439", func := "rushlight/rushlightlaw01.WordLess", spec := "wordLess", unfollowed := true, recurses := true, apart := false }
def WordLessSaid : Prop := wordLessRow.holds Try.pinned (OpenSpec.ofChange wordLessSpec)

/-- ITS FALSE NEIGHBOUR: 'it returns false'. Refute it at one input. -/
def wordLessWrong : ChangeSpec := { name := "wordLess", fn := fun _ => fun
  | [d1, d2] => { results := [.lit (.bool false)], args := [d1, d2] }
  | _ => none }
def WordLessWrongFalsely : Prop := wordLessRow.holds Try.pinned (OpenSpec.ofChange wordLessWrong)

/-- 'rushlightlaw01.WordParts': WHATEVER THE INPUT: true; the input reads as it did. -/
def wordPartsSpec : ChangeSpec := { name := "wordParts", fn := fun _ => fun
  | [d1, d2] => { results := [.lit (.bool true)], args := [d1, d2] }
  | _ => none }
def wordPartsRow : OpenClaim := { program := "ytkfgfihmcjpgeaa", sum := "0b3ed8c18d58a367a45e045cefdb52128bc3bbb3f6fd931eb8611f93b83e5439", func := "rushlight/rushlightlaw01.WordParts", spec := "wordParts", unfollowed := true, recurses := true, apart := false }
def WordPartsSaid : Prop := wordPartsRow.holds Try.pinned (OpenSpec.ofChange wordPartsSpec)

/-- ITS FALSE NEIGHBOUR: 'it returns false'. Refute it at one input. -/
def wordPartsWrong : ChangeSpec := { name := "wordParts", fn := fun _ => fun
  | [d1, d2] => { results := [.lit (.bool false)], args := [d1, d2] }
  | _ => none }
def WordPartsWrongFalsely : Prop := wordPartsRow.holds Try.pinned (OpenSpec.ofChange wordPartsWrong)

/-- 'rushlightlaw01.WordDivides': WHATEVER THE INPUT: true; the input reads as it did. -/
def wordDividesSpec : ChangeSpec := { name := "wordDivides", fn := fun _ => fun
  | [d1, d2] => { results := [.lit (.bool true)], args := [d1, d2] }
  | _ => none }
def wordDividesRow : OpenClaim := { program := "ytkfgfihmcjpgeaa", sum := "0b3ed8c18d58a367a45e045cefdb52128bc3bbb3f6fd931eb8611f93b83e5439", func := "rushlight/rushlightlaw01.WordDivides", spec := "wordDivides", unfollowed := true, recurses := true, apart := false }
def WordDividesSaid : Prop := wordDividesRow.holds Try.pinned (OpenSpec.ofChange wordDividesSpec)

/-- ITS FALSE NEIGHBOUR: 'it returns false'. Refute it at one input. -/
def wordDividesWrong : ChangeSpec := { name := "wordDivides", fn := fun _ => fun
  | [d1, d2] => { results := [.lit (.bool false)], args := [d1, d2] }
  | _ => none }
def WordDividesWrongFalsely : Prop := wordDividesRow.holds Try.pinned (OpenSpec.ofChange wordDividesWrong)

/-- 'rushlightlaw02.InstEncodes': WHATEVER THE INPUT: true; the input reads as it did. -/
def instEncodesSpec : ChangeSpec := { name := "instEncodes", fn := fun _ => fun
  | [d] => { results := [.lit (.bool true)], args := [d] }
  | _ => none }
def instEncodesRow : OpenClaim := { program := "ytkfgfihmcjpgeaa", sum := "0b3ed8c18d58a367a45e045cefdb52128bc3bbb3f6fd931eb8611f93b83e5439", func := "rushlight/rushlightlaw02.InstEncodes", spec := "instEncodes", apart := false }
def InstEncodesSaid : Prop := instEncodesRow.holds Try.pinned (OpenSpec.ofChange instEncodesSpec)

/-- ITS FALSE NEIGHBOUR: 'it returns false'. Refute it at one input. -/
def instEncodesWrong : ChangeSpec := { name := "instEncodes", fn := fun _ => fun
  | [d] => { results := [.lit (.bool false)], args := [d] }
  | _ => none }
def InstEncodesWrongFalsely : Prop := instEncodesRow.holds Try.pinned (OpenSpec.ofChange instEncodesWrong)

/-- 'rushlightlaw02.InstDecodes': WHATEVER THE INPUT: true; the input reads as it did. -/
def instDecodesSpec : ChangeSpec := { name := "instDecodes", fn := fun _ => fun
  | [d] => { results := [.lit (.bool true)], args := [d] }
  | _ => none }
def instDecodesRow : OpenClaim := { program := "ytkfgfihmcjpgeaa", sum := "0b3ed8c18d58a367a45e045cefdb52128bc3bbb3f6fd931eb8611f93b83e5439", func := "rushlight/rushlightlaw02.InstDecodes", spec := "instDecodes", apart := false }
def InstDecodesSaid : Prop := instDecodesRow.holds Try.pinned (OpenSpec.ofChange instDecodesSpec)

/-- ITS FALSE NEIGHBOUR: 'it returns false'. Refute it at one input. -/
def instDecodesWrong : ChangeSpec := { name := "instDecodes", fn := fun _ => fun
  | [d] => { results := [.lit (.bool false)], args := [d] }
  | _ => none }
def InstDecodesWrongFalsely : Prop := instDecodesRow.holds Try.pinned (OpenSpec.ofChange instDecodesWrong)

/-- 'rushlightlaw02.InstBack': WHATEVER THE INPUT: true; the input reads as it did. -/
def instBackSpec : ChangeSpec := { name := "instBack", fn := fun _ => fun
  | [d] => { results := [.lit (.bool true)], args := [d] }
  | _ => none }
def instBackRow : OpenClaim := { program := "ytkfgfihmcjpgeaa", sum := "0b3ed8c18d58a367a45e045cefdb52128bc3bbb3f6fd931eb8611f93b83e5439", func := "rushlight/rushlightlaw02.InstBack", spec := "instBack", apart := false }
def InstBackSaid : Prop := instBackRow.holds Try.pinned (OpenSpec.ofChange instBackSpec)

/-- ITS FALSE NEIGHBOUR: 'it returns false'. Refute it at one input. -/
def instBackWrong : ChangeSpec := { name := "instBack", fn := fun _ => fun
  | [d] => { results := [.lit (.bool false)], args := [d] }
  | _ => none }
def InstBackWrongFalsely : Prop := instBackRow.holds Try.pinned (OpenSpec.ofChange instBackWrong)

/-- 'rushlightlaw02.InstOnce': WHATEVER THE INPUT: true; the input reads as it did. -/
def instOnceSpec : ChangeSpec := { name := "instOnce", fn := fun _ => fun
  | [d] => { results := [.lit (.bool true)], args := [d] }
  | _ => none }
def instOnceRow : OpenClaim := { program := "ytkfgfihmcjpgeaa", sum := "0b3ed8c18d58a367a45e045cefdb52128bc3bbb3f6fd931eb8611f93b83e5439", func := "rushlight/rushlightlaw02.InstOnce", spec := "instOnce", apart := false }
def InstOnceSaid : Prop := instOnceRow.holds Try.pinned (OpenSpec.ofChange instOnceSpec)

/-- ITS FALSE NEIGHBOUR: 'it returns false'. Refute it at one input. -/
def instOnceWrong : ChangeSpec := { name := "instOnce", fn := fun _ => fun
  | [d] => { results := [.lit (.bool false)], args := [d] }
  | _ => none }
def InstOnceWrongFalsely : Prop := instOnceRow.holds Try.pinned (OpenSpec.ofChange instOnceWrong)

/-- 'rushlightlaw02.InstNames': WHATEVER THE INPUT: true; the input reads as it did. -/
def instNamesSpec : ChangeSpec := { name := "instNames", fn := fun _ => fun
  | [d] => { results := [.lit (.bool true)], args := [d] }
  | _ => none }
def instNamesRow : OpenClaim := { program := "ytkfgfihmcjpgeaa", sum := "0b3ed8c18d58a367a45e045cefdb52128bc3bbb3f6fd931eb8611f93b83e5439", func := "rushlight/rushlightlaw02.InstNames", spec := "instNames", apart := false }
def InstNamesSaid : Prop := instNamesRow.holds Try.pinned (OpenSpec.ofChange instNamesSpec)

/-- ITS FALSE NEIGHBOUR: 'it returns false'. Refute it at one input. -/
def instNamesWrong : ChangeSpec := { name := "instNames", fn := fun _ => fun
  | [d] => { results := [.lit (.bool false)], args := [d] }
  | _ => none }
def InstNamesWrongFalsely : Prop := instNamesRow.holds Try.pinned (OpenSpec.ofChange instNamesWrong)

/- THE SECOND FORM. 'bulk': how many values and letters a reading holds, each counted each time it is reached (what is shared counts as often as it is met; a slice's spare places count too). A statement '..UptoSaid' is the law's where the arguments, and the package variables that the reading takes, are together of bulk at most 1048576: NARROWER than '..Said'. Prove '..Said' where nothing that the law and all that it calls make is longer than what came in: it says more and counts as full. Else prove '..UptoSaid'. A law counts once. -/
mutual
def uptoBulk {H : Type} : DataW H → Nat
  | .lit (.string bytes) => bytes.length + 1
  | .lit _ => 1
  | .nil => 1
  | .ptr d => uptoBulk d + 1
  | .slice elems spare => uptoBulkAll elems + uptoBulkAll spare + 1
  | .agg parts => uptoBulkAll parts + 1
  | .iface _ d => uptoBulk d + 1
  | .map entries => uptoBulkEntries entries + 1
  | .held _ => 1
def uptoBulkAll {H : Type} : List (DataW H) → Nat
  | [] => 0
  | d :: r => uptoBulk d + uptoBulkAll r
def uptoBulkEntries {H : Type} : List (Lit × DataW H) → Nat
  | [] => 0
  | x :: r => uptoBulkEntry x + uptoBulkEntries r
def uptoBulkEntry {H : Type} : Lit × DataW H → Nat
  | (.string bytes, d) => bytes.length + uptoBulk d + 1
  | (_, d) => uptoBulk d + 1
 end
def uptoSmall : (H : Type) → List (DataW H) → Bool := fun _ ds => decide (uptoBulkAll ds ≤ 1048576)
def OpenSpec.upto (s : _root_.Go.ChangeSpec) : _root_.Go.OpenSpec := { _root_.Go.OpenSpec.ofChange s with cond := some uptoSmall }

/-- 'rushlightlaw01.WordSigns', WHERE WHAT IT READS IS OF BULK AT MOST 1048576: true; the input reads as it did. -/
def wordSignsUptoRow : OpenClaim := { program := "ytkfgfihmcjpgeaa", sum := "0b3ed8c18d58a367a45e045cefdb52128bc3bbb3f6fd931eb8611f93b83e5439", func := "rushlight/rushlightlaw01.WordSigns", spec := "wordSigns", unfollowed := true, recurses := true, apart := false, narrowed := true }
def WordSignsUptoSaid : Prop := wordSignsUptoRow.holds Try.pinned (OpenSpec.upto wordSignsSpec)

/-- 'rushlightlaw01.WordShifts', WHERE WHAT IT READS IS OF BULK AT MOST 1048576: true; the input reads as it did. -/
def wordShiftsUptoRow : OpenClaim := { program := "ytkfgfihmcjpgeaa", sum := "0b3ed8c18d58a367a45e045cefdb52128bc3bbb3f6fd931eb8611f93b83e5439", func := "rushlight/rushlightlaw01.WordShifts", spec := "wordShifts", unfollowed := true, recurses := true, apart := false, narrowed := true }
def WordShiftsUptoSaid : Prop := wordShiftsUptoRow.holds Try.pinned (OpenSpec.upto wordShiftsSpec)

/-- 'rushlightlaw01.WordSums', WHERE WHAT IT READS IS OF BULK AT MOST 1048576: true; the input reads as it did. -/
def wordSumsUptoRow : OpenClaim := { program := "ytkfgfihmcjpgeaa", sum := "0b3ed8c18d58a367a45e045cefdb52128bc3bbb3f6fd931eb8611f93b83e5439", func := "rushlight/rushlightlaw01.WordSums", spec := "wordSums", unfollowed := true, recurses := true, apart := false, narrowed := true }
def WordSumsUptoSaid : Prop := wordSumsUptoRow.holds Try.pinned (OpenSpec.upto wordSumsSpec)

/-- 'rushlightlaw01.WordHighs', WHERE WHAT IT READS IS OF BULK AT MOST 1048576: true; the input reads as it did. -/
def wordHighsUptoRow : OpenClaim := { program := "ytkfgfihmcjpgeaa", sum := "0b3ed8c18d58a367a45e045cefdb52128bc3bbb3f6fd931eb8611f93b83e5439", func := "rushlight/rushlightlaw01.WordHighs", spec := "wordHighs", unfollowed := true, recurses := true, apart := false, narrowed := true }
def WordHighsUptoSaid : Prop := wordHighsUptoRow.holds Try.pinned (OpenSpec.upto wordHighsSpec)

/-- 'rushlightlaw01.WordProducts', WHERE WHAT IT READS IS OF BULK AT MOST 1048576: true; the input reads as it did. -/
def wordProductsUptoRow : OpenClaim := { program := "ytkfgfihmcjpgeaa", sum := "0b3ed8c18d58a367a45e045cefdb52128bc3bbb3f6fd931eb8611f93b83e5439", func := "rushlight/rushlightlaw01.WordProducts", spec := "wordProducts", unfollowed := true, recurses := true, apart := false, narrowed := true }
def WordProductsUptoSaid : Prop := wordProductsUptoRow.holds Try.pinned (OpenSpec.upto wordProductsSpec)

/-- 'rushlightlaw01.WordLess', WHERE WHAT IT READS IS OF BULK AT MOST 1048576: true; the input reads as it did. -/
def wordLessUptoRow : OpenClaim := { program := "ytkfgfihmcjpgeaa", sum := "0b3ed8c18d58a367a45e045cefdb52128bc3bbb3f6fd931eb8611f93b83e5439", func := "rushlight/rushlightlaw01.WordLess", spec := "wordLess", unfollowed := true, recurses := true, apart := false, narrowed := true }
def WordLessUptoSaid : Prop := wordLessUptoRow.holds Try.pinned (OpenSpec.upto wordLessSpec)

/-- 'rushlightlaw01.WordParts', WHERE WHAT IT READS IS OF BULK AT MOST 1048576: true; the input reads as it did. -/
def wordPartsUptoRow : OpenClaim := { program := "ytkfgfihmcjpgeaa", sum := "0b3ed8c18d58a367a45e045cefdb52128bc3bbb3f6fd931eb8611f93b83e5439", func := "rushlight/rushlightlaw01.WordParts", spec := "wordParts", unfollowed := true, recurses := true, apart := false, narrowed := true }
def WordPartsUptoSaid : Prop := wordPartsUptoRow.holds Try.pinned (OpenSpec.upto wordPartsSpec)

/-- 'rushlightlaw01.WordDivides', WHERE WHAT IT READS IS OF BULK AT MOST 1048576: true; the input reads as it did. -/
def wordDividesUptoRow : OpenClaim := { program := "ytkfgfihmcjpgeaa", sum := "0b3ed8c18d58a367a45e045cefdb52128bc3bbb3f6fd931eb8611f93b83e5439", func := "rushlight/rushlightlaw01.WordDivides", spec := "wordDivides", unfollowed := true, recurses := true, apart := false, narrowed := true }
def WordDividesUptoSaid : Prop := wordDividesUptoRow.holds Try.pinned (OpenSpec.upto wordDividesSpec)

/-- 'rushlightlaw02.InstEncodes', WHERE WHAT IT READS IS OF BULK AT MOST 1048576: true; the input reads as it did. -/
def instEncodesUptoRow : OpenClaim := { program := "ytkfgfihmcjpgeaa", sum := "0b3ed8c18d58a367a45e045cefdb52128bc3bbb3f6fd931eb8611f93b83e5439", func := "rushlight/rushlightlaw02.InstEncodes", spec := "instEncodes", apart := false, narrowed := true }
def InstEncodesUptoSaid : Prop := instEncodesUptoRow.holds Try.pinned (OpenSpec.upto instEncodesSpec)

/-- 'rushlightlaw02.InstDecodes', WHERE WHAT IT READS IS OF BULK AT MOST 1048576: true; the input reads as it did. -/
def instDecodesUptoRow : OpenClaim := { program := "ytkfgfihmcjpgeaa", sum := "0b3ed8c18d58a367a45e045cefdb52128bc3bbb3f6fd931eb8611f93b83e5439", func := "rushlight/rushlightlaw02.InstDecodes", spec := "instDecodes", apart := false, narrowed := true }
def InstDecodesUptoSaid : Prop := instDecodesUptoRow.holds Try.pinned (OpenSpec.upto instDecodesSpec)

/-- 'rushlightlaw02.InstBack', WHERE WHAT IT READS IS OF BULK AT MOST 1048576: true; the input reads as it did. -/
def instBackUptoRow : OpenClaim := { program := "ytkfgfihmcjpgeaa", sum := "0b3ed8c18d58a367a45e045cefdb52128bc3bbb3f6fd931eb8611f93b83e5439", func := "rushlight/rushlightlaw02.InstBack", spec := "instBack", apart := false, narrowed := true }
def InstBackUptoSaid : Prop := instBackUptoRow.holds Try.pinned (OpenSpec.upto instBackSpec)

/-- 'rushlightlaw02.InstOnce', WHERE WHAT IT READS IS OF BULK AT MOST 1048576: true; the input reads as it did. -/
def instOnceUptoRow : OpenClaim := { program := "ytkfgfihmcjpgeaa", sum := "0b3ed8c18d58a367a45e045cefdb52128bc3bbb3f6fd931eb8611f93b83e5439", func := "rushlight/rushlightlaw02.InstOnce", spec := "instOnce", apart := false, narrowed := true }
def InstOnceUptoSaid : Prop := instOnceUptoRow.holds Try.pinned (OpenSpec.upto instOnceSpec)

/-- 'rushlightlaw02.InstNames', WHERE WHAT IT READS IS OF BULK AT MOST 1048576: true; the input reads as it did. -/
def instNamesUptoRow : OpenClaim := { program := "ytkfgfihmcjpgeaa", sum := "0b3ed8c18d58a367a45e045cefdb52128bc3bbb3f6fd931eb8611f93b83e5439", func := "rushlight/rushlightlaw02.InstNames", spec := "instNames", apart := false, narrowed := true }
def InstNamesUptoSaid : Prop := instNamesUptoRow.holds Try.pinned (OpenSpec.upto instNamesSpec)

end Rows
end Go.Proofs.Ytkfgfihmcjpgeaa
