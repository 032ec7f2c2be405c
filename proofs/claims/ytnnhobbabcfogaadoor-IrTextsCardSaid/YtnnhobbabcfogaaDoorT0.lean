/-
  The lines of a procedure, as plain bytes.
-/
import Derived.Test.YtnnhobbabcfogaaDoorD0
import Derived.Lib.ItoaNum
set_option linter.all false
namespace Go.Proofs.YtnnhobbabcfogaaDoor

/-- numbers, each with a blank ahead -/
def numsF (l : List Int) : List UInt8 := l.flatMap fun n => 32 :: Lib.itoa n
/-- an instruction's line -/
def lineF (i : In) : List UInt8 :=
  numsF [i.op, i.d, i.a, i.b, i.fn, i.obj, i.off, i.size, i.num] ++ numsF i.args ++ (if i.log then [32, 108, 111, 103] else []) ++ [10]
/-- a block's lines, but for the first -/
def linesF (b : Bk) : List UInt8 := b.ins.flatMap lineF
def endF' (b : Bk) : List UInt8 := [32, 101, 110, 100] ++ numsF [b.fin, b.a, b.to, b.els] ++ [10]
def headF (n : Nat) : List UInt8 := 98 :: Lib.itoa n ++ [58, 10]
/-- the lines of the first so many blocks -/
def textN (p : Pr) (k : Nat) : List UInt8 := (List.range k).flatMap fun n => headF n ++ linesF (p.blks.getD n default) ++ endF' (p.blks.getD n default)
def textF (p : Pr) : List UInt8 := textN p p.blks.length
theorem textN_succ (p : Pr) (k : Nat) : textN p (k + 1) = textN p k ++ (headF k ++ linesF (p.blks.getD k default) ++ endF' (p.blks.getD k default)) := by
  unfold textN
  rw [List.range_succ, List.flatMap_append]
  simp
end Go.Proofs.YtnnhobbabcfogaaDoor
