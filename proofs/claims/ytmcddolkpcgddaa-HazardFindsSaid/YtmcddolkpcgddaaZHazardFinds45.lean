/-
The page's example of layer 21 answers yes.
-/
import Derived.Test.YtmcddolkpcgddaaZHazardFinds37
import Derived.Test.YtmcddolkpcgddaaZHazardFinds44
set_option maxHeartbeats 8000000
set_option maxRecDepth 100000
set_option linter.all false
namespace Go.Proofs.Ytmcddolkpcgddaa
open Go.ChangeShapes Go.WideShapes Go.ChangeAt Go.RowKit
section
end
section
theorem q0k (n:Int) (w:World):Calls Try.prog 33 #[.agg #[.slice none 0 0,.slice none 0 0,.slice none 0 0,.int .i64 0],.int .i64 n] w fun e w'=>e=.returned (.tuple #[.pointer none,.int .i64 4])∧Below w.heap.size w w':=by
 by_cases h:n<0
 ·have g1:decide (n<0)=true:=qkn h
  go_enter Try.func33,Try.ntmps33
  go_wp2_with fail
  refine bodyPost_ret (v:=.tuple #[.pointer none,.int .i64 4]) (by simp [results,Try.results33,go_sem]) rfl ?_
  exact ⟨rfl,qaa _ _⟩
 ·have g1:decide (n<0)=false:=qko h
  have g2:decide (n ≥ 0)=true:=qkn (by omega)
  have g3:decide (0≤n)=true:=qkn (by omega)
  go_enter Try.func33,Try.ntmps33
  go_wp2_with fail
  refine bodyPost_ret (v:=.tuple #[.pointer none,.int .i64 4]) (by simp [results,Try.results33,go_sem]) rfl ?_
  exact ⟨rfl,qaa _ _⟩
theorem qit {k:VwK} {sp:List Sp} {P:Pr} (hbl:k.bs.length=P.regs.toNat) (h0:0≤P.regs) (hsp:∀ r,r<P.regs.toNat→sp.getD r default=spP P r) (r:Int):exV k sp r=exF P r:=by
 unfold exV exF
 by_cases h:0≤r∧r<P.regs
 ·rw [if_pos (by rw [hbl];omega),if_pos h,hsp r.toNat (by omega)]
 ·rw [if_neg (by rw [hbl];omega),if_neg h]
end
end Go.Proofs.Ytmcddolkpcgddaa
