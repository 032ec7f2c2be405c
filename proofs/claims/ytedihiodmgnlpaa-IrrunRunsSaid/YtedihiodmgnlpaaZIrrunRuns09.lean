/-
 A run of the middle language in memory: the runner's struct, its memory, what it puts out, where the globals lie.
-/
import Derived.Test.YtedihiodmgnlpaaZIrrunRuns00
import Derived.Test.YtedihiodmgnlpaaZIrrunRuns08
set_option linter.all false
namespace Go.Proofs.Ytedihiodmgnlpaa
open Go.ChangeShapes Go.WideShapes Go.ChangeAt Go.RowKit
set_option maxHeartbeats 1000000
set_option linter.unusedVariables false
set_option maxRecDepth 20000

def rowOf (b n : Nat) : Value := .slice (some ⟨b, 0, none⟩) n n
/-- what stays in a run -/
structure RK where
 wp : World
 br : Nat
 bm : Nat
 vg : Value
 vd : Value
 vp : Value
 va : Value
 vi : Value
 m : Md
 at' : List Int
 en : Int
 inp : List Int
/-- what turns in a run -/
structure RS where
 mem : List Int
 out : List Int
 ins : Int
 exit : Int
 e : Int
 fuel : Int
 deep : Int
def RS.cells (k : RK) (vo : Value) (s : RS) : List Value := [k.vg, k.vd, k.vp, .int .i64 k.m.main, rowOf k.bm 65536, k.va, .int .i64 k.en, k.vi, vo, .int .i64 s.ins, .int .u32 s.exit, .int .i64 s.e, .int .i64 s.fuel, .int .i64 s.deep]
structure Rn (k : RK) (w : World) (vo : Value) (s : RS) : Prop where
 bx : w.ownsRow k.wp.heap.size 123 14 (rowOf k.br 1) 1 (s.cells k vo)
 mm : w.ownsRow k.wp.heap.size 5 1 (rowOf k.bm 65536) 65536 (s.mem.map (Value.int .u8))
 oo : w.ownsRow k.wp.heap.size 35 1 vo s.out.length (s.out.map (Value.int .u32))
 aa : w.ownsRow k.wp.heap.size 3 1 k.va k.at'.length (k.at'.map (Value.int .i64))
 md : MdV k.wp (.agg #[k.vg, k.vd, k.vp, .int .i64 k.m.main]) k.m
 ii : RdW k.wp k.vi k.inp
 below : Below k.wp.heap.size k.wp w
/-- two rows of different types lie in different blocks -/
theorem rows_ne {w : World} {B B' s s' n n' : Nat} {e e' : TypeId} {v v' : Value} {xs xs' : List Value} (h : w.ownsRow B e s v n xs) (h' : w.ownsRow B' e' s' v' n' xs') (he : e ≠ e') : v.ownBlock = none ∨ v.ownBlock ≠ v'.ownBlock := by
 obtain ⟨-, ⟨rfl, -⟩ | ⟨g, cap, cur, rfl, -, hg, -⟩⟩ := h
 ·exact .inl rfl
 ·obtain ⟨-, ⟨rfl, -⟩ | ⟨g', cap', cur', rfl, -, hg', -⟩⟩ := h'
  ·exact .inr (by simp [Value.ownBlock])
  ·refine .inr fun e2 => he ?_
   simp only [Value.ownBlock, Option.some.injEq] at e2
   subst e2
   rw [hg] at hg'
   simp at hg'
   exact hg'.2
/-- all but the run's own blocks stays -/
structure Kp (k : RK) (vo vo' : Value) (w w' : World) : Prop where
 size : w.heap.size ≤ w'.heap.size
 to : vo'.ownBlock = vo.ownBlock ∨ ∃ g, vo'.ownBlock = some g ∧ w.heap.size ≤ g
 keep : ∀ b, b < w.heap.size → b ≠ k.br → b ≠ k.bm → some b ≠ vo.ownBlock → w'.heap[b]? = w.heap[b]?
theorem Kp.refl (k : RK) (vo : Value) (w : World) : Kp k vo vo w w := ⟨Nat.le_refl _, .inl rfl, fun _ _ _ _ _ => rfl⟩
theorem Kp.trans {k : RK} {v1 v2 v3 : Value} {w1 w2 w3 : World} (h : Kp k v1 v2 w1 w2) (h' : Kp k v2 v3 w2 w3) : Kp k v1 v3 w1 w3 := by
 refine ⟨Nat.le_trans h.size h'.size, ?_, fun b hb h1 h2 h3 => ?_⟩
 ·rcases h'.to with e | ⟨g, e, hg⟩
  ·rw [e]; exact h.to
  ·exact .inr ⟨g, e, Nat.le_trans h.size hg⟩
 ·rw [h'.keep b (Nat.lt_of_lt_of_le hb h.size) h1 h2, h.keep b hb h1 h2 h3]
  rcases h.to with e | ⟨g, e, hg⟩
  ·rw [e]; exact h3
  ·rw [e]; intro e2; simp only [Option.some.injEq] at e2; omega
theorem Kp.of_below {k : RK} {vo : Value} {w w' : World} (h : Below w.heap.size w w') : Kp k vo vo w w' := ⟨h.size, .inl rfl, fun b hb _ _ _ => h.block b hb⟩
theorem Kp.cell {k : RK} {vo vo' : Value} {w w' : World} (h : Kp k vo vo' w w') {b o : Nat} {v : Value} (h1 : b ≠ k.br) (h2 : b ≠ k.bm) (h3 : some b ≠ vo.ownBlock) (hv : w.cell? ⟨b, o, none⟩ = some v) : w'.cell? ⟨b, o, none⟩ = some v :=
 (World.cell?_of_block (a := ⟨b, o, none⟩) (h.keep b (World.block_lt_of_cell? w _ hv) h1 h2 h3)).trans hv
section
variable {k : RK} {w w' : World} {vo : Value} {s : RS}
theorem Rn.grow (h : Rn k w vo s) (hb : Below w.heap.size w w') : Rn k w' vo s :=
 ⟨own_below h.bx hb, own_below h.mm hb, own_below h.oo hb, own_below h.aa hb, h.md, h.ii, h.below.trans (hb.mono h.below.size)⟩
theorem Rn.brLt (h : Rn k w vo s) : k.wp.heap.size ≤ k.br ∧ k.br < w.heap.size := own_lt h.bx rfl
theorem Rn.bmLt (h : Rn k w vo s) : k.wp.heap.size ≤ k.bm ∧ k.bm < w.heap.size := own_lt h.mm rfl
theorem Rn.ne (h : Rn k w vo s) : k.br ≠ k.bm := fun e => by
 rcases rows_ne h.bx h.mm (by decide) with h | h
 ·cases h
 ·exact h (congrArg some e)
theorem Rn.neO (h : Rn k w vo s) : some k.br ≠ vo.ownBlock := by
 rcases rows_ne h.bx h.oo (by decide) with h | h
 ·cases h
 ·exact h
theorem Rn.neM (h : Rn k w vo s) : some k.bm ≠ vo.ownBlock := by
 rcases rows_ne h.mm h.oo (by decide) with h | h
 ·cases h
 ·exact h
/-- a field of the runner is set -/
theorem Rn.setF (h : Rn k w vo s) (j : Nat) (x : Value) (s' : RS) (hs : (s.cells k vo).set j x = s'.cells k vo) (h1 : s'.mem = s.mem) (h2 : s'.out = s.out) : Rn k (w.setCell ⟨k.br, j, none⟩ x) vo s' ∧ Kp k vo vo w (w.setCell ⟨k.br, j, none⟩ x) := by
 obtain ⟨a, b⟩ := h.bx.stored j x
 rw [hs] at a
 refine ⟨⟨a, ?_, ?_, h.aa.kept b (rows_ne h.aa h.bx (by decide)), h.md, h.ii, h.below.setCell (p := ⟨k.br, j, none⟩) h.brLt.1 _⟩, ⟨by simp, .inl rfl, fun c hc n1 n2 n3 => b.block c hc (fun e => n1 (Option.some.inj e))⟩⟩
 ·rw [h1]; exact h.mm.kept b (rows_ne h.mm h.bx (by decide))
 ·rw [h2]; exact h.oo.kept b (rows_ne h.oo h.bx (by decide))
/-- a byte of the memory is set -/
theorem Rn.setM (h : Rn k w vo s) (j : Nat) (x : Int) : Rn k (w.setCell ⟨k.bm, j, none⟩ (.int .u8 x)) vo { s with mem := s.mem.set j x } ∧ Kp k vo vo w (w.setCell ⟨k.bm, j, none⟩ (.int .u8 x)) := by
 obtain ⟨a, b⟩ := h.mm.stored j (.int .u8 x)
 refine ⟨⟨h.bx.kept b (rows_ne h.bx h.mm (by decide)), ?_, h.oo.kept b (rows_ne h.oo h.mm (by decide)), h.aa.kept b (rows_ne h.aa h.mm (by decide)), h.md, h.ii, h.below.setCell (p := ⟨k.bm, j, none⟩) h.bmLt.1 _⟩, ⟨by simp, .inl rfl, fun c hc n1 n2 n3 => b.block c hc (fun e => n2 (Option.some.inj e))⟩⟩
 rw [List.map_set]; exact a
theorem Rn.c (h : Rn k w vo s) (j : Nat) (hj : j < 14) : w.cell? ⟨k.br, j, none⟩ = (s.cells k vo)[j]? := h.bx.cellAt j (by omega)
theorem Rn.cMem (h : Rn k w vo s) : w.cell? ⟨k.br, 4, none⟩ = some (.slice (some ⟨k.bm, 0, none⟩) 65536 65536) := h.c 4 (by decide)
theorem Rn.cEnd (h : Rn k w vo s) : w.cell? ⟨k.br, 6, none⟩ = some (.int .i64 k.en) := h.c 6 (by decide)
theorem Rn.cIn (h : Rn k w vo s) : w.cell? ⟨k.br, 7, none⟩ = some k.vi := h.c 7 (by decide)
theorem Rn.cOut (h : Rn k w vo s) : w.cell? ⟨k.br, 8, none⟩ = some vo := h.c 8 (by decide)
theorem Rn.cIns (h : Rn k w vo s) : w.cell? ⟨k.br, 9, none⟩ = some (.int .i64 s.ins) := h.c 9 (by decide)
theorem Rn.cExit (h : Rn k w vo s) : w.cell? ⟨k.br, 10, none⟩ = some (.int .u32 s.exit) := h.c 10 (by decide)
theorem Rn.cE (h : Rn k w vo s) : w.cell? ⟨k.br, 11, none⟩ = some (.int .i64 s.e) := h.c 11 (by decide)
theorem Rn.cFuel (h : Rn k w vo s) : w.cell? ⟨k.br, 12, none⟩ = some (.int .i64 s.fuel) := h.c 12 (by decide)
theorem Rn.cDeep (h : Rn k w vo s) : w.cell? ⟨k.br, 13, none⟩ = some (.int .i64 s.deep) := h.c 13 (by decide)
theorem Rn.frz (h : Rn k w vo s) (j : Nat) : w.frozen? ⟨k.br, j, none⟩ = false := h.bx.frozenAt j
theorem Rn.mlen (h : Rn k w vo s) : s.mem.length = 65536 := by simpa using h.mm.1
theorem Rn.cM (h : Rn k w vo s) (j : Nat) (hj : j < 65536) : w.cell? ⟨k.bm, j, none⟩ = some (.int .u8 (s.mem.getD j 0)) := by
 have e := h.mlen
 rw [h.mm.cellAt j (by omega)]
 simp [List.getD, show j < s.mem.length by omega]
end
end Go.Proofs.Ytedihiodmgnlpaa
