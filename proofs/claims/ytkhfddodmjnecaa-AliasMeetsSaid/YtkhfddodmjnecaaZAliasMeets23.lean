/-
 alias: a row without things; a view grows.; A run of the middle language in memory: the runner's struct, its memory, what it puts out, where the globals lie.; The contracts of the runner's small methods.; The contract of the runner's store.
-/
import Derived.Test.YtkhfddodmjnecaaZAliasMeets22
import Derived.Test.YtkhfddodmjnecaaZAliasMeets00
import Derived.Test.YtkhfddodmjnecaaZAliasMeets15
import Derived.Test.YtkhfddodmjnecaaZAliasMeets06
import Derived.BigQuiet
import Derived.IntWalk

set_option linter.all false
namespace Go.Proofs.Ytkhfddodmjnecaa
open Go.ChangeShapes Go.WideShapes Go.ChangeAt Go.RowKit
set_option maxHeartbeats 4000000
set_option maxRecDepth 100000
set_option linter.unusedVariables false

theorem info_u64 : (Try.prog.info? 156).map (fun i => (i.zero, i.size, i.bytes)) = some (some (.int .u64 0), 1, 8) := by kernel_rfl
theorem made_list (z : Value) (R : Nat) : (madeCells #[z] R).toList = List.replicate R z := by
 apply List.ext_getElem
 ·simp [madeCells]
 ·intro i h1 h2
  simp [madeCells, Nat.mod_one]
theorem made_one (z : Value) : madeCells #[z] 1 = #[z] := by
 apply Array.ext'
 rw [made_list]; rfl
theorem row_c (bv T : Nat) (w : World) (hc : w.cell? ⟨bv, 6, none⟩ = some (.int .i64 (T : Int))) (h1 : 1 ≤ T) (h2 : T ≤ 64) :
  Calls Try.prog 44 #[.pointer (some ⟨bv, 0, none⟩)] w fun e w' => e = .returned (slW w.heap.size) ∧ RowW w' w.heap.size 0 ∧ Below w.heap.size w w' := by
 have e1 : ((T : Int) + 64 - 1).tdiv 64 = 1 := by rw [Int.tdiv_eq_ediv_of_nonneg (by omega)]; omega
 have hmk := run_make_row' (P := Try.prog) 93 156 (.int .u64 0) 8 Try.underlying93 info_u64 rfl .i64 .i64 1 (by omega) (by omega)
 have hm1 := made_one (.int .u64 0)
 simp only [show ((1 : Nat) : Int) = 1 from rfl, hm1] at hmk
 go_enter Try.func44, Try.ntmps44
 go_wp2_with fail
 go_ret
 exact ⟨rfl, heap_alloc_new w _, below_alloc w _⟩
theorem info_arow : (Try.prog.info? 93).map (fun i => (i.zero, i.size, i.bytes)) = some (some (.slice none 0 0), 1, 24) := by kernel_rfl
theorem getD_app {α : Type} (l : List α) (a d : α) (i : Nat) : (l ++ [a]).getD i d = if i < l.length then l.getD i d else if i = l.length then a else d := by
 by_cases h : i < l.length
 ·rw [if_pos h]; simp [List.getD, List.getElem?_append_left h]
 ·rw [if_neg h]
  by_cases e : i = l.length
  ·subst e; simp [List.getD]
  ·rw [if_neg e]
   have : (l ++ [a])[i]? = none := List.getElem?_eq_none (by simp; omega)
   simp [List.getD, this]
/-- a register's row more -/
theorem VwM.push {w0 w w' : World} {k : VwK} {x : AS} {sp : List Sp} {g : Nat} {v' : Value} (h : VwM w0 w k x sp) (hr : RowW w g 0) (hge : w0.heap.size ≤ g) (hv : g ≠ k.bv) (hm : ¬ k.mine g) (hN : k.bs.length + 1 ≤ k.N)
  (ho : w'.ownsRow w0.heap.size 93 1 v' (k.bs.length + 1) (k.bs.map slW ++ [slW g])) (hg : w.grownBy w' k.vR.ownBlock) (hd : v'.ownBlock = k.vR.ownBlock ∨ v'.ownBlock = some w.heap.size) :
  VwM w0 (w'.setCell ⟨k.bv, 7, none⟩ v') { k with bs := k.bs ++ [g], vR := v' } ⟨x.regs ++ [0], x.out⟩ sp := by
 have hne : ∀ {b : Nat} {t : TypeId} {cc : Array Value}, w.heap[b]? = some (.cells cc t (0, 0)) → 93 ≠ t → w'.heap[b]? = w.heap[b]? := fun {b} {t} {cc} hb he => hg.block b (Array.getElem?_eq_some_iff.1 hb).1 (fun e => ne_row h.own hb he e.symm)
 have hbv' : w'.heap[k.bv]? = some (.cells k.cells.toArray 95 (0, 0)) := (hne h.hv (by decide)).trans h.hv
 have hB : But k.bv w' (w'.setCell ⟨k.bv, 7, none⟩ v') := But.setCell k.bv 7 w' v'
 have hgr := but_grownK hB
 have hrow : ∀ {b y : Nat}, RowW w b y → RowW (w'.setCell ⟨k.bv, 7, none⟩ v') b y := fun {b y} hb => by
  have e1 := hne (show w.heap[b]? = _ from hb) (by decide)
  have e2 : w'.heap[b]? = some (.cells #[.int .u64 (y : Int)] 156) := e1.trans hb
  exact (hB.block b (Array.getElem?_eq_some_iff.1 e2).1 (ne_heap e2 hbv' (by decide))).trans e2
 refine ⟨h.pv, ?_, ?_, ?_, ⟨hrow h.out.1, h.out.2⟩, ?_, by simp [h.xl], h.sl, by simpa using hN, ?_, ?_, ?_, ?_⟩
 ·have := heap_setCell_same w' k.bv 7 _ _ v' hbv'
  rw [this]
  rfl
 ·have h2 := ho.kept hgr (.inr (ne_row ho hbv' (by decide)))
  simpa using h2
 ·intro r hrl
  dsimp only at hrl ⊢
  rw [List.length_append, List.length_singleton] at hrl
  rw [getD_app, getD_app, h.xl]
  by_cases e : r < k.bs.length
  ·rw [if_pos e, if_pos e]
   exact ⟨hrow (h.row r e).1, (h.row r e).2⟩
  ·rw [if_neg e, if_neg e, if_pos (by omega), if_pos (by omega)]
   exact ⟨hrow hr, by decide⟩
 ·have h1 : w'.ownsRow w0.heap.size 100 4 k.vS k.N (sp.flatMap spCells) := h.spo.kept hg (by
   rcases rows_ne h.spo h.own (by decide) with e | e
   ·exact .inl e
   ·exact .inr e)
  exact h1.kept hgr (.inr (ne_row h1 hbv' (by decide)))
 ·intro i j hi hj he
  dsimp only at hi hj he
  rw [List.length_append, List.length_singleton] at hi hj
  rw [getD_app, getD_app] at he
  by_cases e1 : i < k.bs.length
  ·by_cases e2 : j < k.bs.length
   ·rw [if_pos e1, if_pos e2] at he; exact h.inj i j e1 e2 he
   ·rw [if_pos e1, if_neg e2, if_pos (by omega)] at he
    exact absurd (show k.mine g from .inr (.inl (by rw [← he]; simp [List.getD, e1]))) hm
  ·by_cases e2 : j < k.bs.length
   ·rw [if_neg e1, if_pos (by omega), if_pos e2] at he
    exact absurd (show k.mine g from .inr (.inl (by rw [he]; simp [List.getD, e2]))) hm
   ·omega
 ·intro i hi
  dsimp only at hi ⊢
  rw [List.length_append, List.length_singleton] at hi
  rw [getD_app]
  by_cases e1 : i < k.bs.length
  ·rw [if_pos e1]; exact h.neO i e1
  ·rw [if_neg e1, if_pos (by omega)]
   exact fun e => hm (.inl e)
 ·refine ⟨h.ge.1, h.ge.2.1, fun i hi => ?_⟩
  dsimp only at hi ⊢
  rw [List.length_append, List.length_singleton] at hi
  rw [getD_app]
  by_cases e1 : i < k.bs.length
  ·rw [if_pos e1]; exact h.ge.2.2 i e1
  ·rw [if_neg e1, if_pos (by omega)]; exact hge
 ·have h1 : Below w0.heap.size w0 w' := h.below.grown hg h.below.size (fun b e => (World.ownsRow.lt h.own b e).1)
  exact h1.setCell (p := ⟨k.bv, 7, none⟩) h.ge.1 v'
end Go.Proofs.Ytkhfddodmjnecaa

set_option linter.all false
namespace Go.Proofs.Ytkhfddodmjnecaa
open Go.ChangeShapes Go.WideShapes Go.ChangeAt Go.RowKit
set_option maxHeartbeats 1000000
set_option linter.unusedVariables false
set_option maxRecDepth 20000

def rowOf (b n : Nat) : Value := .slice (some ⟨b, 0, none⟩) n n
/-- what stays in a run -/
structure RK where
 wp : World
 br : Nat
 bm : Nat
 vg : Value
 vd : Value
 vp : Value
 va : Value
 vi : Value
 m : Md
 at' : List Int
 en : Int
 inp : List Int
/-- what turns in a run -/
structure RS where
 mem : List Int
 out : List Int
 ins : Int
 exit : Int
 e : Int
 fuel : Int
 deep : Int
def RS.cells (k : RK) (vo : Value) (s : RS) : List Value := [k.vg, k.vd, k.vp, .int .i64 k.m.main, rowOf k.bm 65536, k.va, .int .i64 k.en, k.vi, vo, .int .i64 s.ins, .int .u32 s.exit, .int .i64 s.e, .int .i64 s.fuel, .int .i64 s.deep]
structure Rn (k : RK) (w : World) (vo : Value) (s : RS) : Prop where
 bx : w.ownsRow k.wp.heap.size 162 14 (rowOf k.br 1) 1 (s.cells k vo)
 mm : w.ownsRow k.wp.heap.size 5 1 (rowOf k.bm 65536) 65536 (s.mem.map (Value.int .u8))
 oo : w.ownsRow k.wp.heap.size 36 1 vo s.out.length (s.out.map (Value.int .u32))
 aa : w.ownsRow k.wp.heap.size 3 1 k.va k.at'.length (k.at'.map (Value.int .i64))
 md : MdV k.wp (.agg #[k.vg, k.vd, k.vp, .int .i64 k.m.main]) k.m
 ii : RdW k.wp k.vi k.inp
 below : Below k.wp.heap.size k.wp w
/-- two rows of different types lie in different blocks -/
theorem rows_neR {w : World} {B B' s s' n n' : Nat} {e e' : TypeId} {v v' : Value} {xs xs' : List Value} (h : w.ownsRow B e s v n xs) (h' : w.ownsRow B' e' s' v' n' xs') (he : e ≠ e') : v.ownBlock = none ∨ v.ownBlock ≠ v'.ownBlock := by
 obtain ⟨-, ⟨rfl, -⟩ | ⟨g, cap, cur, rfl, -, hg, -⟩⟩ := h
 ·exact .inl rfl
 ·obtain ⟨-, ⟨rfl, -⟩ | ⟨g', cap', cur', rfl, -, hg', -⟩⟩ := h'
  ·exact .inr (by simp [Value.ownBlock])
  ·refine .inr fun e2 => he ?_
   simp only [Value.ownBlock, Option.some.injEq] at e2
   subst e2
   rw [hg] at hg'
   simp at hg'
   exact hg'.2
/-- all but the run's own blocks stays -/
structure Kp (k : RK) (vo vo' : Value) (w w' : World) : Prop where
 size : w.heap.size ≤ w'.heap.size
 «to» : vo'.ownBlock = vo.ownBlock ∨ ∃ g, vo'.ownBlock = some g ∧ w.heap.size ≤ g
 keep : ∀ b, b < w.heap.size → b ≠ k.br → b ≠ k.bm → some b ≠ vo.ownBlock → w'.heap[b]? = w.heap[b]?
theorem Kp.refl (k : RK) (vo : Value) (w : World) : Kp k vo vo w w := ⟨Nat.le_refl _, .inl rfl, fun _ _ _ _ _ => rfl⟩
theorem Kp.trans {k : RK} {v1 v2 v3 : Value} {w1 w2 w3 : World} (h : Kp k v1 v2 w1 w2) (h' : Kp k v2 v3 w2 w3) : Kp k v1 v3 w1 w3 := by
 refine ⟨Nat.le_trans h.size h'.size, ?_, fun b hb h1 h2 h3 => ?_⟩
 ·rcases h'.to with e | ⟨g, e, hg⟩
  ·rw [e]; exact h.to
  ·exact .inr ⟨g, e, Nat.le_trans h.size hg⟩
 ·rw [h'.keep b (Nat.lt_of_lt_of_le hb h.size) h1 h2, h.keep b hb h1 h2 h3]
  rcases h.to with e | ⟨g, e, hg⟩
  ·rw [e]; exact h3
  ·rw [e]; intro e2; simp only [Option.some.injEq] at e2; omega
theorem Kp.of_below {k : RK} {vo : Value} {w w' : World} (h : Below w.heap.size w w') : Kp k vo vo w w' := ⟨h.size, .inl rfl, fun b hb _ _ _ => h.block b hb⟩
theorem Kp.cell {k : RK} {vo vo' : Value} {w w' : World} (h : Kp k vo vo' w w') {b o : Nat} {v : Value} (h1 : b ≠ k.br) (h2 : b ≠ k.bm) (h3 : some b ≠ vo.ownBlock) (hv : w.cell? ⟨b, o, none⟩ = some v) : w'.cell? ⟨b, o, none⟩ = some v :=
 (World.cell?_of_block (a := ⟨b, o, none⟩) (h.keep b (World.block_lt_of_cell? w _ hv) h1 h2 h3)).trans hv
section
variable {k : RK} {w w' : World} {vo : Value} {s : RS}
theorem Rn.grow (h : Rn k w vo s) (hb : Below w.heap.size w w') : Rn k w' vo s :=
 ⟨own_below h.bx hb, own_below h.mm hb, own_below h.oo hb, own_below h.aa hb, h.md, h.ii, h.below.trans (hb.mono h.below.size)⟩
theorem Rn.brLt (h : Rn k w vo s) : k.wp.heap.size ≤ k.br ∧ k.br < w.heap.size := own_lt h.bx rfl
theorem Rn.bmLt (h : Rn k w vo s) : k.wp.heap.size ≤ k.bm ∧ k.bm < w.heap.size := own_lt h.mm rfl
theorem Rn.ne (h : Rn k w vo s) : k.br ≠ k.bm := fun e => by
 rcases rows_neR h.bx h.mm (by decide) with h | h
 ·cases h
 ·exact h (congrArg some e)
theorem Rn.neO (h : Rn k w vo s) : some k.br ≠ vo.ownBlock := by
 rcases rows_neR h.bx h.oo (by decide) with h | h
 ·cases h
 ·exact h
theorem Rn.c (h : Rn k w vo s) (j : Nat) (hj : j < 14) : w.cell? ⟨k.br, j, none⟩ = (s.cells k vo)[j]? := h.bx.cellAt j (by omega)
end
end Go.Proofs.Ytkhfddodmjnecaa

set_option linter.all false
namespace Go.Proofs.Ytkhfddodmjnecaa
open Go.ChangeShapes Go.WideShapes Go.ChangeAt Go.RowKit
set_option maxHeartbeats 2000000
set_option linter.unusedVariables false
set_option maxRecDepth 20000

section
variable {k : RK} {w : World} {vo : Value} {s : RS}
/-- where so many bytes lie: a place that may be -/
def placeF (a size : Int) : Bool := decide (0 ≤ a - 268435456) && (decide (a - 268435456 ≤ 65536 - size) && decide ((a - 268435456) % size = 0))
/-- bytes, the least one first -/
def loadP (mem : List Int) (n : Nat) : Nat → Int
 | 0 => 0
 | i + 1 => loadP mem n i + mem.getD (n + i) 0 * 256 ^ i
def MemOk (mem : List Int) : Prop := ∀ j, 0 ≤ mem.getD j 0 ∧ mem.getD j 0 < 256
theorem loadP_bd (mem : List Int) (h : MemOk mem) (n : Nat) : ∀ i, 0 ≤ loadP mem n i ∧ loadP mem n i < 256 ^ i
 | 0 => by simp [loadP]
 | i + 1 => by
  have ih := loadP_bd mem h n i
  have hb := h (n + i)
  have hp : (0 : Int) < 256 ^ i := Int.pow_pos (by decide)
  unfold loadP
  generalize mem.getD (n + i) 0 = b at *
  generalize loadP mem n i = l at *
  rw [Int.pow_succ]
  generalize (256 : Int) ^ i = q at *
  refine ⟨Int.add_nonneg ih.1 (Int.mul_nonneg hb.1 (by omega)), ?_⟩
  have : b * q ≤ 255 * q := Int.mul_le_mul_of_nonneg_right (by omega) (by omega)
  omega
/-- bytes put, the least one first -/
def storeP (mem : List Int) (n : Nat) (v : Int) : Nat → List Int
 | 0 => mem
 | i + 1 => (storeP mem n v i).set (n + i) (v / 256 ^ i % 256)
end
end Go.Proofs.Ytkhfddodmjnecaa

set_option linter.all false
namespace Go.Proofs.Ytkhfddodmjnecaa
open Go.ChangeShapes Go.WideShapes Go.ChangeAt Go.RowKit
set_option maxHeartbeats 2000000
set_option linter.unusedVariables false
set_option maxRecDepth 20000

section
variable {k : RK} {w : World} {vo : Value} {s : RS}
end
end Go.Proofs.Ytkhfddodmjnecaa
