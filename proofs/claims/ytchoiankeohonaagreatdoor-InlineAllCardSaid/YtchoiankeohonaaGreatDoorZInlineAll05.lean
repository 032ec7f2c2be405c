/-
 Which modules and procedures of the middle language are right, as plain functions.; Rows that the call owns: one more element, of any size; what stays where one row alone has turned.; Own rows of structs: their cells one struct behind the other.; A run of the middle language in memory: the runner's struct, its memory, what it puts out, where the globals lie.
-/
import Derived.Test.YtchoiankeohonaaGreatDoorZInlineAll04
import Derived.Test.YtchoiankeohonaaGreatDoorZInlineAll01
import Derived.Test.YtchoiankeohonaaGreatDoorZInlineAll03
import Derived.Test.YtchoiankeohonaaGreatDoorZInlineAll02
import Derived.Test.YtchoiankeohonaaGreatDoorRows
import Derived.ProofKit
import Derived.Below
import Derived.Maps.AppendAt
import Derived.Laws.OwnMore

set_option linter.all false
namespace Go.Proofs.YtchoiankeohonaaGreatDoor

def offF (n : Int) : Bool := decide (-32768 ≤ n) && decide (n ≤ 32768)
def slotF (s : Sl) : Bool := decide (1 ≤ s.size) && (decide (s.size ≤ 32768) && (s.align == 1 || s.align == 4))
def regF (p : Pr) (r : Int) (should : Bool) : Bool := if should = true then decide (0 ≤ r) && decide (r < p.regs) else r == -1
def blockF (p : Pr) (n : Int) : Bool := decide (0 ≤ n) && decide (n < p.blks.length)
def endF (p : Pr) (b : Bk) : Bool :=
 if b.fin = 1 then blockF p b.to && (b.a == -1 && b.els == 0)
 else if b.fin = 2 then blockF p b.to && (blockF p b.els && regF p b.a true)
 else if b.fin = 3 then regF p b.a (!p.void) && (b.to == 0 && b.els == 0)
 else false
/-- an instruction without what its operation has -/
def plainI (i : In) : In :=
 { op := i.op, d := -1, a := -1, b := -1, args := [], log := if i.op = 6 ∨ defI i ≠ -1 then false else i.log, num := if i.op = 1 then 0 else i.num, fn := if i.op = 3 ∨ i.op = 4 then 0 else i.fn, off := if i.op = 5 ∨ i.op = 6 ∨ i.op = 7 ∨ i.op = 8 then 0 else i.off, size := if i.op = 5 ∨ i.op = 6 then 0 else i.size, obj := if i.op = 7 ∨ i.op = 8 ∨ i.op = 9 then 0 else i.obj }
def bareF (i : In) : Bool :=
 (plainI i).fn == 0 && ((plainI i).obj == 0 && ((plainI i).off == 0 && ((plainI i).size == 0 && ((plainI i).num == 0 && (!(plainI i).log && (i.op == 9 || decide (i.args.length = 0)))))))
def callF (m : Md) (p : Pr) (i : In) : Bool :=
 decide (0 ≤ i.obj) && (decide (i.obj < m.procs.length) && (decide ((i.args.length : Int) = (m.procs.getD i.obj.toNat default).params) && (regF p i.d (!(m.procs.getD i.obj.toNat default).void) && i.args.all fun r => regF p r true)))
/-- what an operation has beside registers -/
def moreF (m : Md) (p : Pr) (i : In) : Bool :=
 if i.op = 3 then decide (1 ≤ i.fn) && decide (i.fn ≤ 16)
 else if i.op = 4 then decide (17 ≤ i.fn) && decide (i.fn ≤ 19)
 else if i.op = 5 ∨ i.op = 6 then (i.size == 1 || i.size == 4) && offF i.off
 else if i.op = 7 then (decide (0 ≤ i.obj) && decide (i.obj < p.objs.length)) && offF i.off
 else if i.op = 8 then (decide (0 ≤ i.obj) && decide (i.obj < m.globs.length)) && offF i.off
 else true
def okI (m : Md) (p : Pr) (i : In) : Bool :=
 (decide (1 ≤ i.op) && (decide (i.op ≤ 12) && bareF i)) &&
 if i.op = 9 then callF m p i && (regF p i.a false && regF p i.b false)
 else (regF p i.d (i.op != 6 && (i.op != 10 && i.op != 12)) && (regF p i.a (readsA i.op) && regF p i.b (readsB i.op))) && moreF m p i
def okB (m : Md) (p : Pr) (b : Bk) : Bool := b.ins.all (okI m p) && endF p b
def insN (p : Pr) : Nat := (p.blks.map fun b => b.ins.length).sum
def okHead (p : Pr) : Bool :=
 decide (0 ≤ p.params) && (decide (p.params ≤ 6) && (decide (p.params ≤ p.regs) && (decide (p.regs ≤ 8000) && (decide (p.objs.length ≤ 400) && (decide (1 ≤ p.blks.length) && (decide (p.blks.length ≤ 4000) && (p.objs.all slotF && decide (insN p ≤ 20000))))))))
def okP (m : Md) (p : Pr) : Bool := okHead p && p.blks.all (okB m p)
def dataF (m : Md) : Bool := (List.range m.data.length).all fun k => decide (((m.data.getD k []).length : Int) = (m.globs.getD k default).size)
def okHeadM (m : Md) : Bool :=
 decide (m.data.length = m.globs.length) && (decide (m.globs.length ≤ 200) && (m.globs.all slotF && (decide (1 ≤ m.procs.length) && (decide (m.procs.length ≤ 200) && (decide (0 ≤ m.main) && decide (m.main < m.procs.length))))))
def okM (m : Md) : Bool :=
 okHeadM m && (dataF m && (((m.procs.getD m.main.toNat default).params == 0 && !(m.procs.getD m.main.toNat default).void) && m.procs.all (okP m)))
/-- sizes that no sum of 64 bits leaves -/
structure SzP (p : Pr) : Prop where
 blks : p.blks.length ≤ 100000
 ins : ∀ b ∈ p.blks, b.ins.length ≤ 100000
structure SzM (m : Md) : Prop where
 procs : ∀ p ∈ m.procs, SzP p
end Go.Proofs.YtchoiankeohonaaGreatDoor

set_option linter.all false
namespace Go.Proofs.YtchoiankeohonaaGreatDoor
open Go.ChangeShapes Go.WideShapes Go.ChangeAt Go.RowKit
set_option maxHeartbeats 1000000
set_option linter.unusedVariables false
set_option maxRecDepth 20000

/-- append of one element that lies in a block of its own, for rows of any element -/
theorem appG (t e : TypeId) {z : Value} {s bytes : Nat} (hinf : (Tryz.prog.info? e).map (fun i => (i.zero, i.size, i.bytes)) = some (some z, s, bytes)) (ht : Tryz.prog.underlying t = some (.slice e)) (hz : z.cells.size = s) (h0 : 0 < s) (hbt : bytes ≤ 128) (ys : List Value) (hyl : ys.length = s) (hy : ∀ u ∈ ys, u.oneCell' = true)
  {ops : Array Oper} {rest : List Oper} {o : Oper} {a : Act} {W : World} {B : Nat} {v : Value} {m : Nat} {xs : List Value} {g : Nat} {Q : Exit → Act → World → Prop} {S x : Operand} (hown : W.ownsRow B e s v m xs) (hgd : o.guard = none)
  (ho : o.op = .call { callee := .builtin .append, args := #[S, x], argTypes := #[t, t] }) (hs : a.eval S = v)
  (hx : a.eval x = .slice (some ⟨g, 0, none⟩) 1 1) (hc : ∀ j u, ys[j]? = some u → W.cell? ⟨g, j, none⟩ = some u) (hlen : m ≤ 1000000000) (hB : B ≤ W.heap.size)
  (h : ∀ v' w', w'.ownsRow B e s v' (m + 1) (xs ++ ys) → W.grownBy w' v.ownBlock → (v'.ownBlock = v.ownBlock ∨ v'.ownBlock = some W.heap.size) → wpList Tryz.prog ops Q rest (a.put o.dst v') w') : wpList Tryz.prog ops Q (o :: rest) a W := by
 obtain ⟨i0, hi, hz0, hz1, hz2⟩ := info_parts hinf
 refine wpList_append_own_at _ hgd S x t ho B e i0 z s bytes ht hi hz0 hz1 hz2 hz h0 v m _ hs hown ⟨g, 0, none⟩ 1 1 ys hx (by omega) ?_ hy ?_ ?_ hB ?_
 ·intro j u hj
  have := hc j u hj
  have e : ({ block := g, off := 0 } : Addr).add j = ⟨g, j, none⟩ := by by_cases hj0 : j = 0 <;> simp [Addr.add, hj0]
  rw [e]; exact this
 ·unfold maxLen; omega
 ·have : (m + 1) * bytes ≤ (m + 1) * 128 := Nat.mul_le_mul_left _ hbt
  omega
 ·intro v' w' h1 h2 _ h4
  exact h v' w' h1 h2 h4
/-- the one cell of a block just made -/
theorem cell_new1 (w : World) (x : Value) (t : TypeId) (g : Nat) (hg : g = w.heap.size) : ∀ j u, [x][j]? = some u → (w.alloc (.cells #[x] t)).cell? ⟨g, j, none⟩ = some u := by
 subst hg
 intro j u hj
 match j, hj with
 | 0, hj =>
  simp at hj; subst hj
  exact (cell_of_heap (heap_alloc_new w _) 0)
theorem cell_newL (w : World) (c : Array Value) (t : TypeId) (g : Nat) (hg : g = w.heap.size) : ∀ j u, c.toList[j]? = some u → (w.alloc (.cells c t)).cell? ⟨g, j, none⟩ = some u := by
 subst hg
 intro j u hj
 have := cell_of_heap (heap_alloc_new w (.cells c t)) j
 rw [this]
 simpa using hj
/-- a slice's block is another one than row -/
def Apart (v : Value) (row : Option Nat) : Prop := ∀ b o n c, v = .slice (some ⟨b, o, none⟩) n c → some b ≠ row
theorem Apart.none {v : Value} : Apart v none := fun _ _ _ _ _ => by simp
theorem cell_grown {w w' : World} {row : Option Nat} (hg : w.grownBy w' row) {b o : Nat} {u : Value} (hb : some b ≠ row) (h : w.cell? ⟨b, o, Option.none⟩ = some u) : w'.cell? ⟨b, o, Option.none⟩ = some u :=
 (World.cell?_of_block (a := ⟨b, o, Option.none⟩) (hg.block b (World.block_lt_of_cell? w _ h) hb)).trans h
theorem own_lt {w : World} {B s n g : Nat} {e : TypeId} {v : Value} {xs : List Value} (h : w.ownsRow B e s v n xs) (hg : v.ownBlock = some g) : B ≤ g ∧ g < w.heap.size := by
 obtain ⟨-, ⟨rfl, -⟩ | ⟨b, cap, cur, rfl, hb, hgg, -⟩⟩ := h
 ·cases hg
 ·simp only [Value.ownBlock, Option.some.injEq] at hg
  subst hg
  exact ⟨hb, (Array.getElem?_eq_some_iff.1 hgg).1⟩
theorem below_grown {B : Nat} {w0 w w' : World} {row : Option Nat} (h : Below B w0 w) (hg : w.grownBy w' row) (hB : B ≤ w.heap.size) (hr : ∀ b, row = some b → B ≤ b) : Below B w0 w' :=
 ⟨hg.os.trans h.os, hg.tape.trans h.tape, hg.output.trans h.output, Nat.le_trans h.size hg.size, fun k hk => (hg.block k (by omega) (fun e => by have := hr k e.symm; omega)).trans (h.block k hk)⟩
theorem grown_below {w w' : World} (hb : Below w.heap.size w w') (row : Option Nat) : w.grownBy w' row := ⟨hb.os, hb.tape, hb.output, hb.size, fun k hk _ => hb.block k hk⟩
theorem own_below {w w' : World} {B s n : Nat} {e : TypeId} {v : Value} {xs : List Value} (h : w.ownsRow B e s v n xs) (hb : Below w.heap.size w w') : w'.ownsRow B e s v n xs :=
 h.kept (grown_below hb none) (by cases v.ownBlock <;> simp)
theorem own_nil (w : World) (B : Nat) (e : TypeId) (s : Nat) : w.ownsRow B e s (.slice none 0 0) 0 [] := World.ownsRow_nil _ _ _ _
/-- an own row of one-cell elements read as a row -/
theorem own_rows {w : World} {B : Nat} {e : TypeId} {v : Value} {α : Type} {l : List α} {f : α → Value} (d : α) (h : w.ownsRow B e 1 v l.length (l.map f)) : Rows' w v 1 l.length fun i c => c 0 = some (f (l.getD i d)) := by
 have H := h
 obtain ⟨-, ⟨rfl, h0⟩ | ⟨b, cap, cur, rfl, hb, hgg, hn, hc, -⟩⟩ := h
 ·rw [h0]; exact ⟨none, 0, rfl, Nat.le_refl _, by simp [maxLen], fun i hi => absurd hi (Nat.not_lt_zero i)⟩
 ·refine ⟨_, _, rfl, hn, hc, fun i hi => ⟨b, 0, rfl, ?_⟩⟩
  have := H.cellAt i (by simpa using hi)
  simp only [Nat.mul_one, Nat.add_zero, Nat.zero_add] at this ⊢
  rw [this]
  simp [List.getD, hi]
end Go.Proofs.YtchoiankeohonaaGreatDoor

set_option linter.all false
namespace Go.Proofs.YtchoiankeohonaaGreatDoor
open Go.ChangeShapes Go.WideShapes Go.ChangeAt Go.RowKit
set_option maxHeartbeats 1000000
set_option linter.unusedVariables false
set_option maxRecDepth 20000

theorem flat_len {α β : Type} (f : α → List β) (s : Nat) (hf : ∀ a, (f a).length = s) : ∀ P : List α, (P.flatMap f).length = P.length * s
 | [] => by simp
 | a :: P => by
  rw [List.flatMap_cons, List.length_append, hf, flat_len f s hf P, List.length_cons, Nat.succ_mul]; omega
theorem flat_at {α β : Type} [Inhabited α] (f : α → List β) (s : Nat) (hf : ∀ a, (f a).length = s) : ∀ (P : List α) (i j : Nat), i < P.length → j < s → (P.flatMap f)[i * s + j]? = (f (P.getD i default))[j]?
 | [], i, j, h, _ => absurd h (Nat.not_lt_zero i)
 | a :: P, 0, j, _, hj => by
  rw [List.flatMap_cons, Nat.zero_mul, Nat.zero_add, List.getElem?_append_left (by rw [hf]; exact hj)]
  rfl
 | a :: P, i + 1, j, h, hj => by
  have ih := flat_at f s hf P i j (by simpa using h) hj
  rw [List.flatMap_cons, List.getElem?_append_right (by rw [hf, Nat.succ_mul]; omega), hf, show (i + 1) * s + j - s = i * s + j by rw [Nat.succ_mul]; omega, ih]
  rfl
/-- an own row of structs read as a row -/
theorem own_flat {w : World} {B s : Nat} {e : TypeId} {v : Value} {α : Type} [Inhabited α] {P : List α} {f : α → List Value} (hs : 0 < s) (hf : ∀ a, (f a).length = s) (h : w.ownsRow B e s v P.length (P.flatMap f)) : Rows' w v s P.length fun i c => ∀ j u, (f (P.getD i default))[j]? = some u → c j = some u := by
 have H := h
 obtain ⟨-, ⟨rfl, h0⟩ | ⟨b, cap, cur, rfl, hb, hgg, hn, hc, -⟩⟩ := h
 ·rw [h0]; exact ⟨none, 0, rfl, Nat.le_refl _, by simp [maxLen], fun i hi => absurd hi (Nat.not_lt_zero i)⟩
 ·refine ⟨_, _, rfl, hn, hc, fun i hi => ⟨b, 0, rfl, fun j u hu => ?_⟩⟩
  have hj : j < s := by have := (List.getElem?_eq_some_iff.1 hu).1; rw [hf] at this; exact this
  have hlt : i * s + j < P.length * s := by
   have : (i + 1) * s ≤ P.length * s := Nat.mul_le_mul_right _ hi
   rw [Nat.succ_mul] at this
   omega
  have := H.cellAt (i * s + j) hlt
  rw [flat_at f s hf P i j hi hj, hu] at this
  rw [Nat.zero_add]; exact this
theorem take_snocD {α : Type} [Inhabited α] (l : List α) (k : Nat) (h : k < l.length) : l.take (k + 1) = l.take k ++ [l.getD k default] := by
 rw [List.take_succ]; simp [List.getD, h]
theorem flat_snoc {α β : Type} (f : α → List β) (P : List α) (a : α) : (P ++ [a]).flatMap f = P.flatMap f ++ f a := by simp
/-- the cells of a block just made, of the length of a list -/
theorem cell_newX (w : World) (c : List Value) (t : TypeId) (g : Nat) (hg : g = w.heap.size) : ∀ j u, c[j]? = some u → (w.alloc (.cells c.toArray t)).cell? ⟨g, j, none⟩ = some u := cell_newL w c.toArray t g hg
end Go.Proofs.YtchoiankeohonaaGreatDoor

set_option linter.all false
namespace Go.Proofs.YtchoiankeohonaaGreatDoor
open Go.ChangeShapes Go.WideShapes Go.ChangeAt Go.RowKit
set_option maxHeartbeats 1000000
set_option linter.unusedVariables false
set_option maxRecDepth 20000

def rowOf (b n : Nat) : Value := .slice (some ⟨b, 0, none⟩) n n
/-- what stays in a run -/
structure RK where
 wp : World
 br : Nat
 bm : Nat
 vg : Value
 vd : Value
 vp : Value
 va : Value
 vi : Value
 m : Md
 at' : List Int
 en : Int
 inp : List Int
/-- what turns in a run -/
structure RS where
 mem : List Int
 out : List Int
 ins : Int
 exit : Int
 e : Int
 fuel : Int
 deep : Int
def RS.cells (k : RK) (vo : Value) (s : RS) : List Value := [k.vg, k.vd, k.vp, .int .i64 k.m.main, rowOf k.bm 65536, k.va, .int .i64 k.en, k.vi, vo, .int .i64 s.ins, .int .u32 s.exit, .int .i64 s.e, .int .i64 s.fuel, .int .i64 s.deep]
structure Rn (k : RK) (w : World) (vo : Value) (s : RS) : Prop where
 bx : w.ownsRow k.wp.heap.size 80 14 (rowOf k.br 1) 1 (s.cells k vo)
 mm : w.ownsRow k.wp.heap.size 5 1 (rowOf k.bm 65536) 65536 (s.mem.map (Value.int .u8))
 oo : w.ownsRow k.wp.heap.size 39 1 vo s.out.length (s.out.map (Value.int .u32))
 aa : w.ownsRow k.wp.heap.size 3 1 k.va k.at'.length (k.at'.map (Value.int .i64))
 md : MdV k.wp (.agg #[k.vg, k.vd, k.vp, .int .i64 k.m.main]) k.m
 ii : RdW k.wp k.vi k.inp
 below : Below k.wp.heap.size k.wp w
/-- two rows of different types lie in different blocks -/
theorem rows_neR {w : World} {B B' s s' n n' : Nat} {e e' : TypeId} {v v' : Value} {xs xs' : List Value} (h : w.ownsRow B e s v n xs) (h' : w.ownsRow B' e' s' v' n' xs') (he : e ≠ e') : v.ownBlock = none ∨ v.ownBlock ≠ v'.ownBlock := by
 obtain ⟨-, ⟨rfl, -⟩ | ⟨g, cap, cur, rfl, -, hg, -⟩⟩ := h
 ·exact .inl rfl
 ·obtain ⟨-, ⟨rfl, -⟩ | ⟨g', cap', cur', rfl, -, hg', -⟩⟩ := h'
  ·exact .inr (by simp [Value.ownBlock])
  ·refine .inr fun e2 => he ?_
   simp only [Value.ownBlock, Option.some.injEq] at e2
   subst e2
   rw [hg] at hg'
   simp at hg'
   exact hg'.2
/-- all but the run's own blocks stays -/
structure Kp (k : RK) (vo vo' : Value) (w w' : World) : Prop where
 size : w.heap.size ≤ w'.heap.size
 «to» : vo'.ownBlock = vo.ownBlock ∨ ∃ g, vo'.ownBlock = some g ∧ w.heap.size ≤ g
 keep : ∀ b, b < w.heap.size → b ≠ k.br → b ≠ k.bm → some b ≠ vo.ownBlock → w'.heap[b]? = w.heap[b]?
theorem Kp.refl (k : RK) (vo : Value) (w : World) : Kp k vo vo w w := ⟨Nat.le_refl _, .inl rfl, fun _ _ _ _ _ => rfl⟩
theorem Kp.trans {k : RK} {v1 v2 v3 : Value} {w1 w2 w3 : World} (h : Kp k v1 v2 w1 w2) (h' : Kp k v2 v3 w2 w3) : Kp k v1 v3 w1 w3 := by
 refine ⟨Nat.le_trans h.size h'.size, ?_, fun b hb h1 h2 h3 => ?_⟩
 ·rcases h'.to with e | ⟨g, e, hg⟩
  ·rw [e]; exact h.to
  ·exact .inr ⟨g, e, Nat.le_trans h.size hg⟩
 ·rw [h'.keep b (Nat.lt_of_lt_of_le hb h.size) h1 h2, h.keep b hb h1 h2 h3]
  rcases h.to with e | ⟨g, e, hg⟩
  ·rw [e]; exact h3
  ·rw [e]; intro e2; simp only [Option.some.injEq] at e2; omega
theorem Kp.of_below {k : RK} {vo : Value} {w w' : World} (h : Below w.heap.size w w') : Kp k vo vo w w' := ⟨h.size, .inl rfl, fun b hb _ _ _ => h.block b hb⟩
theorem Kp.cell {k : RK} {vo vo' : Value} {w w' : World} (h : Kp k vo vo' w w') {b o : Nat} {v : Value} (h1 : b ≠ k.br) (h2 : b ≠ k.bm) (h3 : some b ≠ vo.ownBlock) (hv : w.cell? ⟨b, o, none⟩ = some v) : w'.cell? ⟨b, o, none⟩ = some v :=
 (World.cell?_of_block (a := ⟨b, o, none⟩) (h.keep b (World.block_lt_of_cell? w _ hv) h1 h2 h3)).trans hv
section
variable {k : RK} {w w' : World} {vo : Value} {s : RS}
theorem Rn.grow (h : Rn k w vo s) (hb : Below w.heap.size w w') : Rn k w' vo s :=
 ⟨own_below h.bx hb, own_below h.mm hb, own_below h.oo hb, own_below h.aa hb, h.md, h.ii, h.below.trans (hb.mono h.below.size)⟩
theorem Rn.brLt (h : Rn k w vo s) : k.wp.heap.size ≤ k.br ∧ k.br < w.heap.size := own_lt h.bx rfl
theorem Rn.bmLt (h : Rn k w vo s) : k.wp.heap.size ≤ k.bm ∧ k.bm < w.heap.size := own_lt h.mm rfl
theorem Rn.neO (h : Rn k w vo s) : some k.br ≠ vo.ownBlock := by
 rcases rows_neR h.bx h.oo (by decide) with h | h
 ·cases h
 ·exact h
/-- a field of the runner is set -/
theorem Rn.setF (h : Rn k w vo s) (j : Nat) (x : Value) (s' : RS) (hs : (s.cells k vo).set j x = s'.cells k vo) (h1 : s'.mem = s.mem) (h2 : s'.out = s.out) : Rn k (w.setCell ⟨k.br, j, none⟩ x) vo s' ∧ Kp k vo vo w (w.setCell ⟨k.br, j, none⟩ x) := by
 obtain ⟨a, b⟩ := h.bx.stored j x
 rw [hs] at a
 refine ⟨⟨a, ?_, ?_, h.aa.kept b (rows_neR h.aa h.bx (by decide)), h.md, h.ii, h.below.setCell (p := ⟨k.br, j, none⟩) h.brLt.1 _⟩, ⟨by simp, .inl rfl, fun c hc n1 n2 n3 => b.block c hc (fun e => n1 (Option.some.inj e))⟩⟩
 ·rw [h1]; exact h.mm.kept b (rows_neR h.mm h.bx (by decide))
 ·rw [h2]; exact h.oo.kept b (rows_neR h.oo h.bx (by decide))
/-- a byte of the memory is set -/
theorem Rn.setM (h : Rn k w vo s) (j : Nat) (x : Int) : Rn k (w.setCell ⟨k.bm, j, none⟩ (.int .u8 x)) vo { s with mem := s.mem.set j x } ∧ Kp k vo vo w (w.setCell ⟨k.bm, j, none⟩ (.int .u8 x)) := by
 obtain ⟨a, b⟩ := h.mm.stored j (.int .u8 x)
 refine ⟨⟨h.bx.kept b (rows_neR h.bx h.mm (by decide)), ?_, h.oo.kept b (rows_neR h.oo h.mm (by decide)), h.aa.kept b (rows_neR h.aa h.mm (by decide)), h.md, h.ii, h.below.setCell (p := ⟨k.bm, j, none⟩) h.bmLt.1 _⟩, ⟨by simp, .inl rfl, fun c hc n1 n2 n3 => b.block c hc (fun e => n2 (Option.some.inj e))⟩⟩
 rw [List.map_set]; exact a
theorem Rn.c (h : Rn k w vo s) (j : Nat) (hj : j < 14) : w.cell? ⟨k.br, j, none⟩ = (s.cells k vo)[j]? := h.bx.cellAt j (by omega)
theorem Rn.cMem (h : Rn k w vo s) : w.cell? ⟨k.br, 4, none⟩ = some (.slice (some ⟨k.bm, 0, none⟩) 65536 65536) := h.c 4 (by decide)
theorem Rn.cEnd (h : Rn k w vo s) : w.cell? ⟨k.br, 6, none⟩ = some (.int .i64 k.en) := h.c 6 (by decide)
theorem Rn.cIn (h : Rn k w vo s) : w.cell? ⟨k.br, 7, none⟩ = some k.vi := h.c 7 (by decide)
theorem Rn.cOut (h : Rn k w vo s) : w.cell? ⟨k.br, 8, none⟩ = some vo := h.c 8 (by decide)
theorem Rn.cIns (h : Rn k w vo s) : w.cell? ⟨k.br, 9, none⟩ = some (.int .i64 s.ins) := h.c 9 (by decide)
theorem Rn.cExit (h : Rn k w vo s) : w.cell? ⟨k.br, 10, none⟩ = some (.int .u32 s.exit) := h.c 10 (by decide)
theorem Rn.cE (h : Rn k w vo s) : w.cell? ⟨k.br, 11, none⟩ = some (.int .i64 s.e) := h.c 11 (by decide)
theorem Rn.cFuel (h : Rn k w vo s) : w.cell? ⟨k.br, 12, none⟩ = some (.int .i64 s.fuel) := h.c 12 (by decide)
theorem Rn.cDeep (h : Rn k w vo s) : w.cell? ⟨k.br, 13, none⟩ = some (.int .i64 s.deep) := h.c 13 (by decide)
theorem Rn.frz (h : Rn k w vo s) (j : Nat) : w.frozen? ⟨k.br, j, none⟩ = false := h.bx.frozenAt j
theorem Rn.mlen (h : Rn k w vo s) : s.mem.length = 65536 := by simpa using h.mm.1
theorem Rn.cM (h : Rn k w vo s) (j : Nat) (hj : j < 65536) : w.cell? ⟨k.bm, j, none⟩ = some (.int .u8 (s.mem.getD j 0)) := by
 have e := h.mlen
 rw [h.mm.cellAt j (by omega)]
 simp [List.getD, show j < s.mem.length by omega]
end
end Go.Proofs.YtchoiankeohonaaGreatDoor
