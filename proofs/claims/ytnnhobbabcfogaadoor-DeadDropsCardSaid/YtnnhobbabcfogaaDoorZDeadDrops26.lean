/-
 Rows that the call owns: one more element, of any size; what stays where one row alone has turned.; Own rows of structs: their cells one struct behind the other.; Instructions, blocks, procedures and modules written out in the text: how they lie in memory.
-/
import Derived.Test.YtnnhobbabcfogaaDoorZDeadDrops15
import Derived.Test.YtnnhobbabcfogaaDoorZDeadDrops01
import Derived.Test.YtnnhobbabcfogaaDoorZDeadDrops00
import Derived.Test.YtnnhobbabcfogaaDoorRows
import Derived.ProofKit
import Derived.Below
import Derived.Maps.AppendAt
import Derived.Laws.OwnMore

set_option linter.all false
namespace Go.Proofs.YtnnhobbabcfogaaDoor
open Go.ChangeShapes Go.WideShapes Go.ChangeAt Go.RowKit
set_option maxHeartbeats 1000000
set_option linter.unusedVariables false
set_option maxRecDepth 20000

/-- append of one element that lies in a block of its own, for rows of any element -/
theorem appG (t e : TypeId) {z : Value} {s bytes : Nat} (hinf : (Tryd.prog.info? e).map (fun i => (i.zero, i.size, i.bytes)) = some (some z, s, bytes)) (ht : Tryd.prog.underlying t = some (.slice e)) (hz : z.cells.size = s) (h0 : 0 < s) (hbt : bytes ≤ 128) (ys : List Value) (hyl : ys.length = s) (hy : ∀ u ∈ ys, u.oneCell' = true)
  {ops : Array Oper} {rest : List Oper} {o : Oper} {a : Act} {W : World} {B : Nat} {v : Value} {m : Nat} {xs : List Value} {g : Nat} {Q : Exit → Act → World → Prop} {S x : Operand} (hown : W.ownsRow B e s v m xs) (hgd : o.guard = none)
  (ho : o.op = .call { callee := .builtin .append, args := #[S, x], argTypes := #[t, t] }) (hs : a.eval S = v)
  (hx : a.eval x = .slice (some ⟨g, 0, none⟩) 1 1) (hc : ∀ j u, ys[j]? = some u → W.cell? ⟨g, j, none⟩ = some u) (hlen : m ≤ 1000000000) (hB : B ≤ W.heap.size)
  (h : ∀ v' w', w'.ownsRow B e s v' (m + 1) (xs ++ ys) → W.grownBy w' v.ownBlock → (v'.ownBlock = v.ownBlock ∨ v'.ownBlock = some W.heap.size) → wpList Tryd.prog ops Q rest (a.put o.dst v') w') : wpList Tryd.prog ops Q (o :: rest) a W := by
 obtain ⟨i0, hi, hz0, hz1, hz2⟩ := info_parts hinf
 refine wpList_append_own_at _ hgd S x t ho B e i0 z s bytes ht hi hz0 hz1 hz2 hz h0 v m _ hs hown ⟨g, 0, none⟩ 1 1 ys hx (by omega) ?_ hy ?_ ?_ hB ?_
 ·intro j u hj
  have := hc j u hj
  have e : ({ block := g, off := 0 } : Addr).add j = ⟨g, j, none⟩ := by by_cases hj0 : j = 0 <;> simp [Addr.add, hj0]
  rw [e]; exact this
 ·unfold maxLen; omega
 ·have : (m + 1) * bytes ≤ (m + 1) * 128 := Nat.mul_le_mul_left _ hbt
  omega
 ·intro v' w' h1 h2 _ h4
  exact h v' w' h1 h2 h4
/-- the one cell of a block just made -/
theorem cell_new1 (w : World) (x : Value) (t : TypeId) (g : Nat) (hg : g = w.heap.size) : ∀ j u, [x][j]? = some u → (w.alloc (.cells #[x] t)).cell? ⟨g, j, none⟩ = some u := by
 subst hg
 intro j u hj
 match j, hj with
 | 0, hj =>
  simp at hj; subst hj
  exact (cell_of_heap (heap_alloc_new w _) 0)
theorem cell_newL (w : World) (c : Array Value) (t : TypeId) (g : Nat) (hg : g = w.heap.size) : ∀ j u, c.toList[j]? = some u → (w.alloc (.cells c t)).cell? ⟨g, j, none⟩ = some u := by
 subst hg
 intro j u hj
 have := cell_of_heap (heap_alloc_new w (.cells c t)) j
 rw [this]
 simpa using hj
/-- a slice's block is another one than row -/
def Apart (v : Value) (row : Option Nat) : Prop := ∀ b o n c, v = .slice (some ⟨b, o, none⟩) n c → some b ≠ row
theorem Apart.none {v : Value} : Apart v none := fun _ _ _ _ _ => by simp
theorem Apart.nil {row : Option Nat} : Apart (.slice Option.none 0 0) row := fun _ _ _ _ h => by cases h
theorem cell_grown {w w' : World} {row : Option Nat} (hg : w.grownBy w' row) {b o : Nat} {u : Value} (hb : some b ≠ row) (h : w.cell? ⟨b, o, Option.none⟩ = some u) : w'.cell? ⟨b, o, Option.none⟩ = some u :=
 (World.cell?_of_block (a := ⟨b, o, Option.none⟩) (hg.block b (World.block_lt_of_cell? w _ h) hb)).trans h
theorem Rows'.grown {w w' : World} {v : Value} {k n : Nat} {R R' : Nat → (Nat → Option Value) → Prop} {row : Option Nat} (h : Rows' w v k n R) (hg : w.grownBy w' row) (ha : Apart v row) (hR : ∀ i c c', Sub c c' → R i c → R' i c') : Rows' w' v k n R' := by
 obtain ⟨a, c, h1, h2, h3, h4⟩ := h
 refine ⟨a, c, h1, h2, h3, fun i hi => ?_⟩
 obtain ⟨b, o, e, r⟩ := h4 i hi
 subst e
 exact ⟨b, o, rfl, hR i _ _ (fun j v hv => cell_grown hg (ha b o n c h1) hv) r⟩
/-- an own row's block changed by an append is the old one or new: what was apart from it stays apart -/
theorem Apart.app {w : World} {v o o' : Value} (ha : Apart v o.ownBlock) (hlt : ∀ b p n c, v = .slice (some ⟨b, p, Option.none⟩) n c → b < w.heap.size) (h : o'.ownBlock = o.ownBlock ∨ o'.ownBlock = some w.heap.size) : Apart v o'.ownBlock := fun b p n c e => by
 rcases h with h | h
 ·rw [h]; exact ha b p n c e
 ·rw [h]
  have := hlt b p n c e
  intro e2
  simp only [Option.some.injEq] at e2
  omega
theorem own_lt {w : World} {B s n g : Nat} {e : TypeId} {v : Value} {xs : List Value} (h : w.ownsRow B e s v n xs) (hg : v.ownBlock = some g) : B ≤ g ∧ g < w.heap.size := by
 obtain ⟨-, ⟨rfl, -⟩ | ⟨b, cap, cur, rfl, hb, hgg, -⟩⟩ := h
 ·cases hg
 ·simp only [Value.ownBlock, Option.some.injEq] at hg
  subst hg
  exact ⟨hb, (Array.getElem?_eq_some_iff.1 hgg).1⟩
/-- what lies in a block made since lies apart from a row that was owned before -/
theorem Apart.new {w : World} {B s n : Nat} {e : TypeId} {v o : Value} {xs : List Value} (h : w.ownsRow B e s o n xs) (hv : ∀ b p n c, v = .slice (some ⟨b, p, Option.none⟩) n c → w.heap.size ≤ b) : Apart v o.ownBlock := fun b p n c e => by
 have := hv b p n c e
 intro e2
 have := own_lt h e2.symm
 omega
theorem below_grown {B : Nat} {w0 w w' : World} {row : Option Nat} (h : Below B w0 w) (hg : w.grownBy w' row) (hB : B ≤ w.heap.size) (hr : ∀ b, row = some b → B ≤ b) : Below B w0 w' :=
 ⟨hg.os.trans h.os, hg.tape.trans h.tape, hg.output.trans h.output, Nat.le_trans h.size hg.size, fun k hk => (hg.block k (by omega) (fun e => by have := hr k e.symm; omega)).trans (h.block k hk)⟩
theorem grown_below {w w' : World} (hb : Below w.heap.size w w') (row : Option Nat) : w.grownBy w' row := ⟨hb.os, hb.tape, hb.output, hb.size, fun k hk _ => hb.block k hk⟩
theorem own_below {w w' : World} {B s n : Nat} {e : TypeId} {v : Value} {xs : List Value} (h : w.ownsRow B e s v n xs) (hb : Below w.heap.size w w') : w'.ownsRow B e s v n xs :=
 h.kept (grown_below hb none) (by cases v.ownBlock <;> simp)
theorem own_nil (w : World) (B : Nat) (e : TypeId) (s : Nat) : w.ownsRow B e s (.slice none 0 0) 0 [] := World.ownsRow_nil _ _ _ _
/-- an own row of one-cell elements read as a row -/
theorem own_rows {w : World} {B : Nat} {e : TypeId} {v : Value} {α : Type} {l : List α} {f : α → Value} (d : α) (h : w.ownsRow B e 1 v l.length (l.map f)) : Rows' w v 1 l.length fun i c => c 0 = some (f (l.getD i d)) := by
 have H := h
 obtain ⟨-, ⟨rfl, h0⟩ | ⟨b, cap, cur, rfl, hb, hgg, hn, hc, -⟩⟩ := h
 ·rw [h0]; exact ⟨none, 0, rfl, Nat.le_refl _, by simp [maxLen], fun i hi => absurd hi (Nat.not_lt_zero i)⟩
 ·refine ⟨_, _, rfl, hn, hc, fun i hi => ⟨b, 0, rfl, ?_⟩⟩
  have := H.cellAt i (by simpa using hi)
  simp only [Nat.mul_one, Nat.add_zero, Nat.zero_add] at this ⊢
  rw [this]
  simp [List.getD, hi]
end Go.Proofs.YtnnhobbabcfogaaDoor

set_option linter.all false
namespace Go.Proofs.YtnnhobbabcfogaaDoor
open Go.ChangeShapes Go.WideShapes Go.ChangeAt Go.RowKit
set_option maxHeartbeats 1000000
set_option linter.unusedVariables false
set_option maxRecDepth 20000

theorem flat_len {α β : Type} (f : α → List β) (s : Nat) (hf : ∀ a, (f a).length = s) : ∀ P : List α, (P.flatMap f).length = P.length * s
 | [] => by simp
 | a :: P => by
  rw [List.flatMap_cons, List.length_append, hf, flat_len f s hf P, List.length_cons, Nat.succ_mul]; omega
theorem flat_at {α β : Type} [Inhabited α] (f : α → List β) (s : Nat) (hf : ∀ a, (f a).length = s) : ∀ (P : List α) (i j : Nat), i < P.length → j < s → (P.flatMap f)[i * s + j]? = (f (P.getD i default))[j]?
 | [], i, j, h, _ => absurd h (Nat.not_lt_zero i)
 | a :: P, 0, j, _, hj => by
  rw [List.flatMap_cons, Nat.zero_mul, Nat.zero_add, List.getElem?_append_left (by rw [hf]; exact hj)]
  rfl
 | a :: P, i + 1, j, h, hj => by
  have ih := flat_at f s hf P i j (by simpa using h) hj
  rw [List.flatMap_cons, List.getElem?_append_right (by rw [hf, Nat.succ_mul]; omega), hf, show (i + 1) * s + j - s = i * s + j by rw [Nat.succ_mul]; omega, ih]
  rfl
/-- an own row of structs read as a row -/
theorem own_flat {w : World} {B s : Nat} {e : TypeId} {v : Value} {α : Type} [Inhabited α] {P : List α} {f : α → List Value} (hs : 0 < s) (hf : ∀ a, (f a).length = s) (h : w.ownsRow B e s v P.length (P.flatMap f)) : Rows' w v s P.length fun i c => ∀ j u, (f (P.getD i default))[j]? = some u → c j = some u := by
 have H := h
 obtain ⟨-, ⟨rfl, h0⟩ | ⟨b, cap, cur, rfl, hb, hgg, hn, hc, -⟩⟩ := h
 ·rw [h0]; exact ⟨none, 0, rfl, Nat.le_refl _, by simp [maxLen], fun i hi => absurd hi (Nat.not_lt_zero i)⟩
 ·refine ⟨_, _, rfl, hn, hc, fun i hi => ⟨b, 0, rfl, fun j u hu => ?_⟩⟩
  have hj : j < s := by have := (List.getElem?_eq_some_iff.1 hu).1; rw [hf] at this; exact this
  have hlt : i * s + j < P.length * s := by
   have : (i + 1) * s ≤ P.length * s := Nat.mul_le_mul_right _ hi
   rw [Nat.succ_mul] at this
   omega
  have := H.cellAt (i * s + j) hlt
  rw [flat_at f s hf P i j hi hj, hu] at this
  rw [Nat.zero_add]; exact this
theorem take_snocD {α : Type} [Inhabited α] (l : List α) (k : Nat) (h : k < l.length) : l.take (k + 1) = l.take k ++ [l.getD k default] := by
 rw [List.take_succ]; simp [List.getD, h]
theorem flat_snoc {α β : Type} (f : α → List β) (P : List α) (a : α) : (P ++ [a]).flatMap f = P.flatMap f ++ f a := by simp
/-- the cells of a block just made, of the length of a list -/
theorem cell_newX (w : World) (c : List Value) (t : TypeId) (g : Nat) (hg : g = w.heap.size) : ∀ j u, c[j]? = some u → (w.alloc (.cells c.toArray t)).cell? ⟨g, j, none⟩ = some u := cell_newL w c.toArray t g hg
end Go.Proofs.YtnnhobbabcfogaaDoor

set_option linter.all false
namespace Go.Proofs.YtnnhobbabcfogaaDoor
open Go.ChangeShapes Go.WideShapes Go.ChangeAt Go.RowKit
set_option maxHeartbeats 1000000
set_option linter.unusedVariables false
set_option maxRecDepth 20000

def vNil : Value := .slice none 0 0
def rowOf' (b n : Nat) : Value := .slice (some ⟨b, 0, none⟩) n n
/-- a row of structs that is known whole -/
theorem own_lit {w : World} {g : Nat} {e : TypeId} {s : Nat} {α : Type} {P : List α} {f : α → List Value} (hf : ∀ a, (f a).length = s) (hp : P.length ≤ 1000000) (h : w.heap[g]? = some (.cells (P.flatMap f).toArray e (0, 0))) : w.ownsRow 0 e s (rowOf' g P.length) P.length (P.flatMap f) := by
 have hl := flat_len f s hf P
 refine ⟨hl, .inr ⟨g, P.length, _, rfl, Nat.zero_le _, h, Nat.le_refl _, by unfold maxLen; omega, by simpa using hl, ?_⟩⟩
 rw [List.toList_toArray]; exact List.take_of_length_le (by omega)
theorem RdI.nil (w : World) : RdI w vNil [] := ⟨none, 0, rfl, Nat.le_refl _, by decide, fun i hi => absurd hi (Nat.not_lt_zero i)⟩
theorem RdW.nil (w : World) : RdW w vNil [] := ⟨none, 0, rfl, Nat.le_refl _, by decide, fun i hi => absurd hi (Nat.not_lt_zero i)⟩
theorem RdSls.nil (w : World) : RdSls w vNil [] := ⟨none, 0, rfl, Nat.le_refl _, by decide, fun i hi => absurd hi (Nat.not_lt_zero i)⟩
theorem RdYs.nil (w : World) : RdYs w vNil [] := ⟨none, 0, rfl, Nat.le_refl _, by decide, fun i hi => absurd hi (Nat.not_lt_zero i)⟩
theorem RdPrs.nil (w : World) : RdPrs w vNil [] := ⟨none, 0, rfl, Nat.le_refl _, by decide, fun i hi => absurd hi (Nat.not_lt_zero i)⟩
def inCells (x : In × Value) : List Value := [.int .i64 x.1.op, .int .i64 x.1.d, .int .i64 x.1.a, .int .i64 x.1.b, .int .i64 x.1.fn, .int .i64 x.1.obj, .int .i64 x.1.off, .int .i64 x.1.size, .int .u32 x.1.num, x.2, .bool x.1.log]
theorem RdIns.lit {w : World} {g : Nat} {e : TypeId} (L : List (In × Value)) (hp : L.length ≤ 1000000) (h : w.heap[g]? = some (.cells (L.flatMap inCells).toArray e (0, 0))) (ha : ∀ x ∈ L, RdI w x.2 x.1.args) : RdIns w (rowOf' g L.length) (L.map Prod.fst) := by
 have H := own_flat (α := In × Value) (f := inCells) (by decide : 0 < 11) (fun _ => rfl) (own_lit (fun _ => rfl) hp h)
 have hl : L.length = (L.map Prod.fst).length := by simp
 unfold RdIns
 rw [← hl]
 obtain ⟨a, c, h1, h2, h3, h4⟩ := H
 refine ⟨a, c, h1, h2, h3, fun i hi => ?_⟩
 obtain ⟨b, o, e1, r⟩ := h4 i hi
 have eg : L.getD i default = L[i] := by simp [List.getD, hi]
 have eg2 : (L.map Prod.fst).getD i default = L[i].1 := by simp [List.getD, hi]
 rw [eg] at r
 refine ⟨b, o, e1, ?_⟩
 dsimp only
 rw [eg2]
 exact ⟨r 0 _ rfl, r 1 _ rfl, r 2 _ rfl, r 3 _ rfl, r 4 _ rfl, r 5 _ rfl, r 6 _ rfl, r 7 _ rfl, r 8 _ rfl, ⟨_, r 9 _ rfl, ha _ (List.getElem_mem hi)⟩, r 10 _ rfl⟩
def bkCells (x : Bk × Value) : List Value := [x.2, .int .i64 x.1.fin, .int .i64 x.1.a, .int .i64 x.1.to, .int .i64 x.1.els]
theorem RdBks.lit {w : World} {g : Nat} {e : TypeId} (L : List (Bk × Value)) (hp : L.length ≤ 1000000) (h : w.heap[g]? = some (.cells (L.flatMap bkCells).toArray e (0, 0))) (ha : ∀ x ∈ L, RdIns w x.2 x.1.ins) : RdBks w (rowOf' g L.length) (L.map Prod.fst) := by
 have H := own_flat (α := Bk × Value) (f := bkCells) (by decide : 0 < 5) (fun _ => rfl) (own_lit (fun _ => rfl) hp h)
 have hl : L.length = (L.map Prod.fst).length := by simp
 unfold RdBks
 rw [← hl]
 obtain ⟨a, c, h1, h2, h3, h4⟩ := H
 refine ⟨a, c, h1, h2, h3, fun i hi => ?_⟩
 obtain ⟨b, o, e1, r⟩ := h4 i hi
 have eg : L.getD i default = L[i] := by simp [List.getD, hi]
 have eg2 : (L.map Prod.fst).getD i default = L[i].1 := by simp [List.getD, hi]
 rw [eg] at r
 refine ⟨b, o, e1, ?_⟩
 dsimp only
 rw [eg2]
 exact ⟨⟨_, r 0 _ rfl, ha _ (List.getElem_mem hi)⟩, r 1 _ rfl, r 2 _ rfl, r 3 _ rfl, r 4 _ rfl⟩
def slCells (x : Sl × ByteArray) : List Value := [.string x.2, .int .i64 x.1.size, .int .i64 x.1.align, .int .i64 x.1.cell]
theorem RdSls.lit {w : World} {g : Nat} {e : TypeId} (L : List (Sl × ByteArray)) (hp : L.length ≤ 1000000) (h : w.heap[g]? = some (.cells (L.flatMap slCells).toArray e (0, 0))) : RdSls w (rowOf' g L.length) (L.map Prod.fst) := by
 haveI : Inhabited (Sl × ByteArray) := ⟨(default, ⟨#[]⟩)⟩
 have H := own_flat (α := Sl × ByteArray) (f := slCells) (by decide : 0 < 4) (fun _ => rfl) (own_lit (fun _ => rfl) hp h)
 have hl : L.length = (L.map Prod.fst).length := by simp
 unfold RdSls
 rw [← hl]
 obtain ⟨a, c, h1, h2, h3, h4⟩ := H
 refine ⟨a, c, h1, h2, h3, fun i hi => ?_⟩
 obtain ⟨b, o, e1, r⟩ := h4 i hi
 have eg : L.getD i default = L[i] := by simp [List.getD, hi]
 have eg2 : (L.map Prod.fst).getD i default = L[i].1 := by simp [List.getD, hi]
 rw [eg] at r
 refine ⟨b, o, e1, ?_⟩
 dsimp only
 rw [eg2]
 exact ⟨⟨_, r 0 _ rfl⟩, r 1 _ rfl, r 2 _ rfl, r 3 _ rfl⟩
def prCells (x : Pr × ByteArray × Value × Value) : List Value := [.string x.2.1, .bool x.1.void, .int .i64 x.1.params, .int .i64 x.1.regs, x.2.2.1, x.2.2.2]
theorem RdPrs.lit {w : World} {g : Nat} {e : TypeId} (L : List (Pr × ByteArray × Value × Value)) (hp : L.length ≤ 1000000) (h : w.heap[g]? = some (.cells (L.flatMap prCells).toArray e (0, 0))) (ha : ∀ x ∈ L, RdSls w x.2.2.1 x.1.objs ∧ RdBks w x.2.2.2 x.1.blks) : RdPrs w (rowOf' g L.length) (L.map Prod.fst) := by
 haveI : Inhabited (Pr × ByteArray × Value × Value) := ⟨(default, ⟨#[]⟩, vNil, vNil)⟩
 have H := own_flat (α := Pr × ByteArray × Value × Value) (f := prCells) (by decide : 0 < 6) (fun _ => rfl) (own_lit (fun _ => rfl) hp h)
 have hl : L.length = (L.map Prod.fst).length := by simp
 unfold RdPrs
 rw [← hl]
 obtain ⟨a, c, h1, h2, h3, h4⟩ := H
 refine ⟨a, c, h1, h2, h3, fun i hi => ?_⟩
 obtain ⟨b, o, e1, r⟩ := h4 i hi
 have eg : L.getD i default = L[i] := by simp [List.getD, hi]
 have eg2 : (L.map Prod.fst).getD i default = L[i].1 := by simp [List.getD, hi]
 rw [eg] at r
 have := ha _ (List.getElem_mem hi)
 refine ⟨b, o, e1, ?_⟩
 dsimp only
 rw [eg2]
 exact ⟨⟨_, r 0 _ rfl⟩, r 1 _ rfl, r 2 _ rfl, r 3 _ rfl, ⟨_, r 4 _ rfl, this.1⟩, ⟨_, r 5 _ rfl, this.2⟩⟩
theorem RdW.lit {w : World} {g : Nat} {e : TypeId} (L : List Int) (hp : L.length ≤ 1000000) (h : w.heap[g]? = some (.cells (L.map (Value.int .u32)).toArray e (0, 0))) : RdW w (rowOf' g L.length) L := by
 refine own_rows (B := 0) (e := e) 0 ⟨by simp, .inr ⟨g, L.length, _, rfl, Nat.zero_le _, h, Nat.le_refl _, by unfold maxLen; omega, by simp, ?_⟩⟩
 rw [Nat.mul_one, List.toList_toArray]; exact List.take_of_length_le (by simp)
theorem RdI.lit {w : World} {g : Nat} {e : TypeId} (L : List Int) (hp : L.length ≤ 1000000) (h : w.heap[g]? = some (.cells (L.map (Value.int .i64)).toArray e (0, 0))) : RdI w (rowOf' g L.length) L := by
 refine own_rows (B := 0) (e := e) 0 ⟨by simp, .inr ⟨g, L.length, _, rfl, Nat.zero_le _, h, Nat.le_refl _, by unfold maxLen; omega, by simp, ?_⟩⟩
 rw [Nat.mul_one, List.toList_toArray]; exact List.take_of_length_le (by simp)
theorem RdY.lit {w : World} {g : Nat} {e : TypeId} (L : List Int) (hp : L.length ≤ 1000000) (h : w.heap[g]? = some (.cells (L.map (Value.int .u8)).toArray e (0, 0))) : RdY w (rowOf' g L.length) L := by
 refine own_rows (B := 0) (e := e) 0 ⟨by simp, .inr ⟨g, L.length, _, rfl, Nat.zero_le _, h, Nat.le_refl _, by unfold maxLen; omega, by simp, ?_⟩⟩
 rw [Nat.mul_one, List.toList_toArray]; exact List.take_of_length_le (by simp)
theorem heap_of_alloc (w : World) (c : Array Value) (t : TypeId) {W0 : World} (h : W0 = w.alloc (.cells c t)) : W0.heap[w.heap.size]? = some (.cells c t (0, 0)) := by subst h; exact heap_alloc_new w _
/-- blocks made one behind the other -/
def allocs (w : World) (l : List Obj) : World := l.foldl World.alloc w
theorem allocs_below : ∀ (l : List Obj) (w : World), Below w.heap.size w (allocs w l)
 | [], w => Below.refl _ _
 | o :: l, w => ((Below.refl _ _).alloc (Nat.le_refl _) o).trans ((allocs_below l (w.alloc o)).mono (by simp))
theorem allocs_size : ∀ (l : List Obj) (w : World), (allocs w l).heap.size = w.heap.size + l.length
 | [], w => rfl
 | o :: l, w => by
  show (allocs (w.alloc o) l).heap.size = _
  rw [allocs_size l (w.alloc o)]; simp; omega
theorem allocs_heap : ∀ (l : List Obj) (w : World) (i : Nat), i < l.length → (allocs w l).heap[w.heap.size + i]? = l[i]?
 | [], _, _, h => absurd h (Nat.not_lt_zero _)
 | o :: l, w, 0, _ => by
  show (allocs (w.alloc o) l).heap[w.heap.size]? = some o
  rw [(allocs_below l (w.alloc o)).block w.heap.size (by simp)]
  exact heap_alloc_new w o
 | o :: l, w, i + 1, h => by
  have := allocs_heap l (w.alloc o) i (by simpa using h)
  show (allocs (w.alloc o) l).heap[w.heap.size + (i + 1)]? = l[i]?
  rw [← this]
  congr 1
  simp; omega
end Go.Proofs.YtnnhobbabcfogaaDoor
