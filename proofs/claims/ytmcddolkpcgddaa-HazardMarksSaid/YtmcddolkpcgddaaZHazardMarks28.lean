/-
 Contracts: is a procedure small (inline's, the document's).; Rows of structs: copied, and written to.; inline: what a row of blocks keeps while the builder turns; the builder in memory; shift, copied, the place of the first call.; Regions that draw their order (as module E), with stores that come behind all that looks: what comes behind the operations of L need keep nothing.
-/
import Derived.Test.YtmcddolkpcgddaaZHazardMarks27
import Derived.Test.YtmcddolkpcgddaaZHazardMarks23
import Derived.Test.YtmcddolkpcgddaaZHazardMarks02
import Derived.Test.YtmcddolkpcgddaaZHazardMarks14
import Derived.BigQuiet
import Derived.Test.YtmcddolkpcgddaaZHazardMarks18
import Derived.Lib.SliceRun
import Derived.WalkSpells
import Derived.Test.YtmcddolkpcgddaaZHazardMarks13
import Derived.Test.YtmcddolkpcgddaaZHazardMarks08

set_option linter.all false
namespace Go.Proofs.Ytmcddolkpcgddaa
open Go.ChangeShapes Go.WideShapes Go.ChangeAt Go.RowKit
set_option maxHeartbeats 4000000
set_option maxRecDepth 100000
set_option linter.unusedVariables false

end Go.Proofs.Ytmcddolkpcgddaa

set_option linter.all false
namespace Go.Proofs.Ytmcddolkpcgddaa
open Go.ChangeShapes Go.WideShapes Go.ChangeAt Go.RowKit
set_option maxHeartbeats 2000000
set_option linter.unusedVariables false
set_option maxRecDepth 20000

/-- a slice whose cells are known -/
def Src (w : World) (v : Value) (n : Nat) (xs : List Value) : Prop := ((∃ c, v = .slice none 0 c) ∧ n = 0 ∧ xs = []) ∨ ∃ (ad : Addr) (c : Nat), v = .slice (some ad) n c ∧ n ≤ c ∧ c ≤ maxLen ∧ ∀ j u, xs[j]? = some u → ∃ b o, ad = ⟨b, o, none⟩ ∧ w.cell? ⟨b, o + j, none⟩ = some u
theorem Src.keep {w w' : World} {v : Value} {n : Nat} {xs : List Value} (h : Src w v n xs) (hb : Ext w w') : Src w' v n xs := by
 rcases h with h | ⟨ad, c, e, h1, h2, hc⟩
 ·exact .inl h
 ·exact .inr ⟨ad, c, e, h1, h2, fun j u hj => by
   obtain ⟨b, o, ea, this⟩ := hc j u hj
   exact ⟨b, o, ea, hb _ _ this⟩⟩
/-- one cell of a row of structs set -/
theorem flat_setS {α β : Type} [Inhabited α] (f : α → List β) (s : Nat) (hf : ∀ a, (f a).length = s) : ∀ (L : List α) (i j : Nat) (x : β) (a : α), i < L.length → j < s → f a = (f (L.getD i default)).set j x → (L.flatMap f).set (i * s + j) x = (L.set i a).flatMap f
 | [], i, _, _, _, h, _, _ => absurd h (Nat.not_lt_zero i)
 | y :: L, 0, j, x, a, _, hj, e => by
  rw [List.flatMap_cons, Nat.zero_mul, Nat.zero_add, List.set_append_left _ _ (by rw [hf]; exact hj), List.set_cons_zero, List.flatMap_cons, e]
  rfl
 | y :: L, i + 1, j, x, a, h, hj, e => by
  have ih := flat_setS f s hf L i j x a (by simpa using h) hj e
  rw [List.flatMap_cons, List.set_append_right _ _ (by rw [hf, Nat.succ_mul]; omega), hf, show (i + 1) * s + j - s = i * s + j by rw [Nat.succ_mul]; omega, ih, List.set_cons_succ, List.flatMap_cons]
theorem info_bk : (Try.prog.info? 51).map (fun i => (i.zero, i.size, i.bytes)) = some (some (.agg #[.slice none 0 0, .int .i64 0, .int .i64 0, .int .i64 0, .int .i64 0]), 5, 56) := by kernel_rfl
theorem info_in : (Try.prog.info? 58).map (fun i => (i.zero, i.size, i.bytes)) = some (some (.agg #[.int .i64 0, .int .i64 0, .int .i64 0, .int .i64 0, .int .i64 0, .int .i64 0, .int .i64 0, .int .i64 0, .int .u32 0, .slice none 0 0, .bool false]), 11, 104) := by kernel_rfl
/-- a row of blocks of the call's own -/
structure OwnBk (w : World) (B : Nat) (v : Value) (L : List (Bk × Value)) : Prop where
 own : w.ownsRow B 51 5 v L.length (L.flatMap bkCells)
 ins : ∀ x ∈ L, RdIns w x.2 x.1.ins
theorem OwnBk.rd {w : World} {B : Nat} {v : Value} {L : List (Bk × Value)} (h : OwnBk w B v L) : RdBks w v (L.map Prod.fst) := by
 have H := own_flat (α := Bk × Value) (f := bkCells) (by decide : 0 < 5) (fun _ => rfl) h.own
 have hl : L.length = (L.map Prod.fst).length := by simp
 unfold RdBks
 rw [← hl]
 obtain ⟨a, c, h1, h2, h3, h4⟩ := H
 refine ⟨a, c, h1, h2, h3, fun i hi => ?_⟩
 obtain ⟨b, o, e1, r⟩ := h4 i hi
 have eg : L.getD i default = L[i] := by simp [List.getD, hi]
 have eg2 : (L.map Prod.fst).getD i default = L[i].1 := by simp [List.getD, hi]
 rw [eg] at r
 refine ⟨b, o, e1, ?_⟩
 dsimp only
 rw [eg2]
 exact ⟨⟨_, r 0 _ rfl, h.ins _ (List.getElem_mem hi)⟩, r 1 _ rfl, r 2 _ rfl, r 3 _ rfl, r 4 _ rfl⟩
theorem OwnBk.below {w w' : World} {B : Nat} {v : Value} {L : List (Bk × Value)} (h : OwnBk w B v L) (hb : Below w.heap.size w w') : OwnBk w' B v L := ⟨own_below h.own hb, fun x hx => (h.ins x hx).ext (Ext.below hb)⟩
theorem Rows'.sl {w : World} {v : Value} {k n : Nat} {R : Nat → (Nat → Option Value) → Prop} (h : Rows' w v k n R) : ∃ a m c, v = .slice a m c := by
 obtain ⟨a, c, h1, -⟩ := h
 exact ⟨a, n, c, h1⟩
/-- a row of instructions of the call's own -/
structure OwnIn (w : World) (B : Nat) (v : Value) (L : List (In × Value)) : Prop where
 own : w.ownsRow B 58 11 v L.length (L.flatMap inCells)
 args : ∀ x ∈ L, RdI w x.2 x.1.args
theorem OwnIn.rd {w : World} {B : Nat} {v : Value} {L : List (In × Value)} (h : OwnIn w B v L) : RdIns w v (L.map Prod.fst) := by
 have H := own_flat (α := In × Value) (f := inCells) (by decide : 0 < 11) (fun _ => rfl) h.own
 have hl : L.length = (L.map Prod.fst).length := by simp
 unfold RdIns
 rw [← hl]
 obtain ⟨a, c, h1, h2, h3, h4⟩ := H
 refine ⟨a, c, h1, h2, h3, fun i hi => ?_⟩
 obtain ⟨b, o, e1, r⟩ := h4 i hi
 have eg : L.getD i default = L[i] := by simp [List.getD, hi]
 have eg2 : (L.map Prod.fst).getD i default = L[i].1 := by simp [List.getD, hi]
 rw [eg] at r
 refine ⟨b, o, e1, ?_⟩
 dsimp only
 rw [eg2]
 exact ⟨r 0 _ rfl, r 1 _ rfl, r 2 _ rfl, r 3 _ rfl, r 4 _ rfl, r 5 _ rfl, r 6 _ rfl, r 7 _ rfl, r 8 _ rfl, ⟨_, r 9 _ rfl, h.args _ (List.getElem_mem hi)⟩, r 10 _ rfl⟩
theorem OwnIn.below {w w' : World} {B : Nat} {v : Value} {L : List (In × Value)} (h : OwnIn w B v L) (hb : Below w.heap.size w w') : OwnIn w' B v L := ⟨own_below h.own hb, fun x hx => (h.args x hx).ext (Ext.below hb)⟩
end Go.Proofs.Ytmcddolkpcgddaa

set_option linter.all false
namespace Go.Proofs.Ytmcddolkpcgddaa
open Go.ChangeShapes Go.WideShapes Go.ChangeAt Go.RowKit
set_option maxHeartbeats 4000000
set_option maxRecDepth 100000
set_option linter.unusedVariables false

theorem il_not {w : World} {B n s b : Nat} {e ty : TypeId} {v : Value} {xs : List Value} {cs : Array Value} (h : w.ownsRow B e s v n xs) (hb : w.heap[b]? = some (.cells cs ty)) (hne : e ≠ ty) : v.ownBlock ≠ some b := by
 obtain ⟨-, ⟨rfl, -⟩ | ⟨g, cap, cur, rfl, h3, h4, -⟩⟩ := h
 ·simp [Value.ownBlock]
 ·intro e
  simp only [Value.ownBlock, Option.some.injEq] at e
  subst e
  rw [h4] at hb
  injection hb with hb
  injection hb with _ hb
  exact hne hb
theorem il_kept {w w' : World} {B n s b : Nat} {e ty : TypeId} {v : Value} {xs : List Value} {cs : Array Value} (h : w.ownsRow B e s v n xs) (hk : But b w w') (hb : w.heap[b]? = some (.cells cs ty)) (hne : e ≠ ty) : w'.ownsRow B e s v n xs :=
 World.ownsRow.kept h ⟨hk.os, hk.tape, hk.output, hk.size, fun k hk' hne => hk.block k hk' (fun e => hne (by rw [e]))⟩ (.inr (il_not h hb hne))
/-- a block's instructions: as they were, or a row of one's own -/
def KrS (w0 w : World) (x : Bk × Value) : Prop := RdIns w0 x.2 x.1.ins ∨ ∃ LI : List (In × Value), LI.map Prod.fst = x.1.ins ∧ (∀ y ∈ LI, RdI w0 y.2 y.1.args) ∧ w.ownsRow 0 58 11 x.2 LI.length (LI.flatMap inCells)
section
variable {w0 w w' : World} {x : Bk × Value} {b : Nat} {cs : Array Value} {ty : TypeId} {v : Value} {bs : List Bk}
theorem KrS.rd (h : KrS w0 w x) (he : Ext w0 w) : RdIns w x.2 x.1.ins := by
 rcases h with h | ⟨LI, h1, h2, h3⟩
 ·exact h.ext he
 ·rw [← h1]
  exact OwnIn.rd (B := 0) ⟨h3, fun y hy => (h2 y hy).ext he⟩
theorem KrS.but (h : KrS w0 w x) (hb : But b w w') (hc : w.heap[b]? = some (.cells cs ty)) (ht : 58 ≠ ty) : KrS w0 w' x := by
 rcases h with h | ⟨LI, h1, h2, h3⟩
 ·exact .inl h
 ·exact .inr ⟨LI, h1, h2, il_kept h3 hb hc ht⟩
theorem KrS.below (h : KrS w0 w x) (hb : Below w.heap.size w w') : KrS w0 w' x := by
 rcases h with h | ⟨LI, h1, h2, h3⟩
 ·exact .inl h
 ·exact .inr ⟨LI, h1, h2, own_below h3 hb⟩
def BkS (w0 w : World) (v : Value) (bs : List Bk) : Prop := RdBks w0 v bs ∨ ∃ L : List (Bk × Value), L.map Prod.fst = bs ∧ w.ownsRow 0 51 5 v L.length (L.flatMap bkCells) ∧ ∀ x ∈ L, KrS w0 w x
theorem BkS.rd (h : BkS w0 w v bs) (he : Ext w0 w) : RdBks w v bs := by
 rcases h with h | ⟨L, rfl, h2, h3⟩
 ·exact h.ext he
 ·exact OwnBk.rd (B := 0) ⟨h2, fun x hx => (h3 x hx).rd he⟩
theorem BkS.but (h : BkS w0 w v bs) (hb : But b w w') (hc : w.heap[b]? = some (.cells cs ty)) (ht : 58 ≠ ty) (ht2 : 51 ≠ ty) : BkS w0 w' v bs := by
 rcases h with h | ⟨L, h1, h2, h3⟩
 ·exact .inl h
 ·exact .inr ⟨L, h1, il_kept h2 hb hc ht2, fun x hx => (h3 x hx).but hb hc ht⟩
theorem BkS.below (h : BkS w0 w v bs) (hb : Below w.heap.size w w') : BkS w0 w' v bs := by
 rcases h with h | ⟨L, h1, h2, h3⟩
 ·exact .inl h
 ·exact .inr ⟨L, h1, own_below h2 hb, fun x hx => (h3 x hx).below hb⟩
end
/-- the builder -/
structure BdW (w0 : World) (m : Md) (bb : Nat) (w : World) (Q : Pr) (full : Bool) (vg vd vp vo : Value) (nm : ByteArray) (vb : Value) : Prop where
 bx : w.heap[bb]? = some (.cells #[vg, vd, vp, .int .i64 m.main, .string nm, .bool Q.void, .int .i64 Q.params, .int .i64 Q.regs, vo, vb, .bool full] 70)
 md : MdV w0 (.agg #[vg, vd, vp, .int .i64 m.main]) m
 ob : RdSls w0 vo Q.objs
 bk : BkS w0 w vb Q.blks
 le : w0.heap.size ≤ bb
 be : Below w0.heap.size w0 w
section
variable {w0 w w' : World} {m : Md} {bb : Nat} {Q : Pr} {full : Bool} {vg vd vp vo vb : Value} {nm : ByteArray}
theorem BdW.below (h : BdW w0 m bb w Q full vg vd vp vo nm vb) (hb : Below w.heap.size w w') : BdW w0 m bb w' Q full vg vd vp vo nm vb :=
 ⟨(hb.block _ (Array.getElem?_eq_some_iff.1 h.bx).1).trans h.bx, h.md, h.ob, h.bk.below hb, h.le, h.be.trans (hb.mono h.be.size)⟩
theorem BdW.ext (h : BdW w0 m bb w Q full vg vd vp vo nm vb) : Ext w0 w := Ext.below h.be
theorem BdW.lt (h : BdW w0 m bb w Q full vg vd vp vo nm vb) : bb < w.heap.size := (Array.getElem?_eq_some_iff.1 h.bx).1
end
end Go.Proofs.Ytmcddolkpcgddaa

set_option linter.all false
namespace Go.Proofs.Ytmcddolkpcgddaa
open Go Go.RowKit
set_option linter.unusedVariables false

section
variable {P : Program} {ops : Array Oper} {Q : Act → World → Prop} {S : Nat → Prop} {L : List Nat}
/-- what an operation waits for -/
def afterOn (ops : Array Oper) (k : Nat) : List Nat := ((ops[k]?).map fun o => (o.after.toList.filter fun e => Region.binds .any e).map fun e => e.on).getD []
def ancStep (ops : Array Oper) (m : Array Bool) (k : Nat) : Array Bool := if m.getD k false = true then (afterOn ops k).foldl (fun m x => m.setIfInBounds x true) m else m
def anc (ops : Array Oper) (j : Nat) : Array Bool := (List.range ops.size).reverse.foldl (ancStep ops) ((Array.replicate ops.size false).setIfInBounds j true)
/-- all operations of L come before it -/
def late (L : List Nat) (ops : Array Oper) (j : Nat) : Bool := L.all fun i => i == j || (anc ops j).getD i false
theorem getD_ft {l : Array Bool} {k : Nat} (h : l.getD k false = true) : l.getD k true = true := by
 rcases Nat.lt_or_ge k l.size with q | q
 ·simp [q] at h ⊢; exact h
 ·simp [Array.getElem?_eq_none q] at h
theorem afterOn_mem {k x : Nat} (h : x ∈ afterOn ops k) : ∃ o, ops[k]? = some o ∧ ∃ e ∈ o.after, Region.binds .any e = true ∧ e.on = x := by
 unfold afterOn at h
 cases ho : ops[k]? with
 | none => rw [ho] at h; simp at h
 | some o =>
  rw [ho] at h
  simp only [Option.map_some, Option.getD_some, List.mem_map, List.mem_filter, Array.mem_toList_iff] at h
  obtain ⟨e, ⟨h1, h2⟩, h3⟩ := h
  exact ⟨o, rfl, e, h1, h2, h3⟩
theorem getD_setT {m : Array Bool} {x k : Nat} (h : (m.setIfInBounds x true).getD k false = true) : k = x ∨ m.getD k false = true := by
 by_cases e : k = x
 ·exact .inl e
 ·right
  rw [getD_set_ne false (fun q => e q.symm)] at h
  exact h
theorem anc_ok {listed : Array Bool} {j : Nat} (hc : Closed ops listed) (hj : j ∈ Region.ready .any ops listed) : ∀ (l : List Nat) (m : Array Bool), (∀ k, m.getD k false = true → k = j ∨ listed.getD k false = true) → ∀ k, (l.foldl (ancStep ops) m).getD k false = true → k = j ∨ listed.getD k false = true
 | [], m, h => h
 | x :: l, m, h => by
  refine anc_ok hc hj l (ancStep ops m x) fun k hk => ?_
  unfold ancStep at hk
  split at hk
  ·rename_i hx
   have hin : ∀ y ∈ afterOn ops x, listed.getD y false = true := fun y hy => by
    obtain ⟨o, ho, e, he, hb, rfl⟩ := afterOn_mem hy
    rcases h x hx with rfl | hl
    ·obtain ⟨-, o', ho', hall⟩ := mem_ready.1 hj
     rw [ho] at ho'
     cases ho'
     exact hall e he hb
    ·exact hc x o ho (getD_ft hl) e he hb
   have key : ∀ (ys : List Nat) (m : Array Bool), (∀ y ∈ ys, listed.getD y false = true) → (∀ k, m.getD k false = true → k = j ∨ listed.getD k false = true) → ∀ k, (ys.foldl (fun m x => m.setIfInBounds x true) m).getD k false = true → k = j ∨ listed.getD k false = true := fun ys => by
    induction ys with
    | nil => intro m _ h; exact h
    | cons y ys ih =>
     intro m hy h
     refine ih _ (fun z hz => hy z (List.mem_cons_of_mem _ hz)) fun k hk => ?_
     rcases getD_setT hk with rfl | hk
     ·exact .inr (hy _ List.mem_cons_self)
     ·exact h k hk
   exact key _ m hin h k hk
  ·exact h k hk
theorem late_ready {listed : Array Bool} {i j : Nat} (hs : late L ops j = true) (hc : Closed ops listed) (hj : j ∈ Region.ready .any ops listed) (hi : i ∈ L) (hne : i ≠ j) : listed.getD i false = true := by
 unfold late at hs
 rw [List.all_eq_true] at hs
 have h := hs i hi
 rw [show (i == j) = false by simpa using hne, Bool.false_or] at h
 rcases anc_ok hc hj _ _ (fun k hk => by
  rcases getD_setT hk with rfl | hk
  ·exact .inl rfl
  ·exfalso
   rcases Nat.lt_or_ge k ops.size with q | q
   ·simp [q] at hk
   ·simp [Array.getElem?_eq_none, q] at hk) i h with e | e
 ·exact absurd e hne
 ·exact e
/-- whatever order is picked from here on -/
def wpH (L : List Nat) (S : Nat → Prop) (P : Program) (ops : Array Oper) (Q : Act → World → Prop) : Nat → Array Bool → Act → World → Prop
 | 0, listed, a, w => Region.ready .any ops listed = [] ∧ Q a w
 | f + 1, listed, a, w => (Region.ready .any ops listed = [] → Q a w) ∧ ∀ i ∈ Region.ready .any ops listed, eOp (!(late L ops i)) S P ops i (wpH L S P ops Q f (listed.setIfInBounds i true)) a w

theorem wpAny_of_H {Q' : Exit → Act → World → Prop} (hQ : ∀ a w, Q a w → Q' .normal a w) : ∀ (f : Nat) (listed : Array Bool) (a : Act) (w : World), wpH L S P ops Q f listed a w → wpAny P .any ops Q' f listed a w
 | 0, _, _, _, h => ⟨h.1, hQ _ _ h.2⟩
 | f + 1, listed, a, w, h => ⟨fun h0 => hQ _ _ (h.1 h0), fun i hi => by
   have h1 := h.2 i hi
   unfold eOp at h1
   unfold wpOp
   split
   ·rename_i ho; simp only [ho] at h1; exact wpAny_of_H hQ f _ _ _ h1
   ·rename_i o ho
    simp only [ho] at h1
    split
    ·rename_i hw
     simp only [hw, if_true] at h1
     exact .inl (wp_never (fun a' w' h2 => wpAny_of_H hQ f _ _ _ h2.2) h1)
    ·rename_i hw; simp only [hw] at h1; exact wpAny_of_H hQ f _ _ _ h1⟩

theorem wpH_first {i : Nat} (hL : i ∈ L) {oi : Oper} {v : Value} (hi : ops[i]? = some oi) (hsel : ∀ (j : Nat) (o : Oper) cs b, ops[j]? = some o → o.op ≠ .select cs b) :
  ∀ (fuel : Nat) (listed : Array Bool) (a : Act) (w : World),
   (∀ j oj, ops[j]? = some oj → j ≠ i → listed.getD j true = false → (∀ e ∈ oj.after, Region.binds .any e = true → e.on ≠ i) → oi.apart ops oj = true) →
   Closed ops listed → i ∈ Region.ready .any ops listed → YieldsE S P ops w oi v a →
   wpH L S P ops Q fuel (listed.setIfInBounds i true) (a.put oi.dst v) w → wpH L S P ops Q (fuel + 1) listed a w := by
 intro fuel
 induction fuel with
 | zero =>
  intro listed a w _ hcl hr hy H
  refine ⟨fun h => (by rw [h] at hr; cases hr), fun j hj => ?_⟩
  by_cases hji : j = i
  ·subst hji; exact hy.eOp hi H
  ·have := ready_mono hj hji
   rw [H.1] at this
   cases this
 | succ fuel ih =>
  intro listed a w hfree hcl hr hy H
  refine ⟨fun h => (by rw [h] at hr; cases hr), fun j hj => ?_⟩
  by_cases hji : j = i
  ·subst hji; exact hy.eOp hi H
  ·have h1 := H.2 j (ready_mono hj hji)
   have hns : late L ops j = false := by
    cases hs : late L ops j
    ·rfl
    ·exact (getD_both (late_ready hs hcl hj hL (Ne.symm hji)) (mem_ready.1 hr).1).elim
   rw [hns] at h1 ⊢
   obtain ⟨hjun, oj, hoj, hall⟩ := mem_ready.1 hj
   have hnot : ∀ e ∈ oj.after, Region.binds .any e = true → e.on ≠ i := fun e he hb heq => by
    have h1 := hall e he hb
    have h0 := (mem_ready.1 hr).1
    rw [heq] at h1
    rcases Nat.lt_or_ge i listed.size with h' | h'
    ·simp [h'] at h0 h1; rw [h0] at h1; cases h1
    ·simp [Array.getElem?_eq_none h'] at h1
   have h2 := eOp_put hoj (hfree j oj hoj hji hjun hnot) (fun cs b => hsel i oi cs b hi) (fun cs b => hsel j oj cs b hoj) hy h1
   have hfree' : ∀ k ok, ops[k]? = some ok → k ≠ i → (listed.setIfInBounds j true).getD k true = false →
     (∀ e ∈ ok.after, Region.binds .any e = true → e.on ≠ i) → oi.apart ops ok = true := fun k ok hk hki hun hno => by
    refine hfree k ok hk hki ?_ hno
    by_cases hjk : j = k
    ·subst hjk; exact hjun
    ·rw [getD_set_ne true hjk] at hun; exact hun
   refine eOp_mono (fun a' w' h3 => ih (listed.setIfInBounds j true) a' w' hfree' (closed_step hcl hj) (ready_mono hr (Ne.symm hji)) h3.1 ?_) h2
   rw [Array.setIfInBounds_comm _ _ hji]
   exact h3.2

theorem H_mob {f : Nat} {listed : Array Bool} {a : Act} {w : World} (i : Nat) (o : Oper) (hL : i ∈ L) (hio : ops[i]? = some o)
  (hc : (closedB ops listed && (Region.noSelect ops && (Region.ready .any ops listed).contains i && Region.free .any ops listed i && (lookOp o || lookB o))) = true)
  (h : wpQuiet P ops (fun w' => ∃ x, w' = kp S w x) (fun a' => wpH L S P ops Q f (listed.setIfInBounds i true) a' w) [o] a) : wpH L S P ops Q (f + 1) listed a w := by
 simp only [Bool.and_eq_true] at hc
 obtain ⟨hcl, ⟨⟨hs, hr⟩, hf⟩, hk⟩ := hc
 simp only [wpQuiet] at h
 have hy : ∃ v, YieldsE S P ops w o v a ∧ wpH L S P ops Q f (listed.setIfInBounds i true) (a.put o.dst v) w := by
  split at h
  ·rename_i hw
   obtain ⟨v, hv, hn⟩ := h
   refine ⟨v, .inl ⟨hw, fun w' hb => ?_⟩, hn⟩
   have h3 := hv w' (keep_kp hb)
   unfold Oper.quietAt at h3
   generalize hrr : (execOp a.eval o).run P w' = r at h3
   cases r with
   | ok n w1 =>
    have hu : ∃ v, n = .value v := by
     rw [Bool.or_eq_true] at hk
     rcases hk with hk | hk
     ·exact lookOp_spec hk hrr
     ·exact lookB_spec hk hrr
    obtain ⟨u, rfl⟩ := hu
    simp only [Oper.quietUpon] at h3
    obtain ⟨rfl, rfl⟩ := h3
    rfl
   | halt x w1 => simp only [Oper.quietUpon] at h3
  ·rename_i hw
   exact ⟨undef, .inr ⟨by simpa using hw, rfl⟩, h⟩
 obtain ⟨v, hy, hn⟩ := hy
 exact wpH_first hL hio (Region.noSelect_spec hs) f listed a w (Region.free_spec hio hf) (closed_of hcl) (by simpa using hr) hy hn
theorem H_mobs : ∀ (is : List Nat) (n : Nat) (listed : Array Bool) (a : Act) (w : World), (is.all (fun i => L.contains i) && (decide (is.length ≤ n) && movesOk lookJ ops is listed)) = true →
  wpQuiet P ops (fun w' => ∃ x, w' = kp S w x) (fun a' => wpH L S P ops Q (n - is.length) (listAll is listed) a' w) (is.map fun i => (ops[i]?).getD opD) a → wpH L S P ops Q n listed a w
 | [], n, listed, a, w, _, h => h
 | i :: is, n, listed, a, w, hc, h => by
  simp only [Bool.and_eq_true, decide_eq_true_eq, movesOk, List.all_cons] at hc
  obtain ⟨⟨hLi, hLs⟩, hl, ⟨h1, ⟨⟨h2, h3⟩, h4⟩, h5⟩, h6⟩ := hc
  cases n with
  | zero => exact absurd hl (by simp)
  | succ n =>
   cases ho : ops[i]? with
   | none => rw [ho] at h5; cases h5
   | some o =>
    rw [ho] at h5
    have h5 : lookJ o = true := h5
    refine H_mob i o (by simpa using hLi) ho (by simp only [Bool.and_eq_true]; exact ⟨h1, ⟨⟨h2, h3⟩, h4⟩, h5⟩) ?_
    rw [List.map_cons, ho] at h
    refine quiet_mono (fun a' h' => ?_) (quiet_one h)
    refine H_mobs is n _ a' w (by simp only [Bool.and_eq_true, decide_eq_true_eq]; exact ⟨hLs, by simpa using hl, h6⟩) ?_
    have e : n + 1 - (i :: is).length = n - is.length := by simp
    rw [e] at h'
    exact h'
theorem H_loud1 {f : Nat} {listed : Array Bool} {a : Act} {w : World} (i : Nat) (o : Oper) (hio : ops[i]? = some o) (hr : (Region.ready .any ops listed == [i]) = true)
  (h : wpList P ops (onlyN fun a' w' => Keep S w w' ∧ wpH L S P ops Q f (listed.setIfInBounds i true) a' w') [o] a w) : wpH L S P ops Q (f + 1) listed a w := by
 simp only [beq_iff_eq] at hr
 refine ⟨fun h0 => (by rw [hr] at h0; cases h0), fun j hj => ?_⟩
 rw [hr, List.mem_singleton] at hj
 subst hj
 exact eOp_list hio (fun _ _ h => ⟨fun _ => h.1, h.2⟩) h
/-- the last of all: nothing need be kept -/
theorem H_late {f : Nat} {listed : Array Bool} {a : Act} {w : World} (i : Nat) (o : Oper) (hio : ops[i]? = some o) (hr : (late L ops i && (Region.ready .any ops listed == [i])) = true)
  (h : wpList P ops (onlyN fun a' w' => wpH L S P ops Q f (listed.setIfInBounds i true) a' w') [o] a w) : wpH L S P ops Q (f + 1) listed a w := by
 simp only [Bool.and_eq_true, beq_iff_eq] at hr
 obtain ⟨hs, hr⟩ := hr
 refine ⟨fun h0 => (by rw [hr] at h0; cases h0), fun j hj => ?_⟩
 rw [hr, List.mem_singleton] at hj
 subst hj
 rw [hs]
 exact eOp_list hio (fun _ _ h => ⟨fun h => (by cases h), h⟩) h
theorem H_done {listed : Array Bool} {a : Act} {w : World} (hr : (Region.ready .any ops listed).isEmpty = true) (h : Q a w) : ∀ f, wpH L S P ops Q f listed a w
 | 0 => ⟨by simpa using hr, h⟩
 | f + 1 => ⟨fun _ => h, fun i hi => by rw [List.isEmpty_iff.1 hr] at hi; cases hi⟩
theorem wp_region_late (L : List Nat) (S : Nat → Prop) {id : Nat} {Q' : Exit → Act → World → Prop} {a : Act} {w : World} (hm : P.follows .mixedOrders = true)
  (h : wpH L S P ops (fun a' w' => Q' .normal a' w') ops.size (Array.replicate ops.size false) a { w with drawn := w.drawn + 1 }) : (Code.region id ops true).wp P Q' a w :=
 wp_region_any hm (wpAny_of_H (fun _ _ h => h) _ _ _ _ h)
end
end Go.Proofs.Ytmcddolkpcgddaa
