/-
 Contract of dead's drop.
-/
import Derived.Test.YtnnhobbabcfogaaDoorZDeadDrops25
import Derived.Test.YtnnhobbabcfogaaDoorZDeadDrops29
import Derived.Laws.AppendOwnNone
set_option linter.all false
namespace Go.Proofs.YtnnhobbabcfogaaDoor
open Go.ChangeShapes Go.WideShapes Go.ChangeAt Go.RowKit
set_option maxHeartbeats 4000000
set_option maxRecDepth 100000
set_option linter.unusedVariables false

/-- the places at which a block has something idle -/
def placesL (p : Pr) (n : Nat) : List Int := idleL p n ++ storeL p n
/-- a procedure without what is idle -/
def dropP (p : Pr) : Pr := { p with blks := (List.range p.blks.length).map fun n => { p.blks.getD n default with ins := withoutL (p.blks.getD n default).ins (placesL p n) } }
def goneP (p : Pr) (n : Nat) : Nat := ((List.range n).map fun j => (placesL p j).length).sum
theorem goneP_succ (p : Pr) (n : Nat) : goneP p (n + 1) = goneP p n + (placesL p n).length := by
 unfold goneP; rw [List.range_succ, List.map_append, List.sum_append]; simp
/-- the rows of a table from n on -/
structure RowsF (wr : World) (gT B N n : Nat) (vs : List Value) (F : Nat → List Int) : Prop where
 cell : ∀ j, n ≤ j → j < N → wr.cell? ⟨gT, j, none⟩ = some (vs.getD j undef)
 row : ∀ j, n ≤ j → j < N → OwnI wr B (vs.getD j undef) (F j)
 ne : ∀ i j, n ≤ i → i < N → n ≤ j → j < N → i ≠ j → (vs.getD i undef).ownBlock = none ∨ (vs.getD i undef).ownBlock ≠ (vs.getD j undef).ownBlock
 gB : gT < B
theorem PT.rowsF {W0 w : World} {gP B n : Nat} {vs : List Value} {F : Nat → List Int} (h : PT W0 w gP B n vs ((List.range n).map F)) : RowsF w gP B n 0 vs F :=
 ⟨fun j _ hj => h.cell hj, fun j _ hj => by have := h.row j hj; rwa [show ((List.range n).map F).getD j [] = F j by simp [List.getD, hj]] at this, fun i j _ hi _ hj hij => h.ne i j hi hj hij, h.gB⟩
theorem RowsF.later {wr : World} {gT B N n : Nat} {vs : List Value} {F : Nat → List Int} (h : RowsF wr gT B N n vs F) : RowsF wr gT B N (n + 1) vs F :=
 ⟨fun j h1 h2 => h.cell j (by omega) h2, fun j h1 h2 => h.row j (by omega) h2, fun i j h1 h2 h3 h4 => h.ne i j (by omega) h2 (by omega) h4, h.gB⟩
/-- one block turns that no row from n on lies in -/
theorem RowsF.turn {wr w' : World} {gT B N n : Nat} {vs : List Value} {F : Nat → List Int} {r : Option Nat} (h : RowsF wr gT B N n vs F) (hg : wr.grownBy w' r) (h1 : r ≠ some gT) (h2 : ∀ j, n ≤ j → j < N → (vs.getD j undef).ownBlock = none ∨ (vs.getD j undef).ownBlock ≠ r) : RowsF w' gT B N n vs F :=
 ⟨fun j a b => (grown_cell hg (World.block_lt_of_cell? wr _ (h.cell j a b)) h1).trans (h.cell j a b), fun j a b => World.ownsRow.kept (h.row j a b) hg (h2 j a b), h.ne, h.gB⟩
theorem RowsF.below {wr w' : World} {gT B N n : Nat} {vs : List Value} {F : Nat → List Int} (h : RowsF wr gT B N n vs F) (hb : Below wr.heap.size wr w') : RowsF w' gT B N n vs F :=
 ⟨fun j a b => (hb.cell (p := ⟨gT, j, none⟩) (World.block_lt_of_cell? wr _ (h.cell j a b))).trans (h.cell j a b), fun j a b => (h.row j a b).below hb, h.ne, h.gB⟩
/-- a row of instructions as it was; the arguments' rows lie in an elder world -/
def GoodO (w00 wb : World) (x : Bk × Value) : Prop := ∃ L' : List (In × Value), L'.map Prod.fst = x.1.ins ∧ Src wb x.2 L'.length (L'.flatMap inCells) ∧ ∀ y ∈ L', RdI w00 y.2 y.1.args
/-- a row of instructions of the call's own -/
def GoodR (w00 wr : World) (B : Nat) (x : Bk × Value) : Prop := ∃ L' : List (In × Value), OwnC wr B x.2 L' ∧ L'.map Prod.fst = x.1.ins ∧ ∀ y ∈ L', RdI w00 y.2 y.1.args
theorem GoodR.rd {w00 wr : World} {B : Nat} {x : Bk × Value} (h : GoodR w00 wr B x) (he : Ext w00 wr) : RdIns wr x.2 x.1.ins := by
 obtain ⟨L', h1, h2, h3⟩ := h
 rw [← h2]; exact OwnIn.rd ⟨h1, fun y hy => (h3 y hy).ext he⟩
theorem GoodR.turn {w00 wr w' : World} {B : Nat} {x : Bk × Value} {r : Option Nat} (h : GoodR w00 wr B x) (hg : wr.grownBy w' r) (hr : ∀ b, r = some b → b < B) : GoodR w00 w' B x := by
 obtain ⟨L', h1, h2, h3⟩ := h
 refine ⟨L', World.ownsRow.kept h1 hg ?_, h2, h3⟩
 rcases e2 : x.2.ownBlock with _ | b
 ·exact .inl rfl
 ·refine .inr fun e => ?_
  have := (World.ownsRow.lt h1 b e2).1
  have := hr b e.symm
  omega
theorem GoodR.below {w00 wr w' : World} {B : Nat} {x : Bk × Value} (h : GoodR w00 wr B x) (hb : Below wr.heap.size wr w') : GoodR w00 w' B x := by
 obtain ⟨L', h1, h2, h3⟩ := h
 exact ⟨L', own_below h1 hb, h2, h3⟩
theorem own_baseD {w : World} {B B' n sz : Nat} {e : TypeId} {v : Value} {xs : List Value} (h : w.ownsRow B e sz v n xs) (hB : B' ≤ B) : w.ownsRow B' e sz v n xs := by
 obtain ⟨h1, h2 | ⟨g, cap, cur, e1, e2, e3⟩⟩ := h
 ·exact ⟨h1, .inl h2⟩
 ·exact ⟨h1, .inr ⟨g, cap, cur, e1, by omega, e3⟩⟩
theorem GoodR.mono {w00 wr : World} {B B' : Nat} {x : Bk × Value} (h : GoodR w00 wr B x) (hB : B' ≤ B) : GoodR w00 wr B' x := by
 obtain ⟨L', h1, h2, h3⟩ := h
 exact ⟨L', own_baseD h1 hB, h2, h3⟩
/-- an own row as cells that can be read -/
theorem own_src {w : World} {B n sz : Nat} {e : TypeId} {v : Value} {xs : List Value} (h : w.ownsRow B e sz v n xs) : Src w v n xs := by
 have h' := h
 obtain ⟨h1, ⟨rfl, h2⟩ | ⟨g, cap, cur, rfl, h3, h4, h5, h6, -⟩⟩ := h'
 ·exact .inl ⟨⟨0, rfl⟩, h2, List.eq_nil_of_length_eq_zero (by rw [h1, h2]; simp)⟩
 ·refine .inr ⟨⟨g, 0, none⟩, cap, rfl, h5, h6, fun j u hj => ⟨g, 0, rfl, ?_⟩⟩
  have hlt := (List.getElem?_eq_some_iff.1 hj).1
  rw [Nat.zero_add, World.ownsRow.cellAt h j (by omega)]
  exact hj
/-- a procedure's blocks -/
def InsAt (w00 w : World) (vb : Value) (bs : List Bk) : Prop := ∃ L : List (Bk × Value), L.map Prod.fst = bs ∧ Src w vb L.length (L.flatMap bkCells) ∧ ∀ x ∈ L, GoodO w00 w x
/-- a procedure's blocks, of the call's own -/
def OutB (w00 w : World) (B : Nat) (vb : Value) (bs : List Bk) : Prop := ∃ L : List (Bk × Value), w.ownsRow B 40 5 vb L.length (L.flatMap bkCells) ∧ L.map Prod.fst = bs ∧ ∀ x ∈ L, GoodR w00 w B x
theorem OutB.rd {w00 w : World} {B : Nat} {vb : Value} {bs : List Bk} (h : OutB w00 w B vb bs) (he : Ext w00 w) : RdBks w vb bs := by
 obtain ⟨L, h1, rfl, h3⟩ := h
 exact OwnBk.rd ⟨h1, fun x hx => (h3 x hx).rd he⟩
theorem OutB.ins {w00 w : World} {B : Nat} {vb : Value} {bs : List Bk} (h : OutB w00 w B vb bs) : InsAt w00 w vb bs := by
 obtain ⟨L, h1, h2, h3⟩ := h
 refine ⟨L, h2, own_src h1, fun x hx => ?_⟩
 obtain ⟨L', k1, k2, k3⟩ := h3 x hx
 exact ⟨L', k2, own_src k1, k3⟩
theorem OutB.turn {w00 w w' : World} {B : Nat} {vb : Value} {bs : List Bk} {r : Option Nat} (h : OutB w00 w B vb bs) (hg : w.grownBy w' r) (hr : ∀ b, r = some b → b < B) : OutB w00 w' B vb bs := by
 obtain ⟨L, h1, h2, h3⟩ := h
 refine ⟨L, World.ownsRow.kept h1 hg ?_, h2, fun x hx => (h3 x hx).turn hg hr⟩
 rcases e2 : vb.ownBlock with _ | b
 ·exact .inl rfl
 ·refine .inr fun e => ?_
  have := (World.ownsRow.lt h1 b e2).1
  have := hr b e.symm
  omega
theorem OutB.below {w00 w w' : World} {B : Nat} {vb : Value} {bs : List Bk} (h : OutB w00 w B vb bs) (hb : Below w.heap.size w w') : OutB w00 w' B vb bs := by
 obtain ⟨L, h1, h2, h3⟩ := h
 exact ⟨L, own_below h1 hb, h2, fun x hx => (h3 x hx).below hb⟩
theorem InsAt.of {w : World} {vb : Value} {bs : List Bk} (h : RdBks w vb bs) : InsAt w w vb bs := by
 obtain ⟨L, h1, h2, h3⟩ := h.src
 refine ⟨L, h1, by rw [show L.length = bs.length by rw [← h1]; simp]; exact h3, fun x hx => ?_⟩
 obtain ⟨L', k1, k2, k3⟩ := (h2 x hx).src
 exact ⟨L', k1, by rw [show L'.length = x.1.ins.length by rw [← k1]; simp]; exact k3, k2⟩
theorem src_sl {w : World} {v : Value} {n : Nat} {xs : List Value} (h : Src w v n xs) : ∃ a c, v = .slice a n c := by
 rcases h with ⟨⟨c, e⟩, e2, -⟩ | ⟨ad, c, e, -⟩
 ·exact ⟨none, c, by rw [e, e2]⟩
 ·exact ⟨_, c, e⟩
/-- how far drop has come -/
structure DrP (p : Pr) (w00 wb w3 wr : World) (gB cB : Nat) (n : Nat) (cur : List (Bk × Value)) : Prop where
 own : wr.ownsRow wb.heap.size 40 5 (.slice (some ⟨gB, 0, none⟩) p.blks.length cB) p.blks.length (cur.flatMap bkCells)
 len : cur.length = p.blks.length
 good : ∀ j, j < n → j < p.blks.length → GoodR w00 wr w3.heap.size (cur.getD j default)
 fst : ∀ j, j < p.blks.length → (cur.getD j default).1 = if j < n then { p.blks.getD j default with ins := withoutL (p.blks.getD j default).ins (placesL p j) } else p.blks.getD j default
 below : Below wb.heap.size wb wr
 orig : ∀ j, n ≤ j → j < p.blks.length → GoodO w00 wb (cur.getD j default)
section
variable {p : Pr} {w00 wb w3 wr w' : World} {gB cB n : Nat} {cur : List (Bk × Value)}
theorem DrP.grow (h : DrP p w00 wb w3 wr gB cB n cur) (hb : Below wr.heap.size wr w') : DrP p w00 wb w3 w' gB cB n cur :=
 ⟨own_below h.own hb, h.len, fun j h1 h2 => (h.good j h1 h2).below hb, h.fst, h.below.trans (hb.mono h.below.size), h.orig⟩
theorem DrP.turn {r : Option Nat} (h : DrP p w00 wb w3 wr gB cB n cur) (hg : wr.grownBy w' r) (hr : ∀ b, r = some b → b < w3.heap.size ∧ b ≠ gB ∧ wb.heap.size ≤ b) : DrP p w00 wb w3 w' gB cB n cur :=
 ⟨World.ownsRow.kept h.own hg (.inr fun e => (hr gB e.symm).2.1 rfl), h.len, fun j h1 h2 => (h.good j h1 h2).turn hg (fun b e => (hr b e).1), h.fst, grown_belG h.below h.below.size hg (fun b e => (hr b e).2.2), h.orig⟩
/-- a block's instructions are laid down anew -/
theorem DrP.set (h : DrP p w00 wb w3 wr gB cB n cur) (hn : n < p.blks.length) {v : Value} {L' : List (In × Value)} (hv : OwnC wr w3.heap.size v L') (hl : L'.map Prod.fst = withoutL (p.blks.getD n default).ins (placesL p n)) (ha : ∀ y ∈ L', RdI w00 y.2 y.1.args) (hgB : wb.heap.size ≤ gB) (hg3 : gB < w3.heap.size) :
  DrP p w00 wb w3 (wr.setCell ⟨gB, n * 5, none⟩ v) gB cB (n + 1) (cur.set n ({ p.blks.getD n default with ins := withoutL (p.blks.getD n default).ins (placesL p n) }, v)) := by
 have hlen := h.len
 have hgr : wr.grownBy (wr.setCell ⟨gB, n * 5, none⟩ v) (some gB) := ⟨rfl, rfl, rfl, by simp, fun k _ hk => Below.heap_setCell wr ⟨gB, n * 5, none⟩ _ k (fun e => hk (by rw [show k = gB from e]))⟩
 have hfn := h.fst n hn
 rw [if_neg (Nat.lt_irrefl n)] at hfn
 have hflat := flat_set bkCells 5 (fun _ => rfl) cur n 0 v ({ p.blks.getD n default with ins := withoutL (p.blks.getD n default).ins (placesL p n) }, v) (by omega) (by decide) (by
  show bkCells _ = (bkCells (cur.getD n default)).set 0 v
  unfold bkCells
  rw [hfn]
  rfl)
 have ho := (World.ownsRow.stored h.own (n * 5) v).1
 rw [show n * 5 = n * 5 + 0 from rfl, hflat] at ho
 have hother : ∀ j, j ≠ n → (cur.set n ({ p.blks.getD n default with ins := withoutL (p.blks.getD n default).ins (placesL p n) }, v)).getD j default = cur.getD j default := fun j hj => by
  simp [List.getD, List.getElem?_set, Ne.symm hj]
 have hself : (cur.set n ({ p.blks.getD n default with ins := withoutL (p.blks.getD n default).ins (placesL p n) }, v)).getD n default = ({ p.blks.getD n default with ins := withoutL (p.blks.getD n default).ins (placesL p n) }, v) := by
  simp [List.getD, hlen, hn]
 refine ⟨ho, by simpa using h.len, fun j hj1 hj2 => ?_, fun j hj => ?_, h.below.setCell hgB _, fun j h1 h2 => ?_⟩
 ·by_cases e : j = n
  ·subst e
   rw [hself]
   exact (GoodR.turn ⟨L', hv, hl, ha⟩ hgr (fun b e => by cases e; exact hg3))
  ·rw [hother j e]
   exact (h.good j (by omega) hj2).turn hgr (fun b e => by cases e; exact hg3)
 ·by_cases e : j = n
  ·subst e
   rw [if_pos (by omega), hself]
  ·rw [hother j e, h.fst j hj]
   by_cases h1 : j < n
   ·rw [if_pos h1, if_pos (by omega)]
   ·rw [if_neg h1, if_neg (by omega)]
 ·rw [hother j (by omega)]
  exact h.orig j (by omega) h2
/-- all gone through -/
theorem DrP.done (h : DrP p w00 wb w3 wr gB cB p.blks.length cur) (hw : wb.heap.size ≤ w3.heap.size) : OutB w00 wr wb.heap.size (.slice (some ⟨gB, 0, none⟩) p.blks.length cB) (dropP p).blks := by
 have e : cur.map Prod.fst = (dropP p).blks := by
  apply List.ext_getElem
  ·simp [dropP, h.len]
  ·intro i h1 h2
   have hi : i < p.blks.length := by simpa [dropP] using h2
   have := h.fst i hi
   rw [if_pos hi] at this
   have hc : i < cur.length := by rw [h.len]; exact hi
   have e3 : cur.getD i default = cur[i] := by simp [List.getD, hc]
   rw [e3] at this
   simp [dropP, this]
 have ho := h.own
 rw [← h.len] at ho
 rw [← h.len]
 refine ⟨cur, ho, e, fun x hx => ?_⟩
 obtain ⟨i, hi, rfl⟩ := List.getElem_of_mem hx
 have hi2 : i < p.blks.length := by rw [← h.len]; exact hi
 have e3 : cur.getD i default = cur[i] := by simp [List.getD, hi]
 rw [← e3]
 exact (h.good i hi2 hi2).mono hw
end
end Go.Proofs.YtnnhobbabcfogaaDoor
