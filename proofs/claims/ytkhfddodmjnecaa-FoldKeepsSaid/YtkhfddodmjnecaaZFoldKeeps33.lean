/-
 What registers have whenever a block begins, as maps (fold.Consts).; Rows of the document (rushlightref17.Row) in memory.; A row of the document is copied (rushlightref17.copied).; Outcomes compared; the worked example of layer 14.; The document's functions of words and places.; The document's row behind an instruction (rushlightref17.Behind).; The row behind a function of one word.; The row behind a function of two words.; The row behind any instruction (rushlightref17.Behind).; The document's row behind a block (rushlightref17.End).; What both rows have (rushlightref17.meet).
-/
import Derived.Test.YtkhfddodmjnecaaZFoldKeeps32
import Derived.Test.YtkhfddodmjnecaaZFoldKeeps31
import Derived.Test.YtkhfddodmjnecaaZFoldKeeps12
import Derived.Test.YtkhfddodmjnecaaZFoldKeeps24
import Derived.Test.YtkhfddodmjnecaaZFoldKeeps16
import Derived.Test.YtkhfddodmjnecaaZFoldKeeps10

set_option linter.all false
namespace Go.Proofs.Ytkhfddodmjnecaa
open Go.ChangeShapes Go.WideShapes Go.ChangeAt Go.RowKit Go.Maps
set_option maxHeartbeats 4000000
set_option maxRecDepth 100000
set_option linter.unusedVariables false

theorem MapU.ne {w : World} {b c B m s : Nat} {e : TypeId} {M : Int → Option Int} {v : Value} {xs : List Value} (h : MapU w b c M) (ho : w.ownsRow B e s v m xs) : some b ≠ v.ownBlock := by
 obtain ⟨D, h1, -⟩ := h
 intro e2
 obtain ⟨-, ⟨rfl, -⟩ | ⟨g', cap, cur, rfl, hb, hg, -⟩⟩ := ho
 ·cases e2
 ·simp only [Value.ownBlock, Option.some.injEq] at e2
  subst e2
  obtain ⟨es, ck, hes, -⟩ := h1
  rw [hg] at hes
  cases hes
def OwnM (w : World) (B : Nat) (v : Value) (bs : List Nat) : Prop := w.ownsRow B 81 1 v bs.length (bs.map fun b => .map (some b))
theorem OwnM.base {w : World} {B : Nat} {v : Value} {bs : List Nat} (h : OwnM w B v bs) : OwnM w 0 v bs := by
 obtain ⟨hl, h | ⟨g, cap, cur, e1, e2, r⟩⟩ := h
 ·exact ⟨hl, .inl h⟩
 ·exact ⟨hl, .inr ⟨g, cap, cur, e1, Nat.zero_le _, r⟩⟩
/-- the row of a block, at its beginning -/
def atB (R : Nat) (X : Tb) (i : Nat) : Ro := (X.getD i none).getD (roNo R)
end Go.Proofs.Ytkhfddodmjnecaa

set_option linter.all false
namespace Go.Proofs.Ytkhfddodmjnecaa
open Go.ChangeShapes Go.WideShapes Go.ChangeAt Go.RowKit
set_option maxHeartbeats 4000000
set_option maxRecDepth 100000
set_option linter.unusedVariables false

/-- a slice that can be read, one cell an element -/
def RdVs (w : World) (v : Value) (xs : List Value) : Prop := ∃ a c, v = .slice a xs.length c ∧ xs.length ≤ c ∧ c ≤ maxLen ∧ ∀ i, i < xs.length → ∃ b o, a = some ⟨b, o, none⟩ ∧ w.cell? ⟨b, o + i, none⟩ = xs[i]?
theorem RdVs.ext {w w' : World} {v : Value} {xs : List Value} (h : RdVs w v xs) (he : Ext w w') : RdVs w' v xs := by
 obtain ⟨a, c, e, h1, h2, h3⟩ := h
 refine ⟨a, c, e, h1, h2, fun i hi => ?_⟩
 obtain ⟨b, o, e1, e2⟩ := h3 i hi
 refine ⟨b, o, e1, ?_⟩
 rw [List.getElem?_eq_getElem hi] at e2 ⊢
 exact he _ _ e2
def hasV (t : Ro) : List Value := t.map fun o => .bool o.isSome
def numV (t : Ro) : List Value := t.map fun o => .int .u32 (o.getD 0)
/-- a row of the document; none: nothing is known -/
def RwV (w : World) (v : Value) (o : Option Ro) : Prop := ∃ vh vn, v = .agg #[.bool o.isSome, vh, vn] ∧ RdVs w vh (hasV (o.getD [])) ∧ RdVs w vn (numV (o.getD []))
theorem RwV.ext {w w' : World} {v : Value} {o : Option Ro} (h : RwV w v o) (he : Ext w w') : RwV w' v o := by
 obtain ⟨vh, vn, e, h1, h2⟩ := h
 exact ⟨vh, vn, e, h1.ext he, h2.ext he⟩
theorem own_rdVs {w : World} {B : Nat} {e : TypeId} {v : Value} {xs : List Value} (h : w.ownsRow B e 1 v xs.length xs) : RdVs w v xs := by
 have h' := h
 obtain ⟨-, ⟨rfl, e2⟩ | ⟨g, cap, cur, rfl, -, -, h1, h2, -⟩⟩ := h
 ·exact ⟨none, 0, by rw [e2], by omega, by decide, fun i hi => by omega⟩
 ·refine ⟨some ⟨g, 0, none⟩, cap, rfl, h1, h2, fun i hi => ⟨g, 0, rfl, ?_⟩⟩
  rw [Nat.zero_add]
  exact World.ownsRow.cellAt h' i (by omega)
end Go.Proofs.Ytkhfddodmjnecaa

set_option linter.all false
namespace Go.Proofs.Ytkhfddodmjnecaa
open Go.ChangeShapes Go.WideShapes Go.ChangeAt Go.RowKit
set_option maxHeartbeats 4000000
set_option maxRecDepth 100000
set_option linter.unusedVariables false

/-- a row of the document that one may write -/
def OwRw (w : World) (B : Nat) (v : Value) (seen : Bool) (t : Ro) : Prop := ∃ vh vn, v = .agg #[.bool seen, vh, vn] ∧ w.ownsRow B 4 1 vh t.length (hasV t) ∧ w.ownsRow B 36 1 vn t.length (numV t)
/-- while a row is copied: what is ahead of B stays; the copy's struct is block B -/
structure CpM (W0 : World) (B : Nat) (S : Bool) (t : Ro) (wr : World) (vh vn : Value) (i j : Nat) : Prop where
 bx : wr.heap[B]? = some (.cells #[.bool S, vh, vn] 83)
 oh : wr.ownsRow (B + 1) 4 1 vh i (hasV (t.take i))
 on : wr.ownsRow (B + 1) 36 1 vn j (numV (t.take j))
 bl : Below B W0 wr
theorem row_not {w : World} {B m s b : Nat} {e ty : TypeId} {v : Value} {xs : List Value} {cs : Array Value} (h : w.ownsRow B e s v m xs) (hb : w.heap[b]? = some (.cells cs ty)) (hne : e ≠ ty) : v.ownBlock ≠ some b := by
 obtain ⟨-, ⟨rfl, -⟩ | ⟨g', cap, cur, rfl, -, hg, -⟩⟩ := h
 ·intro e2; cases e2
 ·intro e2
  simp only [Value.ownBlock, Option.some.injEq] at e2
  subst e2
  rw [hb] at hg
  simp only [Option.some.injEq, Obj.cells.injEq] at hg
  exact hne hg.2.1.symm
theorem ow_form {w : World} {B n s : Nat} {e : TypeId} {v : Value} {xs : List Value} (h : w.ownsRow B e s v n xs) : ∃ a c, v = .slice a n c := by
 obtain ⟨-, ⟨rfl, rfl⟩ | ⟨g, cap, cur, rfl, -⟩⟩ := h
 ·exact ⟨none, 0, rfl⟩
 ·exact ⟨_, _, rfl⟩
theorem ow_base {w : World} {B B' n s : Nat} {e : TypeId} {v : Value} {xs : List Value} (h : w.ownsRow B e s v n xs) (hb : B' ≤ B) : w.ownsRow B' e s v n xs := by
 obtain ⟨hl, h | ⟨g, cap, cur, e1, e2, r⟩⟩ := h
 ·exact ⟨hl, .inl h⟩
 ·exact ⟨hl, .inr ⟨g, cap, cur, e1, Nat.le_trans hb e2, r⟩⟩
theorem ow_set {w : World} {B n s b i : Nat} {e : TypeId} {v u : Value} {xs : List Value} (h : w.ownsRow B e s v n xs) (hb : b < B) : (w.setCell ⟨b, i, none⟩ u).ownsRow B e s v n xs :=
 World.ownsRow.kept h (but_grownK (But.setCell b i w u)) (.inr (by
  obtain ⟨-, ⟨rfl, -⟩ | ⟨g, cap, cur, rfl, hg, -⟩⟩ := h
  ·intro e; cases e
  ·intro e
   simp only [Value.ownBlock, Option.some.injEq] at e
   omega))
theorem ow_ge {w : World} {B n s g : Nat} {e : TypeId} {v : Value} {xs : List Value} (h : w.ownsRow B e s v n xs) (hv : v.ownBlock = some g) : B ≤ g := by
 obtain ⟨-, ⟨rfl, -⟩ | ⟨g', cap, cur, rfl, hg, -⟩⟩ := h
 ·cases hv
 ·cases hv; exact hg
theorem ow_apart {w : World} {B B' n n' s s' : Nat} {e e' : TypeId} {v v' : Value} {xs xs' : List Value} (h : w.ownsRow B e s v n xs) (h' : w.ownsRow B' e' s' v' n' xs') (hne : e ≠ e') : v'.ownBlock = none ∨ v'.ownBlock ≠ v.ownBlock := by
 obtain ⟨-, ⟨rfl, -⟩ | ⟨g', cap, cur, rfl, -, hg, -⟩⟩ := h'
 ·exact .inl rfl
 ·exact .inr fun e2 => row_not h hg hne e2.symm
theorem hasV_take {t : Ro} {k : Nat} (h : k < t.length) : hasV (t.take (k + 1)) = hasV (t.take k) ++ [.bool (t.getD k none).isSome] := by
 unfold hasV
 rw [List.take_succ, List.getElem?_eq_getElem h, List.map_append]
 simp [List.getD, h]
theorem numV_take {t : Ro} {k : Nat} (h : k < t.length) : numV (t.take (k + 1)) = numV (t.take k) ++ [.int .u32 ((t.getD k none).getD 0)] := by
 unfold numV
 rw [List.take_succ, List.getElem?_eq_getElem h, List.map_append]
 simp [List.getD, h]
theorem CpM.has {W0 wr W w' : World} {B k j : Nat} {S sk : Bool} {t : Ro} {vh vn v' : Value} (h : CpM W0 B S t wr vh vn k j) (hk : k < t.length) (hsk : (t.getD k none).isSome = sk) (hb : Below wr.heap.size wr W) (hB : B ≤ W0.heap.size) (h1 : w'.ownsRow (B + 1) 4 1 v' (k + 1) (hasV (t.take k) ++ [.bool sk])) (hg : W.grownBy w' vh.ownBlock) : CpM W0 B S t (w'.setCell ⟨B, 1, none⟩ v') v' vn (k + 1) j := by
 have lB := (Array.getElem?_eq_some_iff.1 h.bx).1
 have hsz := hb.size
 have oh := own_below h.oh hb
 have on := own_below h.on hb
 have bx := (hg.block B (by omega) (fun e => by have := ow_ge h.oh e.symm; omega)).trans ((hb.block _ lB).trans h.bx)
 have on2 := on.kept hg (ow_apart oh on (by decide))
 refine ⟨?_, ?_, ow_set on2 (Nat.lt_succ_self _), ?_⟩
 ·rw [heap_setCell_same _ _ _ _ _ _ bx]; rfl
 ·rw [hasV_take hk, hsk]
  exact ow_set h1 (Nat.lt_succ_self _)
 ·exact ((h.bl.trans (hb.mono (by omega))).grown hg (by omega) (fun g e => by have := ow_ge h.oh e; omega)).setCell (p := ⟨B, 1, none⟩) (Nat.le_refl _) _
theorem CpM.num {W0 wr W w' : World} {B k j : Nat} {S : Bool} {z : Int} {t : Ro} {vh vn v' : Value} (h : CpM W0 B S t wr vh vn k j) (hk : j < t.length) (hz : (t.getD j none).getD 0 = z) (hb : Below wr.heap.size wr W) (hB : B ≤ W0.heap.size) (h1 : w'.ownsRow (B + 1) 36 1 v' (j + 1) (numV (t.take j) ++ [.int .u32 z])) (hg : W.grownBy w' vn.ownBlock) : CpM W0 B S t (w'.setCell ⟨B, 2, none⟩ v') vh v' k (j + 1) := by
 have lB := (Array.getElem?_eq_some_iff.1 h.bx).1
 have hsz := hb.size
 have oh := own_below h.oh hb
 have on := own_below h.on hb
 have bx := (hg.block B (by omega) (fun e => by have := ow_ge h.on e.symm; omega)).trans ((hb.block _ lB).trans h.bx)
 have oh2 := oh.kept hg (ow_apart on oh (by decide))
 refine ⟨?_, ow_set oh2 (Nat.lt_succ_self _), ?_, ?_⟩
 ·rw [heap_setCell_same _ _ _ _ _ _ bx]; rfl
 ·rw [numV_take hk, hz]
  exact ow_set h1 (Nat.lt_succ_self _)
 ·exact ((h.bl.trans (hb.mono (by omega))).grown hg (by omega) (fun g e => by have := ow_ge h.on e; omega)).setCell (p := ⟨B, 2, none⟩) (Nat.le_refl _) _
end Go.Proofs.Ytkhfddodmjnecaa

set_option linter.all false
namespace Go.Proofs.Ytkhfddodmjnecaa
open Go.ChangeShapes Go.WideShapes Go.ChangeAt Go.RowKit
set_option maxHeartbeats 8000000
set_option linter.unusedVariables false
set_option maxRecDepth 100000

end Go.Proofs.Ytkhfddodmjnecaa

set_option linter.all false
namespace Go.Proofs.Ytkhfddodmjnecaa
open Go.ChangeShapes Go.WideShapes Go.ChangeAt Go.RowKit
set_option maxHeartbeats 8000000
set_option linter.unusedVariables false
set_option maxRecDepth 100000

end Go.Proofs.Ytkhfddodmjnecaa

set_option linter.all false
namespace Go.Proofs.Ytkhfddodmjnecaa
open Go.ChangeShapes Go.WideShapes Go.ChangeAt Go.RowKit
set_option maxHeartbeats 4000000
set_option maxRecDepth 100000
set_option linter.unusedVariables false

/-- registers that an instruction reads for its number are there -/
def UseC (n : Nat) (i : In) : Prop := (i.op = 2 ∨ i.op = 3 ∨ i.op = 4 → 0 ≤ i.a ∧ i.a < (n : Int)) ∧ (i.op = 3 → 0 ≤ i.b ∧ i.b < (n : Int))
theorem OwRw.rd {w : World} {B : Nat} {v : Value} {s : Bool} {t : Ro} (h : OwRw w B v s t) : ∃ vh vn, v = .agg #[.bool s, vh, vn] ∧ RdVs w vh (hasV t) ∧ RdVs w vn (numV t) := by
 obtain ⟨vh, vn, rfl, h1, h2⟩ := h
 exact ⟨vh, vn, rfl, own_rdVs (by rw [show (hasV t).length = t.length by simp [hasV]]; exact h1), own_rdVs (by rw [show (numV t).length = t.length by simp [numV]]; exact h2)⟩
theorem OwRw.rdS {w : World} {B : Nat} {v : Value} {t : Ro} (h : OwRw w B v true t) : RwV w v (some t) := h.rd
theorem OwRw.below {w w' : World} {B : Nat} {v : Value} {s : Bool} {t : Ro} (h : OwRw w B v s t) (hb : Below w.heap.size w w') : OwRw w' B v s t := by
 obtain ⟨vh, vn, rfl, h1, h2⟩ := h
 exact ⟨vh, vn, rfl, own_below h1 hb, own_below h2 hb⟩
theorem OwRw.base {w : World} {B B' : Nat} {v : Value} {s : Bool} {t : Ro} (h : OwRw w B v s t) (hb : B' ≤ B) : OwRw w B' v s t := by
 obtain ⟨vh, vn, rfl, h1, h2⟩ := h
 exact ⟨vh, vn, rfl, ow_base h1 hb, ow_base h2 hb⟩
theorem OwRw.set {w : World} {B b i : Nat} {v u : Value} {s : Bool} {t : Ro} (h : OwRw w B v s t) (hb : b < B) : OwRw (w.setCell ⟨b, i, none⟩ u) B v s t := by
 obtain ⟨vh, vn, rfl, h1, h2⟩ := h
 exact ⟨vh, vn, rfl, ow_set h1 hb, ow_set h2 hb⟩
theorem OwRw.set3 {w : World} {B b : Nat} {v u0 u1 u2 : Value} {s : Bool} {t : Ro} (h : OwRw w B v s t) (hb : b < B) : OwRw (((w.setCell ⟨b, 0, none⟩ u0).setCell ⟨b, 1, none⟩ u1).setCell ⟨b, 2, none⟩ u2) B v s t := ((h.set hb).set hb).set hb
/-- what is handed back: the row itself, or one of its own -/
def BehP (w : World) (v : Value) (t0 t : Ro) (w' : World) (v' : Value) : Prop := v' = v ∧ t = t0 ∨ OwRw w' w.heap.size v' true t
theorem BehP.rd {w w' : World} {v v' : Value} {t0 t : Ro} (h : BehP w v t0 t w' v') (hr : RwV w' v (some t0)) : RwV w' v' (some t) := by
 rcases h with ⟨rfl, rfl⟩ | h
 ·exact hr
 ·exact h.rdS
theorem hasV_set (t : Ro) (d : Nat) (o : Option Int) : hasV (t.set d o) = (hasV t).set d (.bool o.isSome) := by unfold hasV; rw [List.map_set]
theorem numV_set (t : Ro) (d : Nat) (o : Option Int) : numV (t.set d o) = (numV t).set d (.int .u32 (o.getD 0)) := by unfold numV; rw [List.map_set]
/-- a copied row is turned: what is ahead of B stays -/
structure BhM (W0 : World) (B b6 : Nat) (n : Nat) (wr : World) (vh vn : Value) (hs ns : List Value) : Prop where
 bx : wr.heap[b6]? = some (.cells #[.bool true, vh, vn] 83)
 oh : wr.ownsRow B 4 1 vh n hs
 on : wr.ownsRow B 36 1 vn n ns
 bl : Below B W0 wr
 bB : B ≤ b6
theorem own_slice {w : World} {B n s : Nat} {e : TypeId} {v : Value} {xs : List Value} (h : w.ownsRow B e s v n xs) (hn : 0 < n) : ∃ g c, v = .slice (some ⟨g, 0, none⟩) n c := by
 obtain ⟨-, ⟨-, h1⟩ | ⟨g', cap, cur, h1, -⟩⟩ := h
 ·omega
 ·exact ⟨g', cap, h1⟩
theorem own_other {w : World} {B n s b i : Nat} {e : TypeId} {v : Value} {xs : List Value} (h : w.ownsRow B e s v n xs) (hb : v.ownBlock ≠ some b) (u : Value) : (w.setCell ⟨b, i, none⟩ u).ownsRow B e s v n xs :=
 World.ownsRow.kept h (but_grownK (But.setCell b i w u)) (.inr hb)
theorem own_heap {w : World} {B n s g c : Nat} {e : TypeId} {xs : List Value} (h : w.ownsRow B e s (.slice (some ⟨g, 0, none⟩) n c) n xs) (hn : 0 < n) : B ≤ g ∧ ∃ cs, w.heap[g]? = some (.cells cs e) := by
 obtain ⟨-, ⟨h1, -⟩ | ⟨g', cap, cur, h1, hg, hb, -⟩⟩ := h
 ·cases h1
 ·simp only [Value.slice.injEq, Option.some.injEq, Addr.mk.injEq] at h1
  obtain ⟨⟨rfl, -⟩, -⟩ := h1
  exact ⟨hg, _, hb⟩
theorem BhM.ne {W0 wr : World} {B b6 n gh ch gn cn : Nat} {hs ns : List Value} (h : BhM W0 B b6 n wr (.slice (some ⟨gh, 0, none⟩) n ch) (.slice (some ⟨gn, 0, none⟩) n cn) hs ns) (n0 : 0 < n) : gh ≠ gn ∧ gh ≠ b6 ∧ gn ≠ b6 ∧ B ≤ gh ∧ B ≤ gn := by
 obtain ⟨h1, c1, e1⟩ := own_heap h.oh n0
 obtain ⟨h2, c2, e2⟩ := own_heap h.on n0
 have h3 := h.bx
 refine ⟨fun e => ?_, fun e => ?_, fun e => ?_, h1, h2⟩
 ·rw [e, e2] at e1
  simp only [Option.some.injEq, Obj.cells.injEq] at e1
  exact absurd e1.2.1 (by decide)
 ·rw [e, h3] at e1
  simp only [Option.some.injEq, Obj.cells.injEq] at e1
  exact absurd e1.2.1 (by decide)
 ·rw [e, h3] at e2
  simp only [Option.some.injEq, Obj.cells.injEq] at e2
  exact absurd e2.2.1 (by decide)
theorem BhM.setH {W0 wr : World} {B b6 n gh ch gn cn q : Nat} {hs ns : List Value} (h : BhM W0 B b6 n wr (.slice (some ⟨gh, 0, none⟩) n ch) (.slice (some ⟨gn, 0, none⟩) n cn) hs ns) (hq : q < n) (x : Value) : BhM W0 B b6 n (wr.setCell ⟨gh, q, none⟩ x) (.slice (some ⟨gh, 0, none⟩) n ch) (.slice (some ⟨gn, 0, none⟩) n cn) (hs.set q x) ns := by
 obtain ⟨n1, n2, n3, n4, n5⟩ := h.ne (by omega)
 exact ⟨(Below.heap_setCell _ ⟨gh, q, none⟩ _ b6 (Ne.symm n2)).trans h.bx, (World.ownsRow.stored h.oh q x).1, own_other h.on (fun e => n1 (by simpa [Value.ownBlock] using e.symm)) _, h.bl.setCell (p := ⟨gh, q, none⟩) n4 _, h.bB⟩
theorem BhM.setN {W0 wr : World} {B b6 n gh ch gn cn q : Nat} {hs ns : List Value} (h : BhM W0 B b6 n wr (.slice (some ⟨gh, 0, none⟩) n ch) (.slice (some ⟨gn, 0, none⟩) n cn) hs ns) (hq : q < n) (x : Value) : BhM W0 B b6 n (wr.setCell ⟨gn, q, none⟩ x) (.slice (some ⟨gh, 0, none⟩) n ch) (.slice (some ⟨gn, 0, none⟩) n cn) hs (ns.set q x) := by
 obtain ⟨n1, n2, n3, n4, n5⟩ := h.ne (by omega)
 exact ⟨(Below.heap_setCell _ ⟨gn, q, none⟩ _ b6 (Ne.symm n3)).trans h.bx, own_other h.oh (fun e => n1 (by simpa [Value.ownBlock] using e)) _, (World.ownsRow.stored h.on q x).1, h.bl.setCell (p := ⟨gn, q, none⟩) n5 _, h.bB⟩
/-- both cells of a register are written -/
theorem BhM.set {W0 wr : World} {B b6 n gh ch gn cn q : Nat} {t : Ro} (h : BhM W0 B b6 n wr (.slice (some ⟨gh, 0, none⟩) n ch) (.slice (some ⟨gn, 0, none⟩) n cn) (hasV t) (numV t)) (hq : q < n) (o : Option Int) : BhM W0 B b6 n ((wr.setCell ⟨gh, q, none⟩ (.bool o.isSome)).setCell ⟨gn, q, none⟩ (.int .u32 (o.getD 0))) (.slice (some ⟨gh, 0, none⟩) n ch) (.slice (some ⟨gn, 0, none⟩) n cn) (hasV (t.set q o)) (numV (t.set q o)) := by
 rw [hasV_set, numV_set]
 exact (h.setH hq _).setN hq _
/-- what is there for a register in a row that one may write -/
theorem BhM.at {W0 wr : World} {B b6 n gh ch gn cn q : Nat} {hs ns : List Value} (h : BhM W0 B b6 n wr (.slice (some ⟨gh, 0, none⟩) n ch) (.slice (some ⟨gn, 0, none⟩) n cn) hs ns) (hq : q < n) : wr.cell? ⟨gh, q, none⟩ = hs[q]? ∧ wr.cell? ⟨gn, q, none⟩ = ns[q]? ∧ wr.frozen? ⟨gh, q, none⟩ = false ∧ wr.frozen? ⟨gn, q, none⟩ = false ∧ gh < wr.heap.size ∧ gn < wr.heap.size := by
 obtain ⟨-, csh, ehh⟩ := own_heap h.oh (by omega)
 obtain ⟨-, csn, enn⟩ := own_heap h.on (by omega)
 exact ⟨World.ownsRow.cellAt h.oh q (by omega), World.ownsRow.cellAt h.on q (by omega), frozen_of_heap ehh q, frozen_of_heap enn q, (Array.getElem?_eq_some_iff.1 ehh).1, (Array.getElem?_eq_some_iff.1 enn).1⟩
theorem BhM.below {W0 wr w' : World} {B b6 n : Nat} {vh vn : Value} {hs ns : List Value} (h : BhM W0 B b6 n wr vh vn hs ns) (hb : Below wr.heap.size wr w') : BhM W0 B b6 n w' vh vn hs ns :=
 ⟨(hb.block _ (Array.getElem?_eq_some_iff.1 h.bx).1).trans h.bx, own_below h.oh hb, own_below h.on hb, h.bl.trans (hb.mono (by have := (Array.getElem?_eq_some_iff.1 h.bx).1; have := h.bB; omega)), h.bB⟩
end Go.Proofs.Ytkhfddodmjnecaa

set_option linter.all false
namespace Go.Proofs.Ytkhfddodmjnecaa
open Go.ChangeShapes Go.WideShapes Go.ChangeAt Go.RowKit
set_option maxHeartbeats 16000000
set_option maxRecDepth 100000
set_option linter.unusedVariables false

end Go.Proofs.Ytkhfddodmjnecaa

set_option linter.all false
namespace Go.Proofs.Ytkhfddodmjnecaa
open Go.ChangeShapes Go.WideShapes Go.ChangeAt Go.RowKit
set_option maxHeartbeats 16000000
set_option maxRecDepth 100000
set_option linter.unusedVariables false

end Go.Proofs.Ytkhfddodmjnecaa

set_option linter.all false
namespace Go.Proofs.Ytkhfddodmjnecaa
open Go.ChangeShapes Go.WideShapes Go.ChangeAt Go.RowKit
set_option maxHeartbeats 16000000
set_option maxRecDepth 100000
set_option linter.unusedVariables false

end Go.Proofs.Ytkhfddodmjnecaa

set_option linter.all false
namespace Go.Proofs.Ytkhfddodmjnecaa
open Go.ChangeShapes Go.WideShapes Go.ChangeAt Go.RowKit
set_option maxHeartbeats 4000000
set_option maxRecDepth 100000
set_option linter.unusedVariables false

/-- while a block's instructions are gone through -/
structure EndM (w : World) (v : Value) (r t : Ro) (vi : Value) (fin a t3 els : Int) (wr : World) (vh vn : Value) : Prop where
 bx : wr.heap[w.heap.size]? = some (.cells #[.bool true, vh, vn] 83)
 b1 : wr.heap[w.heap.size + 1]? = some (.cells #[vi, .int .i64 fin, .int .i64 a, .int .i64 t3, .int .i64 els] 35)
 b2 : wr.heap[w.heap.size + 2]? = some (.cells #[.bool false, .slice none 0 0, .slice none 0 0] 83)
 rw : .agg #[.bool true, vh, vn] = v ∧ t = r ∨ OwRw wr (w.heap.size + 3) (.agg #[.bool true, vh, vn]) true t
 bl : Below w.heap.size w wr
theorem EndM.step {w wr w5 : World} {v : Value} {r t t' : Ro} {vi : Value} {fin a t3 els : Int} {vh vn vh5 vn5 : Value} (h : EndM w v r t vi fin a t3 els wr vh vn) (hb : Below wr.heap.size wr w5)
  (hP : BehP wr (.agg #[.bool true, vh, vn]) t t' w5 (.agg #[.bool true, vh5, vn5])) : EndM w v r t' vi fin a t3 els (((w5.setCell ⟨w.heap.size, 0, none⟩ (.bool true)).setCell ⟨w.heap.size, 1, none⟩ vh5).setCell ⟨w.heap.size, 2, none⟩ vn5) vh5 vn5 := by
 have l0 := (Array.getElem?_eq_some_iff.1 h.b2).1
 have e0 := (hb.block _ (by omega)).trans h.bx
 have e1 := (hb.block _ (by omega)).trans h.b1
 have e2 := (hb.block _ (by omega)).trans h.b2
 refine ⟨?_, ?_, ?_, ?_, ?_⟩
 ·rw [heap_setCell_same _ _ _ _ _ _ (heap_setCell_same _ _ _ _ _ _ (heap_setCell_same _ _ _ _ _ _ e0))]; rfl
 ·exact (Below.heap_setCell _ ⟨_, 2, none⟩ _ _ (by dsimp only; omega)).trans ((Below.heap_setCell _ ⟨_, 1, none⟩ _ _ (by dsimp only; omega)).trans ((Below.heap_setCell _ ⟨_, 0, none⟩ _ _ (by dsimp only; omega)).trans e1))
 ·exact (Below.heap_setCell _ ⟨_, 2, none⟩ _ _ (by dsimp only; omega)).trans ((Below.heap_setCell _ ⟨_, 1, none⟩ _ _ (by dsimp only; omega)).trans ((Below.heap_setCell _ ⟨_, 0, none⟩ _ _ (by dsimp only; omega)).trans e2))
 ·rcases hP with ⟨q1, q2⟩ | q
  ·rcases h.rw with ⟨q3, q4⟩ | q3
   ·exact .inl ⟨q1.trans q3, q2.trans q4⟩
   ·right
    rw [q1, q2]
    exact (q3.below hb).set3 (by omega)
  ·exact .inr ((q.base (by omega)).set3 (by omega))
 ·exact (((h.bl.trans (hb.mono h.bl.size)).setCell (p := ⟨w.heap.size, 0, none⟩) (Nat.le_refl _) _).setCell (p := ⟨w.heap.size, 1, none⟩) (Nat.le_refl _) _).setCell (p := ⟨w.heap.size, 2, none⟩) (Nat.le_refl _) _
end Go.Proofs.Ytkhfddodmjnecaa

set_option linter.all false
namespace Go.Proofs.Ytkhfddodmjnecaa
open Go.ChangeShapes Go.WideShapes Go.ChangeAt Go.RowKit
set_option maxHeartbeats 4000000
set_option maxRecDepth 100000
set_option linter.unusedVariables false

end Go.Proofs.Ytkhfddodmjnecaa
