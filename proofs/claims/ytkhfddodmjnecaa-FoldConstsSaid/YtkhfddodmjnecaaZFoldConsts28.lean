/-
 What a procedure's instructions ask of the things that registers may point into; the least answer, however it is reckoned; exact places; which accesses may meet.; alias: rows of one word.; Which registers are exact places, in the program's words and in the document's; which two accesses may meet.; What is live behind each instruction: the marking carried back from the block's end is the search.; Which instructions and stores nobody asks for, as plain data; places of which something holds, rising.; Contracts: which stores are hidden; places of which something holds; the document's idle instructions and stores.; alias: a view of a procedure in memory; let, thing, spot.
-/
import Derived.Test.YtkhfddodmjnecaaZFoldConsts27
import Derived.Test.YtkhfddodmjnecaaZFoldConsts05
import Derived.Laws.Bits64b
import Derived.Test.YtkhfddodmjnecaaZFoldConsts24
import Derived.Test.YtkhfddodmjnecaaZFoldConsts01
import Derived.Test.YtkhfddodmjnecaaZFoldConsts06
import Derived.Test.YtkhfddodmjnecaaZFoldConsts19
import Derived.Test.YtkhfddodmjnecaaZFoldConsts04
import Derived.Test.YtkhfddodmjnecaaZFoldConsts07

set_option linter.all false
namespace Go.Proofs.Ytkhfddodmjnecaa

/-- what an instruction asks, in the program's order; o: how many variables there are -/
def conI (o : Nat) (i : In) : List Con :=
 if i.op = 7 then [.put i.obj.toNat i.d.toNat]
 else if i.op = 8 then [.put (o + i.obj.toNat) i.d.toNat]
 else if i.op = 2 then [.sub (some i.a.toNat) (some i.d.toNat)]
 else if i.op = 3 then (if i.fn = 1 ∨ i.fn = 2 then [.sub (some i.a.toNat) (some i.d.toNat), .sub (some i.b.toNat) (some i.d.toNat)] else [])
 else if i.op = 5 then (if i.size = 4 then [.sub none (some i.d.toNat)] else [])
 else if i.op = 6 then (if i.size = 4 then [.sub (some i.b.toNat) none] else [])
 else if i.op = 9 then (i.args.map fun r => .sub (some r.toNat) none) ++ (if i.d = -1 then [] else [.sub none (some i.d.toNat)])
 else []
/-- the same in the document's order -/
def conR (o : Nat) (i : In) : List Con :=
 if i.op = 9 then (if i.d = -1 then [] else [.sub none (some i.d.toNat)]) ++ (i.args.map fun r => .sub (some r.toNat) none) else conI o i
def conE (b : Bk) : List Con := if b.fin = 3 ∧ b.a ≠ -1 then [.sub (some b.a.toNat) none] else []
def conB (o : Nat) (b : Bk) : List Con := b.ins.flatMap (conI o) ++ conE b
def conBR (o : Nat) (b : Bk) : List Con := b.ins.flatMap (conR o) ++ conE b
def conP (p : Pr) : List Con := p.blks.flatMap (conB p.objs.length)
def conPR (p : Pr) : List Con := p.blks.flatMap (conBR p.objs.length)
theorem mem_conR (o : Nat) (i : In) (c : Con) : c ∈ conR o i ↔ c ∈ conI o i := by
 by_cases e : i.op = 9
 ·have h : conI o i = (i.args.map fun r => .sub (some r.toNat) none) ++ (if i.d = -1 then [] else [.sub none (some i.d.toNat)]) := by
   unfold conI; rw [e]; rfl
  unfold conR
  rw [if_pos e, h, List.mem_append, List.mem_append]
  exact Or.comm
 ·unfold conR; rw [if_neg e]
theorem mem_conBR (o : Nat) (b : Bk) (c : Con) : c ∈ conBR o b ↔ c ∈ conB o b := by
 unfold conBR conB
 simp only [List.mem_append, List.mem_flatMap, mem_conR]
theorem mem_conPR (p : Pr) (c : Con) : c ∈ conPR p ↔ c ∈ conP p := by
 unfold conPR conP
 simp only [List.mem_flatMap, mem_conBR]

/-- at the start: what is out -/
def outA (o T : Nat) : Nat := (List.range T).foldl (fun x t => if o ≤ t then x ||| (1 <<< t) else x) 0
def outR (o T : Nat) : List Bool := (List.range T).map fun t => decide (o ≤ t)
/-- the first of both ways -/
def AS.start (p : Pr) (T : Nat) : AS := ⟨(List.range p.regs.toNat).map fun r : Nat => if (r : Int) < p.params then outA p.objs.length T else 0, outA p.objs.length T⟩
def AR.start (p : Pr) (T : Nat) : AR := ⟨(List.range p.regs.toNat).map fun r : Nat => if (r : Int) < p.params then outR p.objs.length T else List.replicate T false, outR p.objs.length T⟩
theorem AR.start_ok (p : Pr) (T : Nat) : (AR.start p T).Ok p.regs.toNat T := by
 refine ⟨by simp [AR.start], fun l hl => ?_, by simp [AR.start, outR]⟩
 obtain ⟨r, hr, rfl⟩ := List.mem_map.1 hl
 split <;> simp [outR]
theorem AS.start_len (p : Pr) (T : Nat) : (AS.start p T).regs.length = p.regs.toNat := by simp [AS.start]
/-- where both have come to their end they say the same -/
structure AS.End (p : Pr) (T : Nat) (x : AS) : Prop where
 len : x.regs.length = p.regs.toNat
 up : ∀ o t, (AS.start p T).sem o t → x.sem o t
 lo : ∀ S : Option Nat → Nat → Prop, (∀ c ∈ conP p, c.holds S) → (∀ o t, (AS.start p T).sem o t → S o t) → ∀ o t, x.sem o t → S o t
structure AR.End (p : Pr) (T : Nat) (x : AR) : Prop where
 ok : x.Ok p.regs.toNat T
 up : ∀ o t, (∀ r, o = some r → r < p.regs.toNat) → (AR.start p T).sem o t → x.sem o t
 lo : ∀ S : Option Nat → Nat → Prop, (∀ c ∈ conP p, c.holds S) → (∀ o t, (∀ r, o = some r → r < p.regs.toNat) → (AR.start p T).sem o t → S o t) → ∀ o t, (∀ r, o = some r → r < p.regs.toNat) → x.sem o t → S o t
end Go.Proofs.Ytkhfddodmjnecaa

set_option linter.all false
namespace Go.Proofs.Ytkhfddodmjnecaa
open Go.ChangeShapes Go.WideShapes Go.ChangeAt Go.RowKit
set_option maxHeartbeats 4000000
set_option maxRecDepth 100000
set_option linter.unusedVariables false

/-- a row of one word -/
def RowW (w : World) (b : Nat) (x : Nat) : Prop := w.heap[b]? = some (.cells #[.int .u64 (x : Int)] 156)
def slW (b : Nat) : Value := .slice (some ⟨b, 0, none⟩) 1 1
theorem RowW.lt {w : World} {b x : Nat} (h : RowW w b x) : b < w.heap.size := (Array.getElem?_eq_some_iff.1 h).1
theorem RowW.set {w : World} {b x : Nat} (h : RowW w b x) (y : Nat) : RowW (w.setCell ⟨b, 0, none⟩ (.int .u64 (y : Int))) b y := heap_setCell_same w b 0 _ _ _ h
end Go.Proofs.Ytkhfddodmjnecaa

set_option linter.all false
namespace Go.Proofs.Ytkhfddodmjnecaa

/-- a place as the program keeps it -/
structure Sp where
 thing : Int
 off : Int
 sets : Int
 is : Bool
end Go.Proofs.Ytkhfddodmjnecaa

set_option linter.all false
namespace Go.Proofs.Ytkhfddodmjnecaa

end Go.Proofs.Ytkhfddodmjnecaa

set_option linter.all false
namespace Go.Proofs.Ytkhfddodmjnecaa

end Go.Proofs.Ytkhfddodmjnecaa

set_option linter.all false
namespace Go.Proofs.Ytkhfddodmjnecaa
open Go.ChangeShapes Go.WideShapes Go.ChangeAt Go.RowKit
set_option maxHeartbeats 4000000
set_option maxRecDepth 100000
set_option linter.unusedVariables false

/-! what can be read stays, told by block and place -/
abbrev KeepT (w w' : World) : Prop := KeepX (fun _ => True) w w'
theorem Rows'.keep {w w' : World} {v : Value} {k n : Nat} {R R' : Nat → (Nat → Option Value) → Prop} (h : Rows' w v k n R) (he : KeepT w w') (hR : ∀ i c c', Sub c c' → R i c → R' i c') : Rows' w' v k n R' := by
 obtain ⟨a, c, h1, h2, h3, h4⟩ := h
 refine ⟨a, c, h1, h2, h3, fun i hi => ?_⟩
 obtain ⟨b, o, e, r⟩ := h4 i hi
 exact ⟨b, o, e, hR i _ _ (fun j v hv => he _ _ _ trivial hv) r⟩
theorem RdI.keep {w w' : World} {v : Value} {l : List Int} (h : RdI w v l) (he : KeepT w w') : RdI w' v l := Rows'.keep h he fun _ _ _ hs h => hs _ _ h
theorem InC.keep {w w' : World} {c c' : Nat → Option Value} {i : In} (h : InC w c i) (he : KeepT w w') (hs : Sub c c') : InC w' c' i := by
 obtain ⟨h0, h1, h2, h3, h4, h5, h6, h7, h8, ⟨v, h9, hv⟩, h10⟩ := h
 exact ⟨hs _ _ h0, hs _ _ h1, hs _ _ h2, hs _ _ h3, hs _ _ h4, hs _ _ h5, hs _ _ h6, hs _ _ h7, hs _ _ h8, ⟨v, hs _ _ h9, hv.keep he⟩, hs _ _ h10⟩
theorem RdIns.keep {w w' : World} {v : Value} {l : List In} (h : RdIns w v l) (he : KeepT w w') : RdIns w' v l := Rows'.keep h he fun _ _ _ hs h => h.keep he hs
theorem BkC.keep {w w' : World} {c c' : Nat → Option Value} {b : Bk} (h : BkC w c b) (he : KeepT w w') (hs : Sub c c') : BkC w' c' b := by
 obtain ⟨⟨v, h0, hv⟩, h1, h2, h3, h4⟩ := h
 exact ⟨⟨v, hs _ _ h0, hv.keep he⟩, hs _ _ h1, hs _ _ h2, hs _ _ h3, hs _ _ h4⟩
theorem RdBks.keep {w w' : World} {v : Value} {l : List Bk} (h : RdBks w v l) (he : KeepT w w') : RdBks w' v l := Rows'.keep h he fun _ _ _ hs h => h.keep he hs
theorem RdSls.keep {w w' : World} {v : Value} {l : List Sl} (h : RdSls w v l) (he : KeepT w w') : RdSls w' v l := Rows'.keep h he fun _ _ _ hs h => h.ext hs
theorem PrV.keep {w w' : World} {v : Value} {p : Pr} (h : PrV w v p) (he : KeepT w w') : PrV w' v p := let ⟨nm, vo, vb, e, h, k⟩ := h; ⟨nm, vo, vb, e, h.keep he, k.keep he⟩

theorem drewN_b {B : Nat} {w w1 : World} (h : Below B w w1) (n : Nat) : Below B w (w1.drewN n) := ⟨h.os, h.tape, h.output, h.size, h.block⟩
/-- an instruction by value, its row of arguments whatever it is -/
def aggI (i : In) (va : Value) : Value := .agg #[.int .i64 i.op, .int .i64 i.d, .int .i64 i.a, .int .i64 i.b, .int .i64 i.fn, .int .i64 i.obj, .int .i64 i.off, .int .i64 i.size, .int .u32 i.num, va, .bool i.log]
end Go.Proofs.Ytkhfddodmjnecaa

set_option linter.all false
namespace Go.Proofs.Ytkhfddodmjnecaa
open Go.ChangeShapes Go.WideShapes Go.ChangeAt Go.RowKit
set_option maxHeartbeats 4000000
set_option maxRecDepth 100000
set_option linter.unusedVariables false

/-- what stays of a view -/
structure VwK where
 p : Pr
 nm : ByteArray
 vo : Value
 vb : Value
 T : Nat
 N : Nat
 bv : Nat
 bO : Nat
 bs : List Nat
 vR : Value
 vS : Value
instance : Inhabited Sp := ⟨⟨0, 0, 0, false⟩⟩
def spCells (s : Sp) : List Value := [.int .i64 s.thing, .int .i64 s.off, .int .i64 s.sets, .bool s.is]
def VwK.cells (k : VwK) : List Value := [.string k.nm, .bool k.p.void, .int .i64 k.p.params, .int .i64 k.p.regs, k.vo, k.vb, .int .i64 (k.T : Int), k.vR, slW k.bO, k.vS]
/-- the blocks that the rows of things lie in -/
def VwK.mine (k : VwK) (b : Nat) : Prop := b = k.bO ∨ b ∈ k.bs ∨ some b = k.vS.ownBlock
structure VwM (w0 w : World) (k : VwK) (x : AS) (sp : List Sp) : Prop where
 pv : PrV w0 (.agg #[.string k.nm, .bool k.p.void, .int .i64 k.p.params, .int .i64 k.p.regs, k.vo, k.vb]) k.p
 hv : w.heap[k.bv]? = some (.cells k.cells.toArray 95 (0, 0))
 own : w.ownsRow w0.heap.size 93 1 k.vR k.bs.length (k.bs.map slW)
 row : ∀ r, r < k.bs.length → RowW w (k.bs.getD r 0) (x.regs.getD r 0) ∧ x.regs.getD r 0 < 2 ^ 64
 out : RowW w k.bO x.out ∧ x.out < 2 ^ 64
 spo : w.ownsRow w0.heap.size 100 4 k.vS k.N (sp.flatMap spCells)
 xl : x.regs.length = k.bs.length
 sl : sp.length = k.N
 pl : k.bs.length ≤ k.N
 inj : ∀ i j, i < k.bs.length → j < k.bs.length → k.bs.getD i 0 = k.bs.getD j 0 → i = j
 neO : ∀ i, i < k.bs.length → k.bs.getD i 0 ≠ k.bO
 ge : w0.heap.size ≤ k.bv ∧ w0.heap.size ≤ k.bO ∧ ∀ i, i < k.bs.length → w0.heap.size ≤ k.bs.getD i 0
 below : Below w0.heap.size w0 w
/-- all but a view's rows stays -/
structure KpW (k : VwK) (w w' : World) : Prop where
 os : w'.os = w.os
 tape : w'.tape = w.tape
 output : w'.output = w.output
 size : w.heap.size ≤ w'.heap.size
 keep : ∀ b, b < w.heap.size → ¬ k.mine b → w'.heap[b]? = w.heap[b]?
section
variable {w0 w w' w1 : World} {k : VwK} {x : AS} {sp : List Sp}
theorem KpW.refl (k : VwK) (w : World) : KpW k w w := ⟨rfl, rfl, rfl, Nat.le_refl _, fun _ _ _ => rfl⟩
theorem KpW.trans (h : KpW k w w1) (h' : KpW k w1 w') : KpW k w w' := ⟨h'.os.trans h.os, h'.tape.trans h.tape, h'.output.trans h.output, Nat.le_trans h.size h'.size, fun b hb hn => (h'.keep b (Nat.lt_of_lt_of_le hb h.size) hn).trans (h.keep b hb hn)⟩
theorem KpW.of_below (h : Below w.heap.size w w') : KpW k w w' := ⟨h.os, h.tape, h.output, h.size, fun b hb _ => h.block b hb⟩
theorem but_grownK {g : Nat} {w w' : World} (h : But g w w') : w.grownBy w' (some g) := ⟨h.os, h.tape, h.output, h.size, fun k hk hne => h.block k hk (fun e => hne (by rw [e]))⟩
theorem ne_row {w : World} {B s n b : Nat} {e t : TypeId} {v : Value} {xs : List Value} {c : Array Value} (h : w.ownsRow B e s v n xs) (hb : w.heap[b]? = some (.cells c t (0, 0))) (he : e ≠ t) : v.ownBlock ≠ some b := by
 intro hv
 obtain ⟨-, ⟨rfl, -⟩ | ⟨g, cap, cur, rfl, -, hg, -⟩⟩ := h
 ·cases hv
 ·have e2 : g = b := by simpa [Value.ownBlock] using hv
  subst e2
  rw [hb] at hg
  simp only [Option.some.injEq, Obj.cells.injEq] at hg
  exact he hg.2.1.symm
theorem VwM.lv (h : VwM w0 w k x sp) : k.bv < w.heap.size := (Array.getElem?_eq_some_iff.1 h.hv).1
theorem VwM.ext (h : VwM w0 w k x sp) : Ext w0 w := Ext.below h.below
/-- a world in which no block of the view is written -/
theorem VwM.grown (h : VwM w0 w k x sp) (hk : ∀ b, b < w.heap.size → (b = k.bv ∨ some b = k.vR.ownBlock ∨ k.mine b) → w'.heap[b]? = w.heap[b]?) (hg : ∃ row, w.grownBy w' row ∧ (k.vR.ownBlock = none ∨ k.vR.ownBlock ≠ row) ∧ (k.vS.ownBlock = none ∨ k.vS.ownBlock ≠ row) ∧ ∀ b, row = some b → w0.heap.size ≤ b) : VwM w0 w' k x sp := by
 obtain ⟨row, hg, hR, hS, hB⟩ := hg
 refine ⟨h.pv, (hk _ h.lv (.inl rfl)).trans h.hv, h.own.kept hg hR, fun r hr => ⟨(hk _ (h.row r hr).1.lt (.inr (.inr (.inr (.inl (by simp [List.getD, hr])))))).trans (h.row r hr).1, (h.row r hr).2⟩, ⟨(hk _ h.out.1.lt (.inr (.inr (.inl rfl)))).trans h.out.1, h.out.2⟩, h.spo.kept hg hS, h.xl, h.sl, h.pl, h.inj, h.neO, h.ge, h.below.grown hg h.below.size hB⟩
theorem VwM.grow (h : VwM w0 w k x sp) (hb : Below w.heap.size w w') : VwM w0 w' k x sp :=
 ⟨h.pv, (hb.block _ h.lv).trans h.hv, own_below h.own hb, fun r hr => ⟨(hb.block _ (h.row r hr).1.lt).trans (h.row r hr).1, (h.row r hr).2⟩, ⟨(hb.block _ h.out.1.lt).trans h.out.1, h.out.2⟩, own_below h.spo hb, h.xl, h.sl, h.pl, h.inj, h.neO, h.ge, h.below.trans (hb.mono h.below.size)⟩
/-- registers' rows as they are read -/
theorem VwM.at (h : VwM w0 w k x sp) {r : Nat} (hr : r < k.bs.length) : ∃ g c, k.vR = .slice (some ⟨g, 0, none⟩) k.bs.length c ∧ k.bs.length ≤ c ∧ c ≤ maxLen ∧ g < w.heap.size ∧ w.cell? ⟨g, r, none⟩ = some (slW (k.bs.getD r 0)) := by
 have h' := h.own
 obtain ⟨h1, ⟨h2, h3⟩ | ⟨g, cap, cur, h2, hb, hg, hn, hc, hcs, ht⟩⟩ := h.own
 ·omega
 ·refine ⟨g, cap, h2, hn, hc, (Array.getElem?_eq_some_iff.1 hg).1, ?_⟩
  rw [h2] at h'
  rw [World.ownsRow.cellAt h' r (by omega)]
  simp [List.getD, hr]
theorem flat_set {α : Type} (f : α → List Value) (n : Nat) (hn : ∀ a, (f a).length = n) : ∀ (l : List α) (r j : Nat) (a : α) (v : Value), r < l.length → j < n → f a = (f (l[r]?.getD a)).set j v → (l.flatMap f).set (r * n + j) v = (l.set r a).flatMap f
 | b :: l, 0, j, a, v, _, hj, h => by
  simp only [Nat.zero_mul, Nat.zero_add, List.flatMap_cons, List.set_cons_zero]
  rw [List.set_append_left _ _ (by rw [hn]; exact hj), h]; rfl
 | b :: l, r + 1, j, a, v, hr, hj, h => by
  simp only [List.flatMap_cons, List.set_cons_succ]
  rw [List.set_append_right _ _ (by rw [hn, Nat.succ_mul]; omega), hn, show (r + 1) * n + j - n = r * n + j by rw [Nat.succ_mul]; omega]
  rw [flat_set f n hn l r j a v (by simpa using hr) hj (by simpa using h)]
end
end Go.Proofs.Ytkhfddodmjnecaa
