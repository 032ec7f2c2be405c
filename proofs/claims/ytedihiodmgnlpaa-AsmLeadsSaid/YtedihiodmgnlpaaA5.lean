/-
  The sheet (items, which are far, where they stand, where the labels stand) in memory; the contract of its size.
-/
import Derived.Test.YtedihiodmgnlpaaA4
import Derived.Maps.AppendAt
import Derived.Laws.OwnMore
set_option linter.all false
namespace Go.Proofs.Ytedihiodmgnlpaa
open Go.ChangeShapes Go.WideShapes Go.ChangeAt Go.RowKit
set_option maxHeartbeats 1000000
set_option linter.unusedVariables false
set_option maxRecDepth 20000

/-- an item's cells -/
structure ItC (c : Nat → Option Value) (x : It) : Prop where
  kind : c 0 = some (.int .i64 x.kind)
  op : c 1 = some (.int .i64 x.i.op)
  rd : c 2 = some (.int .i64 x.i.rd)
  rs1 : c 3 = some (.int .i64 x.i.rs1)
  rs2 : c 4 = some (.int .i64 x.i.rs2)
  imm : c 5 = some (.int .i64 x.i.imm)
  label : c 6 = some (.int .i64 x.label)
theorem ItC.sub {c c' : Nat → Option Value} {x : It} (h : ItC c x) (hs : Sub c c') : ItC c' x := ⟨hs _ _ h.kind, hs _ _ h.op, hs _ _ h.rd, hs _ _ h.rs1, hs _ _ h.rs2, hs _ _ h.imm, hs _ _ h.label⟩
/-- a slice of items -/
def RdT (w : World) (v : Value) (l : List It) : Prop := Rows' w v 7 l.length fun k c => ItC c (l.getD k default)
theorem RdT.ext {w w' : World} {v : Value} {l : List It} (h : RdT w v l) (he : Ext w w') : RdT w' v l := Rows'.ext h he fun _ _ _ hs h => h.sub hs
/-- two rows of different types lie in different blocks -/
theorem rowsNe {w : World} {B B' s s' n n' : Nat} {e e' : TypeId} {v v' : Value} {xs xs' : List Value} (h : w.ownsRow B e s v n xs) (h' : w.ownsRow B' e' s' v' n' xs') (he : e ≠ e') : v.ownBlock = none ∨ v.ownBlock ≠ v'.ownBlock := by
  obtain ⟨-, ⟨rfl, -⟩ | ⟨g, cap, cur, rfl, -, hg, -⟩⟩ := h
  · exact .inl rfl
  · obtain ⟨-, ⟨rfl, -⟩ | ⟨g', cap', cur', rfl, -, hg', -⟩⟩ := h'
    · exact .inr (by simp [Value.ownBlock])
    · refine .inr fun e2 => he ?_
      simp only [Value.ownBlock, Option.some.injEq] at e2
      subst e2
      rw [hg] at hg'
      simp at hg'
      exact hg'.2
theorem grownBelow {B : Nat} {w0 w w' : World} {row : Option Nat} (h : Below B w0 w) (hg : w.grownBy w' row) (hB : B ≤ w.heap.size) (hr : ∀ b, row = some b → B ≤ b) : Below B w0 w' :=
  ⟨hg.os.trans h.os, hg.tape.trans h.tape, hg.output.trans h.output, Nat.le_trans h.size hg.size, fun k hk => (hg.block k (by omega) (fun e => by have := hr k e.symm; omega)).trans (h.block k hk)⟩
def rowAt (b n : Nat) : Value := .slice (some ⟨b, 0, none⟩) n n
/-- the sheet in memory, made since the world wp -/
structure Sh (wp w : World) (bs bf ba bl : Nat) (vi : Value) (L : List It) (far : List Bool) (at' lab : List Int) : Prop where
  sh : w.ownsRow 0 86 4 (rowAt bs 1) 1 [vi, rowAt bf L.length, rowAt ba (L.length + 1), rowAt bl lab.length]
  items : RdT wp vi L
  fr : w.ownsRow 0 4 1 (rowAt bf L.length) L.length (far.map Value.bool)
  ar : w.ownsRow 0 3 1 (rowAt ba (L.length + 1)) (L.length + 1) (at'.map (Value.int .i64))
  lr : w.ownsRow 0 3 1 (rowAt bl lab.length) lab.length (lab.map (Value.int .i64))
  ne : ba ≠ bl
  below : Below wp.heap.size wp w
  ps : wp.heap.size ≤ bs
  pf : wp.heap.size ≤ bf
  pa : wp.heap.size ≤ ba
  pl : wp.heap.size ≤ bl
  most : L.length ≤ 32768
  lmost : lab.length ≤ 4096
section
variable {wp w w' : World} {bs bf ba bl : Nat} {vi : Value} {L : List It} {far : List Bool} {at' lab : List Int}
theorem Sh.flen (h : Sh wp w bs bf ba bl vi L far at' lab) : far.length = L.length := by simpa using h.fr.1
theorem Sh.alen (h : Sh wp w bs bf ba bl vi L far at' lab) : at'.length = L.length + 1 := by simpa using h.ar.1
theorem rowNN (b n : Nat) (r : Option Nat) (h : r ≠ some b) : (rowAt b n).ownBlock = none ∨ (rowAt b n).ownBlock ≠ r := .inr (fun e => h e.symm)
theorem Sh.grow (h : Sh wp w bs bf ba bl vi L far at' lab) (hb : Below w.heap.size w w') : Sh wp w' bs bf ba bl vi L far at' lab := by
  have hg : w.grownBy w' none := ⟨hb.os, hb.tape, hb.output, hb.size, fun k hk _ => hb.block k hk⟩
  have nn : ∀ b n : Nat, (rowAt b n).ownBlock = none ∨ (rowAt b n).ownBlock ≠ none := fun b n => .inr (by simp [rowAt, Value.ownBlock])
  exact ⟨h.sh.kept hg (nn _ _), h.items, h.fr.kept hg (nn _ _), h.ar.kept hg (nn _ _), h.lr.kept hg (nn _ _), h.ne, h.below.trans (hb.mono h.below.size), h.ps, h.pf, h.pa, h.pl, h.most, h.lmost⟩
theorem ob (b n : Nat) : (rowAt b n).ownBlock = some b := rfl
theorem Sh.nsf (h : Sh wp w bs bf ba bl vi L far at' lab) : bs ≠ bf := fun e => by rcases rowsNe h.sh h.fr (by decide) with k | k <;> simp [ob, e] at k
theorem Sh.nsa (h : Sh wp w bs bf ba bl vi L far at' lab) : bs ≠ ba := fun e => by rcases rowsNe h.sh h.ar (by decide) with k | k <;> simp [ob, e] at k
theorem Sh.nsl (h : Sh wp w bs bf ba bl vi L far at' lab) : bs ≠ bl := fun e => by rcases rowsNe h.sh h.lr (by decide) with k | k <;> simp [ob, e] at k
theorem Sh.nfa (h : Sh wp w bs bf ba bl vi L far at' lab) : bf ≠ ba := fun e => by rcases rowsNe h.fr h.ar (by decide) with k | k <;> simp [ob, e] at k
theorem Sh.nfl (h : Sh wp w bs bf ba bl vi L far at' lab) : bf ≠ bl := fun e => by rcases rowsNe h.fr h.lr (by decide) with k | k <;> simp [ob, e] at k
theorem some_ne {a b : Nat} (h : a ≠ b) : some a ≠ some b := fun e => h (Option.some.inj e)
theorem Sh.setF (h : Sh wp w bs bf ba bl vi L far at' lab) (k : Nat) (x : Bool) : Sh wp (w.setCell ⟨bf, k, none⟩ (.bool x)) bs bf ba bl vi L (far.set k x) at' lab := by
  obtain ⟨h1, hg⟩ := h.fr.stored k (.bool x)
  exact ⟨h.sh.kept hg (.inr (some_ne h.nsf)), h.items, by rw [List.map_set]; exact h1, h.ar.kept hg (.inr (some_ne h.nfa.symm)), h.lr.kept hg (.inr (some_ne h.nfl.symm)), h.ne,
    h.below.setCell (p := ⟨bf, k, none⟩) h.pf _, h.ps, h.pf, h.pa, h.pl, h.most, h.lmost⟩
theorem Sh.setA (h : Sh wp w bs bf ba bl vi L far at' lab) (k : Nat) (x : Int) : Sh wp (w.setCell ⟨ba, k, none⟩ (.int .i64 x)) bs bf ba bl vi L far (at'.set k x) lab := by
  obtain ⟨h1, hg⟩ := h.ar.stored k (.int .i64 x)
  exact ⟨h.sh.kept hg (.inr (some_ne h.nsa)), h.items, h.fr.kept hg (.inr (some_ne h.nfa)), by rw [List.map_set]; exact h1, h.lr.kept hg (.inr (some_ne h.ne.symm)), h.ne,
    h.below.setCell (p := ⟨ba, k, none⟩) h.pa _, h.ps, h.pf, h.pa, h.pl, h.most, h.lmost⟩
theorem Sh.setL (h : Sh wp w bs bf ba bl vi L far at' lab) (k : Nat) (x : Int) : Sh wp (w.setCell ⟨bl, k, none⟩ (.int .i64 x)) bs bf ba bl vi L far at' (lab.set k x) := by
  obtain ⟨h1, hg⟩ := h.lr.stored k (.int .i64 x)
  refine ⟨?_, h.items, h.fr.kept hg (.inr (some_ne h.nfl)), h.ar.kept hg (.inr (some_ne h.ne)), ?_, h.ne,
    h.below.setCell (p := ⟨bl, k, none⟩) h.pl _, h.ps, h.pf, h.pa, h.pl, h.most, by rw [List.length_set]; exact h.lmost⟩
  · rw [List.length_set]; exact h.sh.kept hg (.inr (some_ne h.nsl))
  · rw [List.map_set, List.length_set]; exact h1
theorem Sh.c0 (h : Sh wp w bs bf ba bl vi L far at' lab) : w.cell? ⟨bs, 0, none⟩ = some vi := h.sh.cellAt 0 (by decide)
theorem Sh.c1 (h : Sh wp w bs bf ba bl vi L far at' lab) : w.cell? ⟨bs, 1, none⟩ = some (.slice (some ⟨bf, 0, none⟩) L.length L.length) := h.sh.cellAt 1 (by decide)
theorem Sh.c2 (h : Sh wp w bs bf ba bl vi L far at' lab) : w.cell? ⟨bs, 2, none⟩ = some (.slice (some ⟨ba, 0, none⟩) (L.length + 1) (L.length + 1)) := h.sh.cellAt 2 (by decide)
theorem Sh.c3 (h : Sh wp w bs bf ba bl vi L far at' lab) : w.cell? ⟨bs, 3, none⟩ = some (.slice (some ⟨bl, 0, none⟩) lab.length lab.length) := h.sh.cellAt 3 (by decide)
theorem Sh.cf (h : Sh wp w bs bf ba bl vi L far at' lab) {k : Nat} (hk : k < L.length) : w.cell? ⟨bf, k, none⟩ = some (.bool (far.getD k false)) := by
  have := h.fr.cellAt k (by omega)
  rw [this]
  have e := h.flen
  simp [List.getD, show k < far.length by omega]
theorem Sh.ca (h : Sh wp w bs bf ba bl vi L far at' lab) {k : Nat} (hk : k < L.length + 1) : w.cell? ⟨ba, k, none⟩ = some (.int .i64 (at'.getD k 0)) := by
  have := h.ar.cellAt k (by omega)
  rw [this]
  have e := h.alen
  simp [List.getD, show k < at'.length by omega]
theorem Sh.cl (h : Sh wp w bs bf ba bl vi L far at' lab) {k : Nat} (hk : k < lab.length) : w.cell? ⟨bl, k, none⟩ = some (.int .i64 (lab.getD k 0)) := by
  have := h.lr.cellAt k (by omega)
  rw [this]
  simp [List.getD, hk]
theorem Sh.it (h : Sh wp w bs bf ba bl vi L far at' lab) : ∃ ai ci, vi = .slice ai L.length ci ∧ ∀ k, k < L.length → ∃ b o, ai = some ⟨b, o, none⟩ ∧ b < wp.heap.size ∧ ItC (fun j => w.cell? ⟨b, o + k * 7 + j, none⟩) (L.getD k default) := by
  obtain ⟨ai, ci, e, h1, h2, h3⟩ := h.items
  refine ⟨ai, ci, e, fun k hk => ?_⟩
  obtain ⟨b, o, e, c⟩ := h3 k hk
  have hb : b < wp.heap.size := World.block_lt_of_cell? wp _ c.kind
  refine ⟨b, o, e, hb, c.sub fun j v hv => ?_⟩
  exact (h.below.cell (p := ⟨b, o + k * 7 + j, none⟩) hb).trans hv
end
end Go.Proofs.Ytedihiodmgnlpaa
