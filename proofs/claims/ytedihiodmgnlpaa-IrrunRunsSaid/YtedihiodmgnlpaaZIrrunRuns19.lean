/-
 The document's run in memory: the struct, its memory, what it puts out, the calls that stand.
-/
import Derived.Test.YtedihiodmgnlpaaZIrrunRuns15
import Derived.Test.YtedihiodmgnlpaaZIrrunRuns18
import Derived.WalkSmall
set_option linter.all false
namespace Go.Proofs.Ytedihiodmgnlpaa
open Go.ChangeShapes Go.WideShapes Go.ChangeAt Go.RowKit
set_option maxHeartbeats 1000000
set_option linter.unusedVariables false
set_option maxRecDepth 20000

/-- what stays in a run -/
structure PK where
 wp : World
 br : Nat
 bm : Nat
 vg : Value
 vd : Value
 vp : Value
 vi : Value
 m : Md
 en : Int
 inp : List Int
/-- a call that stands, with the block of its registers -/
structure Kf where
 n : Nat
 bg : Nat
 regs : List Int
 low : Int
 b : Nat
 i : Nat
instance : Inhabited Kf := ⟨⟨0, 0, [], 0, 0, 0⟩⟩
def Kf.cells (f : Kf) : List Value := [.int .i64 f.n, rowOf f.bg f.regs.length, .int .i64 f.low, .int .i64 f.b, .int .i64 f.i]
def Kf.fr (f : Kf) : Fr := ⟨f.n, f.regs, f.low, f.b, f.i⟩
def stkF (fs : List Kf) : List Fr := (fs.map Kf.fr).reverse
theorem stkF_snoc (fs : List Kf) (f : Kf) : stkF (fs ++ [f]) = f.fr :: stkF fs := by simp [stkF]
theorem stkF_len (fs : List Kf) : (stkF fs).length = fs.length := by simp [stkF]
def PK.cells (k : PK) (vt vo : Value) (s : Oc) (dn : Bool) : List Value := [k.vg, k.vd, k.vp, .int .i64 k.m.main, rowOf k.bm 65536, vt, .int .i64 k.en, k.vi, vo, .int .i64 s.ins, .int .u32 s.exit, .int .i64 s.e, .bool dn]
structure FrR (k : PK) (w : World) (vo : Value) (f : Kf) : Prop where
 own : w.ownsRow k.wp.heap.size 35 1 (rowOf f.bg f.regs.length) f.regs.length (f.regs.map (Value.int .u32))
 ne : some f.bg ≠ vo.ownBlock
 wd : ∀ x ∈ f.regs, 0 ≤ x ∧ x < 4294967296
structure Pm (k : PK) (w : World) (vt vo : Value) (s : Oc) (dn : Bool) (fs : List Kf) : Prop where
 bx : w.ownsRow k.wp.heap.size 131 13 (rowOf k.br 1) 1 (k.cells vt vo s dn)
 mm : w.ownsRow k.wp.heap.size 5 1 (rowOf k.bm 65536) 65536 (s.mem.map (Value.int .u8))
 oo : w.ownsRow k.wp.heap.size 35 1 vo s.out.length (s.out.map (Value.int .u32))
 tt : w.ownsRow k.wp.heap.size 160 5 vt fs.length (fs.flatMap Kf.cells)
 rr : ∀ f ∈ fs, FrR k w vo f
 nd : (fs.map Kf.bg).Nodup
 md : MdV k.wp (.agg #[k.vg, k.vd, k.vp, .int .i64 k.m.main]) k.m
 ii : RdW k.wp k.vi k.inp
 below : Below k.wp.heap.size k.wp w
theorem rowOf_own (b n : Nat) : (rowOf b n).ownBlock = some b := rfl
theorem grow1 {B : Nat} {w0 w w' : World} {g : Nat} (h : Below B w0 w) (hg : w.grownBy w' (some g)) (hB : B ≤ w.heap.size) (hr : B ≤ g) : Below B w0 w' := below_grown h hg hB (fun b e => by cases e; exact hr)
section
variable {k : PK} {w w' : World} {vt vo : Value} {s s' : Oc} {dn dn' : Bool} {fs : List Kf} {f : Kf}
theorem FrR.grow (h : FrR k w vo f) (hb : Below w.heap.size w w') : FrR k w' vo f := ⟨own_below h.own hb, h.ne, h.wd⟩
theorem FrR.kept {row : Option Nat} (h : FrR k w vo f) (hg : w.grownBy w' row) (hne : some f.bg ≠ row) : FrR k w' vo f := ⟨h.own.kept hg (.inr (by rw [rowOf_own]; exact hne)), h.ne, h.wd⟩
theorem FrR.lt (h : FrR k w vo f) : k.wp.heap.size ≤ f.bg ∧ f.bg < w.heap.size := own_lt h.own rfl
theorem Pm.grow (h : Pm k w vt vo s dn fs) (hb : Below w.heap.size w w') : Pm k w' vt vo s dn fs :=
 ⟨own_below h.bx hb, own_below h.mm hb, own_below h.oo hb, own_below h.tt hb, fun f hf => (h.rr f hf).grow hb, h.nd, h.md, h.ii, h.below.trans (hb.mono h.below.size)⟩
theorem Pm.brLt (h : Pm k w vt vo s dn fs) : k.wp.heap.size ≤ k.br ∧ k.br < w.heap.size := own_lt h.bx rfl
theorem Pm.bmLt (h : Pm k w vt vo s dn fs) : k.wp.heap.size ≤ k.bm ∧ k.bm < w.heap.size := own_lt h.mm rfl
theorem ne_blocks {w : World} {B B' a b s s' n n' : Nat} {e e' : TypeId} {v v' : Value} {xs xs' : List Value} (h : w.ownsRow B e s v n xs) (h' : w.ownsRow B' e' s' v' n' xs') (he : e ≠ e') (ha : v.ownBlock = some a) (hb : v'.ownBlock = some b) : a ≠ b := by
 rcases rows_ne h h' he with q | q
 ·rw [ha] at q; cases q
 ·rw [ha, hb] at q; exact fun e => q (by rw [e])
theorem Pm.rm (h : Pm k w vt vo s dn fs) : k.br ≠ k.bm := ne_blocks h.bx h.mm (by decide) rfl rfl
theorem FrR.neX (hr : FrR k w vo f) (h : Pm k w vt vo s dn fs) : f.bg ≠ k.br ∧ f.bg ≠ k.bm := ⟨ne_blocks hr.own h.bx (by decide) rfl rfl, ne_blocks hr.own h.mm (by decide) rfl rfl⟩
/-- a field of the struct is set -/
theorem Pm.setF (h : Pm k w vt vo s dn fs) (j : Nat) (x : Value) (s' : Oc) (dn' : Bool) (hs : (k.cells vt vo s dn).set j x = k.cells vt vo s' dn') (h1 : s'.mem = s.mem) (h2 : s'.out = s.out) : Pm k (w.setCell ⟨k.br, j, none⟩ x) vt vo s' dn' fs := by
 obtain ⟨a, b⟩ := h.bx.stored j x
 rw [hs] at a
 refine ⟨a, ?_, ?_, h.tt.kept b (rows_ne h.tt h.bx (by decide)), fun f hf => (h.rr f hf).kept b (fun e => (FrR.neX (h.rr f hf) h).1 (Option.some.inj e)), h.nd, h.md, h.ii, h.below.setCell (p := ⟨k.br, j, none⟩) h.brLt.1 _⟩
 ·rw [h1]; exact h.mm.kept b (rows_ne h.mm h.bx (by decide))
 ·rw [h2]; exact h.oo.kept b (rows_ne h.oo h.bx (by decide))
/-- a byte of the memory is set -/
theorem Pm.setM (h : Pm k w vt vo s dn fs) (j : Nat) (x : Int) : Pm k (w.setCell ⟨k.bm, j, none⟩ (.int .u8 x)) vt vo { s with mem := s.mem.set j x } dn fs := by
 obtain ⟨a, b⟩ := h.mm.stored j (.int .u8 x)
 refine ⟨h.bx.kept b (rows_ne h.bx h.mm (by decide)), ?_, h.oo.kept b (rows_ne h.oo h.mm (by decide)), h.tt.kept b (rows_ne h.tt h.mm (by decide)), fun f hf => (h.rr f hf).kept b (fun e => (FrR.neX (h.rr f hf) h).2 (Option.some.inj e)), h.nd, h.md, h.ii, h.below.setCell (p := ⟨k.bm, j, none⟩) h.bmLt.1 _⟩
 rw [List.map_set]; exact a
theorem Kf.cells_len (f : Kf) : f.cells.length = 5 := rfl
theorem flatF_len (fs : List Kf) : (fs.flatMap Kf.cells).length = fs.length * 5 := flat_len Kf.cells 5 Kf.cells_len fs
/-- a register of the topmost call is set -/
theorem Pm.setR (h : Pm k w vt vo s dn (fs ++ [f])) (n : Nat) (x : Int) (h0 : 0 ≤ x) (h1 : x < 4294967296) : Pm k (w.setCell ⟨f.bg, n, none⟩ (.int .u32 x)) vt vo s dn (fs ++ [{ f with regs := f.regs.set n x }]) := by
 have hf := h.rr f (List.mem_append_right _ List.mem_cons_self)
 obtain ⟨a, b⟩ := hf.own.stored n (.int .u32 x)
 have nx := FrR.neX hf h
 have hnd := h.nd
 rw [List.map_append, List.nodup_append] at hnd
 refine ⟨h.bx.kept b (.inr (by rw [rowOf_own]; intro e; exact nx.1 (Option.some.inj e).symm)), h.mm.kept b (.inr (by rw [rowOf_own]; intro e; exact nx.2 (Option.some.inj e).symm)), h.oo.kept b (.inr (Ne.symm hf.ne)), ?_, fun g hg => ?_, by simpa using h.nd, h.md, h.ii, h.below.setCell (p := ⟨f.bg, n, none⟩) hf.lt.1 _⟩
 ·have := h.tt.kept b (rows_ne h.tt hf.own (by decide))
  have e : (fs ++ [{ f with regs := f.regs.set n x }]).flatMap Kf.cells = (fs ++ [f]).flatMap Kf.cells := by simp [Kf.cells]
  rw [e]; simpa using this
 ·rcases List.mem_append.1 hg with hg | hg
  ·exact (h.rr g (List.mem_append_left _ hg)).kept b (fun e => hnd.2.2 g.bg (List.mem_map_of_mem hg) f.bg (by simp) (Option.some.inj e))
  ·rw [List.mem_singleton.1 hg]
   refine ⟨?_, hf.ne, fun y hy => ?_⟩
   ·show (w.setCell ⟨f.bg, n, none⟩ (.int .u32 x)).ownsRow _ _ _ (rowOf f.bg (f.regs.set n x).length) (f.regs.set n x).length ((f.regs.set n x).map _)
    rw [List.map_set, List.length_set]; exact a
   ·rcases List.mem_or_eq_of_mem_set hy with h2 | rfl
    ·exact hf.wd y h2
    ·exact ⟨h0, h1⟩
/-- a field of the topmost call is set -/
theorem Pm.setTop {f' : Kf} {bt c L : Nat} (h : Pm k w (.slice (some ⟨bt, 0, none⟩) (L + 1) c) vo s dn (fs ++ [f])) (hL : fs.length = L) (j : Nat) (hj : j < 5) (x : Value) (hs : f.cells.set j x = f'.cells) (h1 : f'.bg = f.bg) (h2 : f'.regs = f.regs) :
  Pm k (w.setCell ⟨bt, L * 5 + j, none⟩ x) (.slice (some ⟨bt, 0, none⟩) (L + 1) c) vo s dn (fs ++ [f']) := by
 subst hL
 have ht := h.tt
 rw [List.length_append, List.length_singleton] at ht
 obtain ⟨a, b⟩ := ht.stored (fs.length * 5 + j) x
 have hl : k.wp.heap.size ≤ bt := (own_lt h.tt rfl).1
 have nt : ∀ g ∈ fs ++ [f], g.bg ≠ bt := fun g hg => ne_blocks (h.rr g hg).own h.tt (by decide) rfl rfl
 have e : ((fs ++ [f]).flatMap Kf.cells).set (fs.length * 5 + j) x = (fs ++ [f']).flatMap Kf.cells := by
  rw [flat_snoc, flat_snoc, List.set_append_right _ _ (by rw [flatF_len]; omega), flatF_len, Nat.add_sub_cancel_left, hs]
 rw [e] at a
 refine ⟨h.bx.kept b (rows_ne h.bx h.tt (by decide)), h.mm.kept b (rows_ne h.mm h.tt (by decide)), h.oo.kept b (rows_ne h.oo h.tt (by decide)), by simpa using a, fun g hg => ?_, by rw [List.map_append]; simpa [h1] using h.nd, h.md, h.ii, h.below.setCell (p := ⟨bt, _, none⟩) hl _⟩
 rcases List.mem_append.1 hg with hg | hg
 ·exact (h.rr g (List.mem_append_left _ hg)).kept b (fun e => nt g (List.mem_append_left _ hg) (Option.some.inj e))
 ·rw [List.mem_singleton.1 hg]
  have hf := h.rr f (List.mem_append_right _ List.mem_cons_self)
  have hk := hf.kept b (fun e => nt f (List.mem_append_right _ List.mem_cons_self) (Option.some.inj e))
  exact ⟨by rw [h1, h2]; exact hk.own, by rw [h1]; exact hk.ne, by rw [h2]; exact hk.wd⟩
/-- a call is put on top: its row has been appended -/
theorem Pm.push {w1 : World} {vt' : Value} (h : Pm k w vt vo s dn fs) (hf : FrR k w vo f) (hn : f.bg ∉ fs.map Kf.bg) (hg : w.grownBy w1 vt.ownBlock) (ho : w1.ownsRow k.wp.heap.size 160 5 vt' (fs.length + 1) (fs.flatMap Kf.cells ++ f.cells)) :
  Pm k (w1.setCell ⟨k.br, 5, none⟩ vt') vt' vo s dn (fs ++ [f]) := by
 have fr : ∀ b, vt.ownBlock = some b → k.wp.heap.size ≤ b := fun b e => (own_lt h.tt e).1
 have hB := h.below.size
 have bx1 := h.bx.kept hg (rows_ne h.bx h.tt (by decide))
 obtain ⟨a, b⟩ := bx1.stored 5 vt'
 have hnt : ∀ g, FrR k w vo g → some g.bg ≠ vt.ownBlock := fun g hgg => by
  rcases rows_ne hgg.own h.tt (by decide) with q | q
  ·cases q
  ·exact q
 have k2 : ∀ g, FrR k w vo g → FrR k (w1.setCell ⟨k.br, 5, none⟩ vt') vo g := fun g hgg => (hgg.kept hg (hnt g hgg)).kept b (fun e => (FrR.neX hgg h).1 (Option.some.inj e))
 refine ⟨a, (h.mm.kept hg (rows_ne h.mm h.tt (by decide))).kept b (rows_ne h.mm h.bx (by decide)), (h.oo.kept hg (rows_ne h.oo h.tt (by decide))).kept b (rows_ne h.oo h.bx (by decide)), ?_, fun g hgm => ?_, ?_, h.md, h.ii, (below_grown h.below hg hB fr).setCell (p := ⟨k.br, 5, none⟩) h.brLt.1 _⟩
 ·rw [flat_snoc]
  simpa using ho.kept b (rows_ne ho bx1 (by decide))
 ·rcases List.mem_append.1 hgm with hgm | hgm
  ·exact k2 g (h.rr g hgm)
  ·rw [List.mem_singleton.1 hgm]; exact k2 f hf
 ·rw [List.map_append, List.nodup_append]
  refine ⟨h.nd, by simp, fun a ha b hb => ?_⟩
  simp only [List.map_cons, List.map_nil, List.mem_singleton] at hb
  subst hb
  exact fun e => hn (e ▸ ha)
/-- the topmost call is taken off -/
theorem Pm.pop {bt c L : Nat} (h : Pm k w (.slice (some ⟨bt, 0, none⟩) (L + 1) c) vo s dn (fs ++ [f])) (hL : fs.length = L) :
  Pm k (w.setCell ⟨k.br, 5, none⟩ (.slice (some ⟨bt, 0, none⟩) L c)) (.slice (some ⟨bt, 0, none⟩) L c) vo s dn fs := by
 subst hL
 obtain ⟨a, b⟩ := h.bx.stored 5 (.slice (some ⟨bt, 0, none⟩) fs.length c)
 have ht := h.tt
 rw [List.length_append, List.length_singleton, flat_snoc] at ht
 have ht2 := ownsRow_pop (flatF_len fs) ht
 have hr2 := fun g (hg : g ∈ fs) => h.rr g (List.mem_append_left _ hg)
 refine ⟨a, h.mm.kept b (rows_ne h.mm h.bx (by decide)), h.oo.kept b (rows_ne h.oo h.bx (by decide)), ht2.kept b (rows_ne ht2 h.bx (by decide)), fun g hg => (hr2 g hg).kept b (fun e => (FrR.neX (hr2 g hg) h).1 (Option.some.inj e)), ?_, h.md, h.ii, h.below.setCell (p := ⟨k.br, 5, none⟩) h.brLt.1 _⟩
 have := h.nd
 rw [List.map_append, List.nodup_append] at this
 exact this.1
/-- one more word is put out -/
theorem Pm.app {w1 : World} {vo' : Value} {x : Int} (h : Pm k w vt vo s dn fs) (hg : w.grownBy w1 vo.ownBlock) (ho : w1.ownsRow k.wp.heap.size 35 1 vo' (s.out.length + 1) (s.out.map (Value.int .u32) ++ [.int .u32 x])) (hat : vo'.ownBlock = vo.ownBlock ∨ vo'.ownBlock = some w.heap.size) :
  Pm k (w1.setCell ⟨k.br, 8, none⟩ vo') vt vo' { s with out := s.out ++ [x] } dn fs := by
 have fr : ∀ b, vo.ownBlock = some b → k.wp.heap.size ≤ b := fun b e => (own_lt h.oo e).1
 have bx1 := h.bx.kept hg (rows_ne h.bx h.oo (by decide))
 obtain ⟨a, b⟩ := bx1.stored 8 vo'
 refine ⟨a, (h.mm.kept hg (rows_ne h.mm h.oo (by decide))).kept b (rows_ne h.mm h.bx (by decide)), ?_, (h.tt.kept hg (rows_ne h.tt h.oo (by decide))).kept b (rows_ne h.tt h.bx (by decide)), fun f hf => ?_, h.nd, h.md, h.ii, (below_grown h.below hg h.below.size fr).setCell (p := ⟨k.br, 8, none⟩) h.brLt.1 _⟩
 ·have := ho.kept b (rows_ne ho bx1 (by decide))
  simpa using this
 ·have hf2 := h.rr f hf
  have hk := (hf2.kept hg hf2.ne).kept b (fun e => (FrR.neX hf2 h).1 (Option.some.inj e))
  refine ⟨hk.own, ?_, hk.wd⟩
  rcases hat with e | e
  ·rw [e]; exact hf2.ne
  ·rw [e]; have := hf2.lt.2; intro e2; have := Option.some.inj e2; omega
theorem Pm.c (h : Pm k w vt vo s dn fs) (j : Nat) (hj : j < 13) : w.cell? ⟨k.br, j, none⟩ = (k.cells vt vo s dn)[j]? := h.bx.cellAt j (by omega)
theorem Pm.c2 (h : Pm k w vt vo s dn fs) : w.cell? ⟨k.br, 2, none⟩ = some k.vp := h.c 2 (by decide)
theorem Pm.c0 (h : Pm k w vt vo s dn fs) : w.cell? ⟨k.br, 0, none⟩ = some k.vg := h.c 0 (by decide)
theorem Pm.c4 (h : Pm k w vt vo s dn fs) : w.cell? ⟨k.br, 4, none⟩ = some (.slice (some ⟨k.bm, 0, none⟩) 65536 65536) := h.c 4 (by decide)
theorem Pm.c5 (h : Pm k w vt vo s dn fs) : w.cell? ⟨k.br, 5, none⟩ = some vt := h.c 5 (by decide)
theorem Pm.c6 (h : Pm k w vt vo s dn fs) : w.cell? ⟨k.br, 6, none⟩ = some (.int .i64 k.en) := h.c 6 (by decide)
theorem Pm.c7 (h : Pm k w vt vo s dn fs) : w.cell? ⟨k.br, 7, none⟩ = some k.vi := h.c 7 (by decide)
theorem Pm.c8 (h : Pm k w vt vo s dn fs) : w.cell? ⟨k.br, 8, none⟩ = some vo := h.c 8 (by decide)
theorem Pm.c9 (h : Pm k w vt vo s dn fs) : w.cell? ⟨k.br, 9, none⟩ = some (.int .i64 s.ins) := h.c 9 (by decide)
theorem Pm.c10 (h : Pm k w vt vo s dn fs) : w.cell? ⟨k.br, 10, none⟩ = some (.int .u32 s.exit) := h.c 10 (by decide)
theorem Pm.c11 (h : Pm k w vt vo s dn fs) : w.cell? ⟨k.br, 11, none⟩ = some (.int .i64 s.e) := h.c 11 (by decide)
theorem Pm.c12 (h : Pm k w vt vo s dn fs) : w.cell? ⟨k.br, 12, none⟩ = some (.bool dn) := h.c 12 (by decide)
theorem Pm.fz (h : Pm k w vt vo s dn fs) (j : Nat) : w.frozen? ⟨k.br, j, none⟩ = false := h.bx.frozenAt j
theorem Pm.fzm (h : Pm k w vt vo s dn fs) (j : Nat) : w.frozen? ⟨k.bm, j, none⟩ = false := h.mm.frozenAt j
theorem Pm.mlen (h : Pm k w vt vo s dn fs) : s.mem.length = 65536 := by simpa using h.mm.1
theorem Pm.cM (h : Pm k w vt vo s dn fs) (j : Nat) (hj : j < 65536) : w.cell? ⟨k.bm, j, none⟩ = some (.int .u8 (s.mem.getD j 0)) := by
 have e := h.mlen
 rw [h.mm.cellAt j (by omega)]
 simp [List.getD, show j < s.mem.length by omega]
theorem FrR.cX (h : FrR k w vo f) (n : Nat) (hn : n < f.regs.length) : w.cell? ⟨f.bg, n, none⟩ = some (.int .u32 (f.regs.getD n 0)) := by
 have := h.own.cellAt n (by omega)
 rw [this]
 simp [List.getD, hn]
theorem FrR.fz (h : FrR k w vo f) (n : Nat) : w.frozen? ⟨f.bg, n, none⟩ = false := h.own.frozenAt n
theorem FrR.cap (h : FrR k w vo f) : f.regs.length ≤ 9223372036854775807 := by
 obtain ⟨-, ⟨e, -⟩ | ⟨g, cap, cur, e, -, -, -, hc, -⟩⟩ := h.own
 ·cases e
 ·simp only [rowOf, Value.slice.injEq] at e
  have := e.2.2
  unfold maxLen at hc
  omega
/-- the topmost call's cells -/
theorem Pm.top {bt c L : Nat} (h : Pm k w (.slice (some ⟨bt, 0, none⟩) (L + 1) c) vo s dn (fs ++ [f])) (hL : fs.length = L) :
  (w.cell? ⟨bt, L * 5, none⟩ = some (.int .i64 f.n) ∧ w.cell? ⟨bt, L * 5 + 1, none⟩ = some (.slice (some ⟨f.bg, 0, none⟩) f.regs.length f.regs.length) ∧ w.cell? ⟨bt, L * 5 + 2, none⟩ = some (.int .i64 f.low) ∧
  w.cell? ⟨bt, L * 5 + 3, none⟩ = some (.int .i64 f.b) ∧ w.cell? ⟨bt, L * 5 + 4, none⟩ = some (.int .i64 f.i)) ∧ (bt < w.heap.size ∧ L + 1 ≤ c ∧ c ≤ 9223372036854775807 ∧ ∀ j, w.frozen? ⟨bt, j, none⟩ = false) := by
 subst hL
 have ht := h.tt
 rw [List.length_append, List.length_singleton] at ht
 have cc : ∀ j, j < 5 → w.cell? ⟨bt, fs.length * 5 + j, none⟩ = f.cells[j]? := fun j hj => by
  have hh := ht.cellAt (fs.length * 5 + j) (by omega)
  rw [hh, flat_snoc, List.getElem?_append_right (by rw [flatF_len]; omega), flatF_len, Nat.add_sub_cancel_left]
 refine ⟨⟨cc 0 (by decide), cc 1 (by decide), cc 2 (by decide), cc 3 (by decide), cc 4 (by decide)⟩, (own_lt ht rfl).2, ?_⟩
 have hfz := fun j => ht.frozenAt j
 obtain ⟨-, ⟨e, -⟩ | ⟨g, cap, cur, e, -, -, h1, h2, -⟩⟩ := ht
 ·cases e
 ·simp only [Value.slice.injEq] at e
  obtain ⟨-, -, rfl⟩ := e
  unfold maxLen at h2
  exact ⟨by omega, by omega, hfz⟩
end
end Go.Proofs.Ytedihiodmgnlpaa
