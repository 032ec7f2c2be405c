/-
 FoldKnown: what is held while the document's procedure is made.; fold.Fold: plain, and what a call of Known answers for any procedure that is folded.; fold.Fold: the walk.; fold.Fold, twice: plain.
-/
import Derived.Test.YtkhfddodmjnecaaDoorZFoldTwice47
import Derived.Test.YtkhfddodmjnecaaDoorZFoldTwice49
import Derived.Test.YtkhfddodmjnecaaDoorZFoldTwice31
import Derived.Test.YtkhfddodmjnecaaDoorZFoldTwice46
import Derived.Test.YtkhfddodmjnecaaDoorZFoldTwice32

set_option linter.all false
namespace Go.Proofs.YtkhfddodmjnecaaDoor
open Go.ChangeShapes Go.WideShapes Go.ChangeAt Go.RowKit Go.Maps
set_option maxHeartbeats 16000000
set_option maxRecDepth 100000
set_option linter.unusedVariables false

theorem at_ok {p : Pr} {R : Nat} (h : FoldOk p R) {X : Tb} (hr : RunC p (wkD p).ord.reverse (X0C p.blks.length R) X) (i : Nat) : (atB R X i).length = R ∧ RoOk (atB R X i) := by
 have h1 := (run_len h.b0 h.out hr).2
 have h2 := run_ok h.b0 h.out (fun n hn i hi => (h.ins n hn).1.num i hi) hr
 unfold atB
 cases e : X.getD i none with
 | none => exact ⟨roNo_len R, roNo_ok R⟩
 | some t => exact ⟨h1 i t e, h2 i t e⟩
theorem getD_lt {α : Type} [Inhabited α] {l : List α} {k : Nat} (h : k < l.length) : l.getD k default = l[k] := by simp [List.getD, h]
section
variable {w0 wZ : World} {l : List Bk} {vW v' : Value} {L : List (Bk × Value)} {wr w2 : World}
end
section
variable {w0 wA : World} {b10 b11 : Nat} {vh vn : Value} {t : Ro} {vI : Value} {LI : List (In × Value)} {l : List In} {fin a t3 els : Int} {wr w2 : World}
end
end Go.Proofs.YtkhfddodmjnecaaDoor

set_option linter.all false
namespace Go.Proofs.YtkhfddodmjnecaaDoor
open Go.ChangeShapes Go.WideShapes Go.ChangeAt Go.RowKit Go.Maps
set_option maxHeartbeats 16000000
set_option maxRecDepth 100000
set_option linter.unusedVariables false

theorem FInv.foldOk {m : Md} {p : Pr} (h : FInv m p) : FoldOk p p.regs.toNat := by
 have hk := h.ok
 unfold okP okHead at hk
 simp only [Bool.and_eq_true, decide_eq_true_eq, List.all_eq_true] at hk
 obtain ⟨⟨h1, h2, h3, h4, h5, h6, h7, -, -⟩, hb⟩ := hk
 have hgb : ∀ n, n < p.blks.length → p.blks.getD n default ∈ p.blks := fun n hn => by rw [getD_lt hn]; exact List.getElem_mem hn
 have hR : p.regs = (p.regs.toNat : Int) := (Int.toNat_of_nonneg (by omega)).symm
 have h40 := h.regs
 refine ⟨hR, by omega, by omega, h.blks, List.length_pos_of_mem (ord_zero p (by omega)), fun n hn => ?_, fun n hn q hq => ?_⟩
 ·have h' := h.okB (hgb n hn)
  refine ⟨⟨fun i hi => ((h.pr.blks _ (hgb n hn)).ins i hi).num, fun i hi hd => ?_⟩, fun i hi => foldI_use (h'.1 i hi) hR, h.ins _ (hgb n hn)⟩
  rw [← hR]
  exact foldI_def (h'.1 i hi) hd
 ·have he := (h.okB (hgb n hn)).2
  unfold endF blockF at he
  unfold outsB at hq
  generalize p.blks.getD n default = b at *
  by_cases f1 : b.fin = 1
  ·rw [if_pos f1] at he
   rw [if_pos (.inl f1), List.mem_singleton] at hq
   simp only [Bool.and_eq_true, decide_eq_true_eq] at he
   rw [hq]; exact he.1
  ·rw [if_neg f1] at he
   by_cases f2 : b.fin = 2
   ·rw [if_pos f2] at he
    simp only [Bool.and_eq_true, decide_eq_true_eq] at he
    split at hq
    ·rw [List.mem_singleton] at hq; rw [hq]; exact he.1
    ·rcases List.mem_cons.1 hq with rfl | hq
     ·exact he.1
     ·rw [List.mem_singleton] at hq; rw [hq]; exact he.2.1
   ·rw [if_neg (by omega), if_neg f2] at hq
    cases hq
theorem FInv.blOk {m : Md} {p : Pr} (h : FInv m p) {n : Nat} (hn : n < p.blks.length) : BlOk p.regs (p.blks.getD n default) := by
 have hb : p.blks.getD n default ∈ p.blks := by rw [getD_lt hn]; exact List.getElem_mem hn
 have h1 := h.okB hb
 refine ⟨h.rd hb, fun i hi => ?_, h.args _ hb, by have := h.ins _ hb; omega, ?_⟩
 ·have hr := h.rd hb i hi
  have hi' := (h.pr.blks _ hb).ins i hi
  refine ⟨hi'.num, hi'.fn, hi'.obj, hi'.off, hi'.size, fun ho => ?_, fun ho => ?_⟩
  ·have h1 := hr.a
   have h2 := hr.useA (by omega)
   omega
  ·have h1 := hr.b
   have h2 := hr.useB (by omega)
   omega
 ·have := h1.2
  unfold endF at this
  split at this
  ·simp only [Bool.and_eq_true, beq_iff_eq] at this
   exact .inl this.2.1
  ·split at this
   ·simp only [Bool.and_eq_true] at this
    exact .inr (regF_in this.2.2)
   ·split at this
    ·simp only [Bool.and_eq_true] at this
     exact regF_may this.1
    ·cases this
theorem FInv.szT {m : Md} {p : Pr} (h : FInv m p) : SzT p := ⟨by have := h.blks; omega, fun b hb => by have := h.ins b hb; omega, h.args⟩
/-- the telling comes to an end with these rows -/
def RunX (p : Pr) (X : Tb) : Prop := RunC p (wkD p).ord.reverse (X0C p.blks.length p.regs.toNat) X ∧ ∀ n : Nat, (n : Int) ∈ (wkD p).ord.reverse → StillC p X n
/-- what is known stands as numbers -/
def knwX (p : Pr) (X : Tb) : Pr := knwP p (atB p.regs.toNat X)
theorem FInv.knwX {m : Md} {p : Pr} {X : Tb} (h : FInv m p) (hx : RunX p X) : FInv m (knwX p X) := h.known fun n => (at_ok h.foldOk hx.1 n).2
/-- folded once -/
def fold1 (p : Pr) (X : Tb) : Pr := vlsP (knwX p X)
/-- folded till nothing changes, at most so often -/
inductive FoldT : Nat → Pr → Pr → Prop
 | zero (p : Pr) : FoldT 0 p p
 | stop (k : Nat) (p : Pr) (X : Tb) : RunX p X → textF (fold1 p X) = textF p → FoldT (k + 1) p (fold1 p X)
 | go (k : Nat) (p : Pr) (X : Tb) (q : Pr) : RunX p X → textF (fold1 p X) ≠ textF p → FoldT k (fold1 p X) q → FoldT (k + 1) p q
theorem FoldT.inv {m : Md} {k : Nat} {p q : Pr} (h : FoldT k p q) (hI : FInv m p) : FInv m q := by
 induction h with
 | zero p => exact hI
 | stop k p X hx _ => exact (hI.knwX hx).vals
 | go k p X q hx _ _ ih => exact ih (hI.knwX hx).vals
theorem known2_o (m : Md) (p : Pr) (nm : ByteArray) (vo vb : Value) (w : World) (hvo : RdSls w vo p.objs) (hvb : RdBks w vb p.blks) (hI : FInv m p) :
  Calls Tryd.prog 8 #[.agg #[.string nm, .bool p.void, .int .i64 p.params, .int .i64 p.regs, vo, vb]] w fun e w' => ∃ vb' X, e = .returned (.agg #[.string nm, .bool p.void, .int .i64 p.params, .int .i64 p.regs, vo, vb']) ∧ RdBks w' vb' (knwX p X).blks ∧ RunX p X ∧ Below w.heap.size w w' := by
 have hf := hI.foldOk
 have hR := hf.regs
 refine (known_c p nm vo vb w p.regs.toNat ⟨nm, vo, vb, rfl, hvo, hvb⟩ hR (by have := hf.le; omega) hf.b0 (by have := hf.b1; omega) hf.ord (fun n hn => ⟨(hf.ins n hn).1, by have := (hf.ins n hn).2.2; omega⟩) hf.out).mono ?_
 rintro e w' ⟨X, vb', rfl, -, hr, hs, hb, hbl⟩
 refine ⟨vb', X, ?_, hb, ⟨hr, hs⟩, hbl⟩
 rw [← hR]
theorem values2_o (m : Md) (p : Pr) (nm : ByteArray) (vo vb : Value) (w : World) (hvo : RdSls w vo p.objs) (hvb : RdBks w vb p.blks) (hI : FInv m p) :
  Calls Tryd.prog 7 #[.agg #[.string nm, .bool p.void, .int .i64 p.params, .int .i64 p.regs, vo, vb]] w fun e w' => ∃ vb', e = .returned (.agg #[.string nm, .bool p.void, .int .i64 p.params, .int .i64 p.regs, vo, vb']) ∧ (∀ W, (∀ b, w.heap.size ≤ b → b < w'.heap.size → W.heap[b]? = w'.heap[b]?) → RdBks W vb' (vlsP p).blks) ∧ Below w.heap.size w w' :=
 values_o p nm vo vb w hvo hvb (by have := hI.regs; omega) hI.foldOk.b0 (by have := hI.blks; omega) fun n hn => hI.blOk hn
end Go.Proofs.YtkhfddodmjnecaaDoor

set_option linter.all false
namespace Go.Proofs.YtkhfddodmjnecaaDoor
open Go.ChangeShapes Go.WideShapes Go.ChangeAt Go.RowKit Go.Maps
set_option maxHeartbeats 16000000
set_option maxRecDepth 100000
set_option linter.unusedVariables false

theorem put6 {w : World} {b : Nat} {ty : TypeId} {u0 u1 u2 u3 u4 u5 : Value} (H : w.heap[b]? = some (.cells #[u0, u1, u2, u3, u4, u5] ty)) (v0 v1 v2 v3 v4 v5 : Value) : ((((((w.setCell ⟨b, 0, none⟩ v0).setCell ⟨b, 1, none⟩ v1).setCell ⟨b, 2, none⟩ v2).setCell ⟨b, 3, none⟩ v3).setCell ⟨b, 4, none⟩ v4).setCell ⟨b, 5, none⟩ v5).heap[b]? = some (.cells #[v0, v1, v2, v3, v4, v5] ty) ∧ But b w ((((((w.setCell ⟨b, 0, none⟩ v0).setCell ⟨b, 1, none⟩ v1).setCell ⟨b, 2, none⟩ v2).setCell ⟨b, 3, none⟩ v3).setCell ⟨b, 4, none⟩ v4).setCell ⟨b, 5, none⟩ v5) := by
 have h1 : (w.setCell ⟨b, 0, none⟩ v0).heap[b]? = some (.cells #[v0, u1, u2, u3, u4, u5] ty) := heap_setCell_same w b 0 _ _ v0 H
 have h2 : ((w.setCell ⟨b, 0, none⟩ v0).setCell ⟨b, 1, none⟩ v1).heap[b]? = some (.cells #[v0, v1, u2, u3, u4, u5] ty) := heap_setCell_same (w.setCell ⟨b, 0, none⟩ v0) b 1 _ _ v1 h1
 have h3 : (((w.setCell ⟨b, 0, none⟩ v0).setCell ⟨b, 1, none⟩ v1).setCell ⟨b, 2, none⟩ v2).heap[b]? = some (.cells #[v0, v1, v2, u3, u4, u5] ty) := heap_setCell_same ((w.setCell ⟨b, 0, none⟩ v0).setCell ⟨b, 1, none⟩ v1) b 2 _ _ v2 h2
 have h4 : ((((w.setCell ⟨b, 0, none⟩ v0).setCell ⟨b, 1, none⟩ v1).setCell ⟨b, 2, none⟩ v2).setCell ⟨b, 3, none⟩ v3).heap[b]? = some (.cells #[v0, v1, v2, v3, u4, u5] ty) := heap_setCell_same (((w.setCell ⟨b, 0, none⟩ v0).setCell ⟨b, 1, none⟩ v1).setCell ⟨b, 2, none⟩ v2) b 3 _ _ v3 h3
 have h5 : (((((w.setCell ⟨b, 0, none⟩ v0).setCell ⟨b, 1, none⟩ v1).setCell ⟨b, 2, none⟩ v2).setCell ⟨b, 3, none⟩ v3).setCell ⟨b, 4, none⟩ v4).heap[b]? = some (.cells #[v0, v1, v2, v3, v4, u5] ty) := heap_setCell_same ((((w.setCell ⟨b, 0, none⟩ v0).setCell ⟨b, 1, none⟩ v1).setCell ⟨b, 2, none⟩ v2).setCell ⟨b, 3, none⟩ v3) b 4 _ _ v4 h4
 have h6 : ((((((w.setCell ⟨b, 0, none⟩ v0).setCell ⟨b, 1, none⟩ v1).setCell ⟨b, 2, none⟩ v2).setCell ⟨b, 3, none⟩ v3).setCell ⟨b, 4, none⟩ v4).setCell ⟨b, 5, none⟩ v5).heap[b]? = some (.cells #[v0, v1, v2, v3, v4, v5] ty) := heap_setCell_same (((((w.setCell ⟨b, 0, none⟩ v0).setCell ⟨b, 1, none⟩ v1).setCell ⟨b, 2, none⟩ v2).setCell ⟨b, 3, none⟩ v3).setCell ⟨b, 4, none⟩ v4) b 5 _ _ v5 h5
 exact ⟨h6, (((((But.setCell _ _ _ _).trans (But.setCell _ _ _ _)).trans (But.setCell _ _ _ _)).trans (But.setCell _ _ _ _)).trans (But.setCell _ _ _ _)).trans (But.setCell _ _ _ _)⟩
/-- the procedure in its box -/
structure FdS (m : Md) (p : Pr) (w : World) (nm : ByteArray) (ao : Option Addr) (co : Nat) (k : Nat) (q : Pr) (ab : Option Addr) (cb : Nat) (wr : World) : Prop where
 b1 : wr.heap[w.heap.size]? = some (.cells #[.string nm, .bool q.void, .int .i64 q.params, .int .i64 q.regs, .slice ao p.objs.length co, .slice ab q.blks.length cb] 31)
 b2 : wr.heap[w.heap.size + 1]? = some (.cells zPr 31)
 rb : ∀ W, Below w.heap.size w W → (∀ b, w.heap.size + 2 ≤ b → b < wr.heap.size → W.heap[b]? = wr.heap[b]?) → RdBks W (.slice ab q.blks.length cb) q.blks
 ob : q.objs = p.objs
 inv : FInv m q
 bl : Below w.heap.size w wr
section
variable {m : Md} {p : Pr} {w : World} {nm : ByteArray} {ao : Option Addr} {co k : Nat} {q : Pr} {ab : Option Addr} {cb : Nat} {wr w2 : World}
theorem FdS.below (h : FdS m p w nm ao co k q ab cb wr) (hb : Below wr.heap.size wr w2) : FdS m p w nm ao co k q ab cb w2 :=
 ⟨(hb.block _ (Array.getElem?_eq_some_iff.1 h.b1).1).trans h.b1, (hb.block _ (Array.getElem?_eq_some_iff.1 h.b2).1).trans h.b2, fun W h1 h2 => h.rb W h1 fun b h3 h4 => (h2 b h3 (Nat.lt_of_lt_of_le h4 hb.size)).trans (hb.block b h4), h.ob, h.inv, h.bl.trans (hb.mono h.bl.size)⟩
theorem FdS.blk (h : FdS m p w nm ao co k q ab cb wr) : RdBks wr (.slice ab q.blks.length cb) q.blks := h.rb wr h.bl fun _ _ _ => rfl
theorem FdS.obj (h : FdS m p w nm ao co k q ab cb wr) (ho : RdSls w (.slice ao p.objs.length co) p.objs) : RdSls wr (.slice ao p.objs.length co) q.objs := by rw [h.ob]; exact ho.ext (Ext.below h.bl)
/-- another procedure is laid over it -/
theorem FdS.lay (h : FdS m p w nm ao co k q ab cb wr) {Q : Pr} {X : Tb} (hx : RunX q X) (hQ : Q = fold1 q X) {w5 : World} {B : Nat} (hb5 : Below wr.heap.size wr w5) (hB : B ≤ wr.heap.size) (hB2 : w.heap.size + 2 ≤ B) {ab' : Option Addr} {cb' : Nat} (hr : ∀ W, (∀ b, B ≤ b → b < w5.heap.size → W.heap[b]? = w5.heap[b]?) → RdBks W (.slice ab' Q.blks.length cb') Q.blks) :
  FdS m p w nm ao co (k + 1) Q ab' cb' ((((((w5.setCell ⟨w.heap.size, 0, none⟩ (.string nm)).setCell ⟨w.heap.size, 1, none⟩ (.bool Q.void)).setCell ⟨w.heap.size, 2, none⟩ (.int .i64 Q.params)).setCell ⟨w.heap.size, 3, none⟩ (.int .i64 Q.regs)).setCell ⟨w.heap.size, 4, none⟩ (.slice ao p.objs.length co)).setCell ⟨w.heap.size, 5, none⟩ (.slice ab' Q.blks.length cb')) := by
 have h5 := h.below hb5
 have hp := put6 h5.b1 (.string nm) (.bool Q.void) (.int .i64 Q.params) (.int .i64 Q.regs) (.slice ao p.objs.length co) (.slice ab' Q.blks.length cb')
 have l2 := (Array.getElem?_eq_some_iff.1 h5.b2).1
 refine ⟨hp.1, (hp.2.block _ l2 (by omega)).trans h5.b2, fun W h1 h2 => hr W fun b h3 h4 => (h2 b (by omega) (Nat.lt_of_lt_of_le h4 hp.2.size)).trans (hp.2.block b h4 (by omega)), ?_, ?_, h5.bl.trans (hp.2.toBelow (Nat.le_refl _) h5.bl.size)⟩
 ·rw [hQ]; exact h.ob
 ·rw [hQ]; exact (h.inv.knwX hx).vals
end
theorem FdS.fin {m : Md} {p : Pr} {w : World} {nm : ByteArray} {ao : Option Addr} {co k : Nat} {q : Pr} {ab : Option Addr} {cb : Nat} {wr w2 : World} (h : FdS m p w nm ao co k q ab cb wr) (ho : RdSls w (.slice ao p.objs.length co) p.objs) (hb : But (w.heap.size + 1) wr w2) (hq : FoldT 8 p q) :
  ∃ v' q', Ending.returned (.agg #[.string nm, .bool q.void, .int .i64 q.params, .int .i64 q.regs, .slice ao p.objs.length co, .slice ab q.blks.length cb]) = .returned v' ∧ PrV w2 v' q' ∧ FoldT 8 p q' ∧ Below w.heap.size w w2 := by
 have hbl : Below w.heap.size w w2 := h.bl.trans (hb.toBelow (by omega) h.bl.size)
 refine ⟨_, q, rfl, ?_, hq, hbl⟩
 exact ⟨nm, _, _, rfl, by rw [h.ob]; exact ho.ext (Ext.below hbl), h.rb w2 hbl fun b h1 h2 => hb.block b h2 (by omega)⟩
theorem fold_c (m : Md) (p : Pr) (v : Value) (w : World) (hpw : Pow w) (hg : 2 < w.heap.size) (hP : PrV w v p) (hI : FInv m p) :
  Calls Tryd.prog 6 #[v] w fun e w' => ∃ v' q', e = .returned v' ∧ PrV w' v' q' ∧ FoldT 8 p q' ∧ Below w.heap.size w w' := by
 have HTX : Hid (∀ (p : Pr) (vp : Value) w', Below w.heap.size w w' → PrV w' vp p → PrOk p → SzT p → Calls Tryd.prog 9 #[vp] w' fun e w'' => e = .returned (.string ⟨(textF p).toArray⟩) ∧ Below w'.heap.size w' w'') := fun p vp w' hb hp hok hs => text_c p vp w' (Go.Joins.var_stays pow_named hpw hb (Nat.le_refl _)) (Nat.lt_of_lt_of_le hg hb.size) hp hok hs
 clear hpw hg
 obtain ⟨nm, vo, vb, rfl, hvo, hvb⟩ := hP
 have HVO := Lib.hid hvo
 have HVB := Lib.hid hvb
 obtain ⟨ao, co, rfl, -⟩ := hvo
 obtain ⟨ab, cb, rfl, -⟩ := hvb
 have HI := Lib.hid hI
 clear hI
 obtain ⟨W2, hW2⟩ : ∃ W2, W2 = (w.alloc (.cells #[.string nm, .bool p.void, .int .i64 p.params, .int .i64 p.regs, .slice ao p.objs.length co, .slice ab p.blks.length cb] 31)).alloc (.cells zPr 31) := ⟨_, rfl⟩
 have hW2' : W2 = allocs w [.cells #[.string nm, .bool p.void, .int .i64 p.params, .int .i64 p.regs, .slice ao p.objs.length co, .slice ab p.blks.length cb] 31, .cells zPr 31] := hW2
 have B2 : Below w.heap.size w W2 := by rw [hW2']; exact allocs_below _ _
 have S0 : Hid (FdS m p w nm ao co 0 p ab cb W2) := ⟨by rw [hW2']; exact allocs_heap _ w 0 (by simp), by rw [hW2']; exact allocs_heap _ w 1 (by simp), fun W h1 _ => HVB.out.ext (Ext.below h1), rfl, HI.out, B2⟩
 have HW2 := Lib.hid hW2.symm
 clear hW2 hW2' B2 HVB
 unfold zPr at HW2
 go_enter Tryd.func6, Tryd.ntmps6
 go_wp2_with fail
 rw [HW2.out]
 clear HW2
 go_loopw [4] (fun i wr => ∃ (k : Nat) (q : Pr) (ab : Option Addr) (cb : Nat), k ≤ 8 ∧ i = .int .i64 (k : Int) ∧ Hid (∀ q', FoldT (8 - k) q q' → FoldT 8 p q') ∧ Hid (FdS m p w nm ao co k q ab cb wr)) (fun i _ => 8 - (intOf i).toNat)
 case atStart => exact ⟨0, p, ab, cb, by decide, rfl, fun _ h => h, S0⟩
 case round =>
  clear S0
  obtain ⟨wq, rfl⟩ : ∃ wq, wq = wr := ⟨wr, rfl⟩
  obtain ⟨k, q, ab1, cb1, hk, rfl, HN, S⟩ := hrel
  obtain ⟨p0, p1, p2, p3, p4, p5, lp⟩ := cl6 S.out.b1
  by_cases hlt : k < 8
  ·have g1 : decide ((k : Int) < 8) = true := decide_eq_true (by omega)
   have g2 : decide (k < 8) = true := decide_eq_true hlt
   have HQ := Lib.hid S.out.inv
   have ET := Lib.hid (HTX.out q (.agg #[.string nm, .bool q.void, .int .i64 q.params, .int .i64 q.regs, .slice ao p.objs.length co, .slice ab1 q.blks.length cb1]) wq S.out.bl ⟨nm, _, _, rfl, S.out.obj HVO.out, S.out.blk⟩ HQ.out.pr HQ.out.szT)
   go_wp2_with fail
   refine ET.out.mono ?_
   clear ET
   rintro e w3 ⟨rfl, hb3⟩
   have S3 := Lib.hid (S.out.below hb3)
   clear hb3 p0 p1 p2 p3 p4 p5 lp S
   obtain ⟨p0, p1, p2, p3, p4, p5, lp⟩ := cl6 S3.out.b1
   have EK := Lib.hid (known2_o m q nm (.slice ao p.objs.length co) _ w3 (S3.out.obj HVO.out) S3.out.blk HQ.out)
   go_wp2_with fail
   refine EK.out.mono ?_
   clear EK
   rintro e w4 ⟨vb4, X, rfl, hr4, hx4, hb4⟩
   have HX := Lib.hid hx4
   have HK := Lib.hid (HQ.out.knwX hx4)
   have S4 := Lib.hid (S3.out.below hb4)
   have EV : Hid (Calls Tryd.prog 7 #[.agg #[.string nm, .bool q.void, .int .i64 q.params, .int .i64 q.regs, .slice ao p.objs.length co, vb4]] w4 fun e w' => ∃ vb', e = .returned (.agg #[.string nm, .bool q.void, .int .i64 q.params, .int .i64 q.regs, .slice ao p.objs.length co, vb']) ∧ (∀ W, (∀ b, w4.heap.size ≤ b → b < w'.heap.size → W.heap[b]? = w'.heap[b]?) → RdBks W vb' (fold1 q X).blks) ∧ Below w4.heap.size w4 w') := values2_o m (knwX q X) nm (.slice ao p.objs.length co) vb4 w4 (S4.out.obj HVO.out) hr4 HK.out
   have HF1 : Hid (FInv m (fold1 q X)) := HK.out.vals
   clear hb4 hr4 hx4 p0 p1 p2 p3 p4 p5 lp S3 HK
   go_wp2_with fail
   refine EV.out.mono ?_
   clear EV
   rintro e w5 ⟨vb5, rfl, hr5, hb5⟩
   obtain ⟨ab5, cb5, rfl, -⟩ := hr5 w5 fun _ _ _ => rfl
   have L5 := Lib.hid (S4.out.lay HX.out rfl hb5 (Nat.le_refl _) (by have := (Array.getElem?_eq_some_iff.1 S4.out.b2).1; omega) hr5)
   have hc1 : (fold1 q X).void = q.void := rfl
   have hc2 : (fold1 q X).params = q.params := rfl
   have hc3 : (fold1 q X).regs = q.regs := rfl
   have hk8 : 8 - k = (8 - (k + 1)) + 1 := by omega
   have HNO : Hid (textF (fold1 q X) ≠ textF q → ∀ q', FoldT (8 - (k + 1)) (fold1 q X) q' → FoldT 8 p q') := fun h q' hq' => HN.out q' (by rw [hk8]; exact .go _ q X q' HX.out h hq')
   have HYES : Hid (textF (fold1 q X) = textF q → FoldT 8 p (fold1 q X)) := fun h => HN.out _ (by rw [hk8]; exact .stop _ q X HX.out h)
   rw [← hc1, ← hc2, ← hc3]
   have H5 := Lib.hid ((S4.out.below hb5).b1)
   clear hb5 S4 hr5 HN hc1 hc2 hc3 HX hk8
   generalize fold1 q X = Q at *
   obtain ⟨p0, p1, p2, p3, p4, p5, lp⟩ := cl6 H5.out
   have f0 := frozen_of_heap H5.out 0
   have f1 := frozen_of_heap H5.out 1
   have f2 := frozen_of_heap H5.out 2
   have f3 := frozen_of_heap H5.out 3
   have f4 := frozen_of_heap H5.out 4
   have f5 := frozen_of_heap H5.out 5
   go_upto_region 5 with (fail)
   clear p0 p1 p2 p3 p4 p5 lp f0 f1 f2 f3 f4 f5 H5
   generalize (((((w5.setCell ⟨w.heap.size, 0, none⟩ (.string nm)).setCell ⟨w.heap.size, 1, none⟩ (.bool Q.void)).setCell ⟨w.heap.size, 2, none⟩ (.int .i64 Q.params)).setCell ⟨w.heap.size, 3, none⟩ (.int .i64 Q.regs)).setCell ⟨w.heap.size, 4, none⟩ (.slice ao p.objs.length co)).setCell ⟨w.heap.size, 5, none⟩ (.slice ab5 Q.blks.length cb5) = wz at *
   obtain ⟨p0, p1, p2, p3, p4, p5, lp⟩ := cl6 L5.out.b1
   have ET := HTX.out Q (.agg #[.string nm, .bool Q.void, .int .i64 Q.params, .int .i64 Q.regs, .slice ao p.objs.length co, .slice ab5 Q.blks.length cb5]) wz L5.out.bl ⟨nm, _, _, rfl, L5.out.obj HVO.out, L5.out.blk⟩ HF1.out.pr HF1.out.szT
   by_cases heq : textF Q = textF q
   ·have hQ := HYES.out heq
    have HQ8 := Lib.hid hQ
    rw [heq] at ET
    have ET := Lib.hid ET
    clear heq hQ HNO HYES
    go_wp2_with fail
    refine ET.out.mono ?_
    rintro e w6 ⟨rfl, hb6⟩
    have S6 := Lib.hid (L5.out.below hb6)
    clear hb6 L5 p0 p1 p2 p3 p4 p5 lp
    obtain ⟨p0, p1, p2, p3, p4, p5, lp⟩ := cl6 S6.out.b1
    have HZ := S6.out.b2
    unfold zPr at HZ
    obtain ⟨z0, z1, z2, z3, z4, z5, lz⟩ := cl6 HZ
    have f0 := frozen_of_heap HZ 0
    have f1 := frozen_of_heap HZ 1
    have f2 := frozen_of_heap HZ 2
    have f3 := frozen_of_heap HZ 3
    have f4 := frozen_of_heap HZ 4
    have f5 := frozen_of_heap HZ 5
    clear HZ
    go_wp2_with fail
    refine bodyPost_ret (v := .agg #[.string nm, .bool Q.void, .int .i64 Q.params, .int .i64 Q.regs, .slice ao p.objs.length co, .slice ab5 Q.blks.length cb5]) (by simp [results, Tryd.results6, go_sem, z0, z1, z2, z3, z4, z5, f0, f1, f2, f3, f4, f5]) rfl ?_
    exact S6.out.fin HVO.out ((((((But.setCell _ _ _ _).trans (But.setCell _ _ _ _)).trans (But.setCell _ _ _ _)).trans (But.setCell _ _ _ _)).trans (But.setCell _ _ _ _)).trans (But.setCell _ _ _ _)) HQ8.out
   ·have HN2 := Lib.hid (HNO.out heq)
    have ET := Lib.hid ET
    have HEQ := Lib.hid heq
    clear heq HNO HYES
    go_wp2_with fail
    refine ET.out.mono ?_
    rintro e w6 ⟨rfl, hb6⟩
    have S6 := Lib.hid (L5.out.below hb6)
    clear hb6 L5 p0 p1 p2 p3 p4 p5 lp
    have g3 : (textF Q == textF q) = false := beq_eq_false_iff_ne.2 HEQ.out
    go_wp2_with fail
    go_roundw
    case rel => exact ⟨k + 1, Q, ab5, cb5, hlt, by go_num, HN2, S6⟩
    case measure => simp [intOf]; omega
  ·obtain rfl : k = 8 := by omega
   have g1 : decide ((8 : Int) < 8) = false := by decide
   have HQ8 : Hid (FoldT 8 p q) := HN.out q (.zero q)
   have HZ := S.out.b2
   unfold zPr at HZ
   obtain ⟨z0, z1, z2, z3, z4, z5, lz⟩ := cl6 HZ
   have f0 := frozen_of_heap HZ 0
   have f1 := frozen_of_heap HZ 1
   have f2 := frozen_of_heap HZ 2
   have f3 := frozen_of_heap HZ 3
   have f4 := frozen_of_heap HZ 4
   have f5 := frozen_of_heap HZ 5
   clear HZ
   go_wp2_with fail
   refine bodyPost_ret (v := .agg #[.string nm, .bool q.void, .int .i64 q.params, .int .i64 q.regs, .slice ao p.objs.length co, .slice ab1 q.blks.length cb1]) (by simp [results, Tryd.results6, go_sem, z0, z1, z2, z3, z4, z5, f0, f1, f2, f3, f4, f5]) rfl ?_
   exact S.out.fin HVO.out ((((((But.setCell _ _ _ _).trans (But.setCell _ _ _ _)).trans (But.setCell _ _ _ _)).trans (But.setCell _ _ _ _)).trans (But.setCell _ _ _ _)).trans (But.setCell _ _ _ _)) HQ8.out
end Go.Proofs.YtkhfddodmjnecaaDoor

set_option linter.all false
namespace Go.Proofs.YtkhfddodmjnecaaDoor
set_option maxHeartbeats 4000000
set_option maxRecDepth 100000
set_option linter.unusedVariables false

/-- whatever the rows it ends with, the same is known -/
theorem knw_uniq {m : Md} {p : Pr} {X Y : Tb} (h : FInv m p) (hx : RunX p X) (hy : RunX p Y) : knwX p X = knwX p Y := by
 have e : ∀ n, n < p.blks.length → atB p.regs.toNat X n = atB p.regs.toNat Y n := fun n hn =>
  Option.some.inj ((told_eq h.foldOk hx.1 hx.2 hn).symm.trans (told_eq h.foldOk hy.1 hy.2 hn))
 unfold knwX knwP
 congr 1
 exact List.map_congr_left fun n hn => by rw [e n (List.mem_range.1 hn)]
/-- what folding once does not change, folding does not change -/
theorem FoldT.twice {m : Md} {p q : Pr} {X : Tb} {k : Nat} (h : FInv m p) (hx : RunX p X) (he : textF (fold1 p X) = textF p) (hq : FoldT (k + 1) p q) : textF q = textF p := by
 cases hq with
 | stop _ _ Y hy ht => exact ht
 | go _ _ Y _ hy hne _ => exact absurd (by unfold fold1; rw [← knw_uniq h hx hy]; exact he) hne
theorem few_inv2 {m : Md} (hf : fewM m = true) {p : Pr} (hm : p ∈ m.procs) (hk : okP m p = true) (h40 : p.regs ≤ 40) (hp : PrOk p) : FInv m p := by
 obtain ⟨h1, -, h3⟩ := fewM_pr hf hm
 exact ⟨hk, hp, h40, h1, fun b hb => (h3 b hb).1, fun b hb i hi => by have := insF_args ((h3 b hb).2 i hi); omega⟩
end Go.Proofs.YtkhfddodmjnecaaDoor
