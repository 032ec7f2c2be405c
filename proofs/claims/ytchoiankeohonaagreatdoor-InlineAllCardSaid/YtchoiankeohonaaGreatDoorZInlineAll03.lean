/-
 Contracts of the functions of ir and of the reference that hand back lists of registers and blocks.; Operations that only reckon: a run of them, evaluated by the kernel, is one step of a walk.; Contracts of the reference's table of operations, and of what it tells of one instruction and one block.; Contracts of the reference's functions that tell of one instruction and one block.; Regions that draw their order, at the class of worlds that extend one world: whatever calls make new memory in between, each operation yields the same value.; Plain arithmetic of 32-bit words: signed readings, products by halves, truncated and floored division.
-/
import Derived.Test.YtchoiankeohonaaGreatDoorZInlineAll02
import Derived.WalkKit
import Derived.BigQuiet
import Derived.Below
import Derived.RowKit

set_option linter.all false
namespace Go.Proofs.YtchoiankeohonaaGreatDoor
open Go.ChangeShapes Go.WideShapes Go.ChangeAt Go.RowKit
set_option maxHeartbeats 400000
set_option maxRecDepth 10000

/-- a list of integers in a row of the call's own (from block 'base' on) -/
def OwnI (w : World) (base : Nat) (v : Value) (l : List Int) : Prop := w.ownsRow base 3 1 v l.length (l.map (Value.int .i64))
theorem OwnI.nil (w : World) (base : Nat) : OwnI w base (.slice none 0 0) [] := World.ownsRow_nil _ _ _ _
theorem OwnI.mk (w : World) (base : Nat) (l : List Int) (hb : base ≤ w.heap.size) (hl : l.length ≤ maxLen) : OwnI (w.alloc (.cells (l.map (Value.int .i64)).toArray 3)) base (.slice (some ⟨w.heap.size, 0, none⟩) l.length l.length) l :=
 ⟨by simp, .inr ⟨w.heap.size, l.length, _, rfl, hb, heap_alloc_new w _, Nat.le_refl _, hl, by simp, by rw [Nat.mul_one]; simpa using List.take_length (l := l.map (Value.int .i64))⟩⟩
theorem OwnI.mk1 {w : World} {base g : Nat} {x : Int} (hg : g = w.heap.size) (hb : base ≤ g) : OwnI (w.alloc (.cells #[.int .i64 x] 3)) base (.slice (some ⟨g, 0, none⟩) 1 1) [x] := by subst hg; exact OwnI.mk w base [x] hb (by simp [maxLen])
theorem OwnI.mk2 {w : World} {base g : Nat} {x y : Int} (hg : g = w.heap.size) (hb : base ≤ g) : OwnI (w.alloc (.cells #[.int .i64 x, .int .i64 y] 3)) base (.slice (some ⟨g, 0, none⟩) 2 2) [x, y] := by subst hg; exact OwnI.mk w base [x, y] hb (by simp [maxLen])
theorem OwnI.rd {w : World} {base : Nat} {v : Value} {l : List Int} (h : OwnI w base v l) : RdI w v l := by
 obtain ⟨h1, ⟨rfl, h2⟩ | ⟨g, cap, cur, rfl, hb, hg, hn, hc, hcs, ht⟩⟩ := h
 ·have : l = [] := List.eq_nil_of_length_eq_zero h2
  subst this
  exact ⟨none, 0, rfl, Nat.le_refl _, by simp [maxLen], fun i hi => absurd hi (by simp)⟩
 ·refine ⟨_, _, rfl, hn, hc, fun i hi => ⟨g, 0, rfl, ?_⟩⟩
  have h3 : (l.map (Value.int .i64))[i]? = some (.int .i64 (l.getD i 0)) := by
   rw [List.getElem?_map, List.getElem?_eq_getElem hi]; simp [List.getD, hi]
  rw [← ht, List.getElem?_take] at h3
  split at h3
  ·simp only [Nat.zero_add, Nat.mul_one, Nat.add_zero]
   rw [World.cell?]
   simp only [hg]
   simpa using h3
  ·cases h3
/-- what a call hands back that makes a list of its own -/
def RetI (w : World) (l : List Int) (e : Ending) (w' : World) : Prop := ∃ v, e = .returned v ∧ OwnI w' w.heap.size v l ∧ Below w.heap.size w w'

theorem outsB_1 (b : Bk) (h : b.fin = 1 ∨ b.fin = 2 ∧ b.to = b.els) : outsB b = [b.to] := by unfold outsB; rw [if_pos h]
theorem outsB_2 (b : Bk) (h : ¬ (b.fin = 1 ∨ b.fin = 2 ∧ b.to = b.els)) (h2 : b.fin = 2) : outsB b = [b.to, b.els] := by unfold outsB; rw [if_neg h, if_pos h2]
theorem outsB_3 (b : Bk) (h : b.fin ≠ 1) (h2 : b.fin ≠ 2) : outsB b = [] := by unfold outsB; rw [if_neg (by omega), if_neg h2]
theorem outs_c (b : Bk) (v : Value) (w : World) (hv : BkV w v b) :
  Calls Tryz.prog 92 #[v] w (RetI w (outsB b)) := by
 obtain ⟨vi, rfl, hvi⟩ := hv
 go_enter Tryz.func92, Tryz.ntmps92
 go_wp2
 all_goals go_ret
 ·refine ⟨_, rfl, ?_, Below.alloc (below_alloc _ _) (by simp) _⟩
  rw [outsB_1 b (.inl ‹_›)]
  exact OwnI.mk1 (by simp) (by simp)
 ·refine ⟨_, rfl, ?_, Below.alloc (below_alloc _ _) (by simp) _⟩
  rw [outsB_1 b (.inr ⟨‹_›, eq_of_beq ‹(b.to == b.els) = true›⟩)]
  exact OwnI.mk1 (by simp) (by simp)
 ·have h1 : b.fin = 2 := by assumption
  have h2 : ¬ b.to = b.els := by simpa using ‹(b.to == b.els) = false›
  refine ⟨_, rfl, ?_, Below.alloc (below_alloc _ _) (by simp) _⟩
  rw [outsB_2 b (by omega) h1]
  exact OwnI.mk2 (by simp) (by simp)
 ·exact ⟨_, rfl, by rw [outsB_3 b ‹_› ‹_›]; exact OwnI.nil _ _, below_alloc _ _⟩

theorem info_int : (Tryz.prog.info? 3).map (fun i => (i.zero, i.size, i.bytes)) = some (some (.int .i64 0), 1, 8) := by kernel_rfl
/-- a list of the call's own, and the world that was behind block B untouched since w0 -/
structure Own (w0 : World) (B : Nat) (w : World) (v : Value) (l : List Int) : Prop where
 own : OwnI w B v l
 below : Below B w0 w
 le : B ≤ w0.heap.size
theorem Own.nil {w0 : World} {B : Nat} (h : B ≤ w0.heap.size) : Own w0 B w0 (.slice none 0 0) [] := ⟨OwnI.nil _ _, Below.refl _ _, h⟩
theorem Own.alloc {w0 w : World} {B : Nat} {v : Value} {l : List Int} (h : Own w0 B w v l) (o : Obj) : Own w0 B (w.alloc o) v l :=
 ⟨World.ownsRow.alloc h.own o, h.below.alloc (Nat.le_trans h.le h.below.size) o, h.le⟩
theorem OwnI.base {w : World} {B B' : Nat} {v : Value} {l : List Int} (h : OwnI w B v l) (hB : B' ≤ B) : OwnI w B' v l := by
 obtain ⟨h1, h2 | ⟨g, cap, cur, h3, hb, r⟩⟩ := h
 ·exact ⟨h1, .inl h2⟩
 ·exact ⟨h1, .inr ⟨g, cap, cur, h3, Nat.le_trans hB hb, r⟩⟩
theorem Own.bcell {w0 w : World} {B : Nat} {v : Value} {l : List Int} (h : Own w0 B w v l) : ∀ b o, b < B → w.cell? ⟨b, o, none⟩ = w0.cell? ⟨b, o, none⟩ := fun b o hb => h.below.cell (p := ⟨b, o, none⟩) hb
theorem Own.old {w' w0 w : World} {B : Nat} {v : Value} {l : List Int} (h : Own w0 B w v l) (hw : Ext w' w0) (hB : w'.heap.size ≤ B) : Ext w' w := fun a u hu =>
 (h.below.cell (p := a) (Nat.lt_of_lt_of_le (World.block_lt_of_cell? w' a hu) hB)).trans (hw a u hu)
theorem Own.ret {w0 w w1 : World} {B : Nat} {v : Value} {l : List Int} (h : Own w0 B w1 v l) (hb : Below w.heap.size w w0) (hB : w.heap.size ≤ B) : RetI w l (.returned v) w1 :=
 ⟨v, rfl, h.own.base hB, hb.trans (h.below.mono hB)⟩
/-- the law of append for a list of integers of the call's own: one more -/
theorem app1 {ops : Array Oper} {rest : List Oper} {o : Oper} {a : Act} {W w0 : World} {B : Nat} {v : Value} {l : List Int} {n : Int} {g : Nat} {Q : Exit → Act → World → Prop} {s x : Operand} (hown : Own w0 B W v l) (hgd : o.guard = none)
  (ho : o.op = .call { callee := .builtin .append, args := #[s, x], argTypes := #[46, 46] }) (hs : a.eval s = v)
  (hx : a.eval x = .slice (some ⟨g, 0, none⟩) 1 1) (hg : g = W.heap.size) (hlen : l.length ≤ 1000000000)
  (h : ∀ v' w', Own w0 B w' v' (l ++ [n]) → wpList Tryz.prog ops Q rest (a.put o.dst v') w') : wpList Tryz.prog ops Q (o :: rest) a (W.alloc (.cells #[.int .i64 n] 3)) := by
 subst hg
 obtain ⟨i0, hi, hz0, hz1, hz2⟩ := info_parts info_int
 have hb := Nat.le_trans hown.le hown.below.size
 refine wpList_append_own _ hgd s x 46 ho B 3 i0 (.int .i64 0) 1 8 Tryz.underlying46 hi hz0 hz1 hz2 rfl (by decide) v l.length _ hs (hown.alloc _).own ⟨W.heap.size, 0, none⟩ 1 1 [.int .i64 n] hx rfl ?_ ?_ ?_ ?_ ?_ ?_
 ·intro j u hj
  match j, hj with
  | 0, hj => simp at hj; subst hj; simp [Addr.add]
 ·intro u hu; simp at hu; subst hu; rfl
 ·unfold maxLen; omega
 ·omega
 ·simp; omega
 ·intro v' w' h1 h2 _
  refine h v' w' ⟨?_, (hown.alloc _).below.grown h2 (by simp; omega) fun k hk => (World.ownsRow.lt hown.own k hk).1, hown.le⟩
  unfold OwnI
  simpa using h1
theorem readsA_9 : readsA 9 = false := rfl
theorem readsB_9 : readsB 9 = false := rfl
theorem usesI_9 (i : In) (h : i.op = 9) : usesI i = i.args.filter (· != -1) := by unfold usesI; rw [h]; simp [readsA_9, readsB_9]
theorem usesI_n (i : In) (h : i.op ≠ 9) : usesI i = (if readsA i.op && i.a != -1 then [i.a] else []) ++ (if readsB i.op && i.b != -1 then [i.b] else []) := by unfold usesI; rw [if_neg h]; simp
theorem uses_n (i : In) (v : Value) (w : World) (hv : InV w v i) (h9 : i.op ≠ 9) :
  Calls Tryz.prog 95 #[v] w (RetI w (usesI i)) := by
 obtain ⟨va, rfl, hva⟩ := hv
 have H := Lib.hid (usesI_n i h9)
 have h9' : (i.op == 9) = false := by simpa using h9
 clear h9
 go_enter Tryz.func95, Tryz.ntmps95
 go_wp2_with (first | (go_at_call 64; refine (reads_c _ _).mono ?_; rintro e w' ⟨rfl, rfl⟩; have O0 := Own.nil (w0 := w.alloc (.cells #[.int .i64 i.op, .int .i64 i.d, .int .i64 i.a, .int .i64 i.b, .int .i64 i.fn, .int .i64 i.obj, .int .i64 i.off, .int .i64 i.size, .int .u32 i.num, va, .bool i.log] 48)) (B := w.heap.size + 1) (by simp)) | (at_builtin; refine app1 O1 rfl rfl rfl rfl (by first | rfl | simp) (by simp) ?_; intro v2 w2 O2; have hc2 := O2.bcell) | (at_builtin; refine app1 O0 rfl rfl rfl rfl (by first | rfl | simp) (by simp) ?_; intro v1 w1 O1; have hc1 := O1.bcell; have hz1 := O1.below.size; simp at hz1))
 all_goals
  go_ret
  first
   | (have e : usesI i = [i.a] ++ [i.b] := by rw [H.out]; simp [*]
      rw [e]
      exact O2.ret (below_alloc _ _) (by omega))
   | (have e : usesI i = [] ++ [i.a] := by rw [H.out]; simp [*]
      rw [e]
      exact O1.ret (below_alloc _ _) (by omega))
   | (have e : usesI i = [] ++ [i.b] := by rw [H.out]; simp [*]
      rw [e]
      exact O1.ret (below_alloc _ _) (by omega))
   | (have e : usesI i = [] := by rw [H.out]; simp [*]
      rw [e]
      exact O0.ret (below_alloc _ _) (by omega))
theorem take_snoc (l : List Int) (k : Nat) (h : k < l.length) : l.take (k + 1) = l.take k ++ [l.getD k 0] := by
 rw [List.take_succ_eq_append_getElem h]; simp [List.getD, h]
theorem filter_snoc_yes (p : Int → Bool) (l : List Int) (k : Nat) (h : k < l.length) (hp : p (l.getD k 0) = true) : (l.take (k + 1)).filter p = (l.take k).filter p ++ [l.getD k 0] := by
 rw [take_snoc l k h, List.filter_append, List.filter_cons, hp]; rfl
theorem filter_snoc_no (p : Int → Bool) (l : List Int) (k : Nat) (h : k < l.length) (hp : p (l.getD k 0) = false) : (l.take (k + 1)).filter p = (l.take k).filter p := by
 rw [take_snoc l k h, List.filter_append, List.filter_cons, hp]; simp
theorem filter_take_le (p : Int → Bool) (l : List Int) (k : Nat) : ((l.take k).filter p).length ≤ k := Nat.le_trans (List.length_filter_le _ _) (List.length_take_le _ _)
theorem uses_9 (i : In) (v : Value) (w : World) (hv : InV w v i) (h9 : i.op = 9) (hn : i.args.length ≤ 1000) :
  Calls Tryz.prog 95 #[v] w (RetI w (usesI i)) := by
 obtain ⟨va, rfl, a, c, rfl, hc1, hc2, hcell⟩ := hv
 have H := Lib.hid (usesI_9 i h9)
 have rA := readsA_9
 have rB := readsB_9
 have HC := Lib.hid hcell
 clear hcell
 go_enter Tryz.func95, Tryz.ntmps95
 go_wp2_with (go_at_call 64; refine (reads_c _ _).mono ?_; rintro e w' ⟨rfl, rfl⟩)
 go_loopw [3, 42] (fun v k wr => ∃ n : Nat, n ≤ i.args.length ∧ k = .int .i64 n ∧ Own (w.alloc (.cells #[.int .i64 9, .int .i64 i.d, .int .i64 i.a, .int .i64 i.b, .int .i64 i.fn, .int .i64 i.obj, .int .i64 i.off, .int .i64 i.size, .int .u32 i.num, .slice a i.args.length c, .bool i.log] 48)) (w.heap.size + 1) wr v ((i.args.take n).filter (· != -1)))
  (fun _ k _ => i.args.length - (intOf k).toNat)
 case atStart => exact ⟨0, Nat.zero_le _, rfl, Own.nil (by simp)⟩
 case round =>
  obtain ⟨n, hk, rfl, O⟩ := hrel
  have hl := filter_take_le (· != -1) i.args n
  by_cases hlt : n < i.args.length
  ·obtain ⟨b, o, rfl, hc⟩ := HC.out n hlt
   have hc' := O.old (Ext.alloc w _) (by simp) _ _ hc
   simp only [Nat.mul_one, Nat.add_zero] at hc'
   clear hc
   have hF1 := filter_snoc_yes (· != -1) i.args n hlt
   have hF2 := filter_snoc_no (· != -1) i.args n hlt
   generalize i.args.getD n 0 = x at hc' hF1 hF2
   by_cases hp : (x != -1) = true
   ·have HF := Lib.hid (hF1 hp)
    clear hF1 hF2
    go_wp2_with (at_builtin; refine app1 O rfl rfl rfl rfl (by simp) (by omega) ?_; intro v1 w1 O1)
    go_roundw
    case rel => exact ⟨n + 1, by omega, by go_num, by rw [HF.out]; exact O1⟩
    case measure => simp [intOf]; omega
   ·have hp : (x != -1) = false := by simpa using hp
    have HF := Lib.hid (hF2 hp)
    clear hF1 hF2
    go_wp2
    go_roundw
    case rel => exact ⟨n + 1, by omega, by go_num, by rw [HF.out]; exact O⟩
    case measure => simp [intOf]; omega
  ·have HF : Hid ((i.args.take n).filter (· != -1) = i.args.filter (· != -1)) := by show _ = _; rw [List.take_of_length_le (by omega)]
   go_wp2
   go_ret
   rw [H.out, ← HF.out]
   exact O.ret (below_alloc _ _) (by omega)
theorem uses_c (i : In) (v : Value) (w : World) (hv : InV w v i) (hn : i.args.length ≤ 1000) :
  Calls Tryz.prog 95 #[v] w (RetI w (usesI i)) := by
 by_cases h9 : i.op = 9
 ·exact uses_9 i v w hv h9 hn
 ·exact uses_n i v w hv h9
end Go.Proofs.YtchoiankeohonaaGreatDoor

set_option linter.all false
namespace Go.Proofs.YtchoiankeohonaaGreatDoor
open Go

theorem cell_of_heap {w : World} {b : Nat} {c : Array Value} {t : TypeId} {fr : Nat × Nat} (h : w.heap[b]? = some (.cells c t fr)) (o : Nat) : w.cell? ⟨b, o, none⟩ = c[o]? := by
 simp [World.cell?, h]
theorem frozen_of_heap {w : World} {b : Nat} {c : Array Value} {t : TypeId} (h : w.heap[b]? = some (.cells c t (0, 0))) (o : Nat) : w.frozen? ⟨b, o, none⟩ = false := by
 simp [World.frozen?, h]
theorem heap_alloc (w : World) (o : Obj) (i : Nat) : (w.alloc o).heap[i]? = if i = w.heap.size then some o else w.heap[i]? := by
 show (w.heap.push o)[i]? = _
 rw [Array.getElem?_push]
end Go.Proofs.YtchoiankeohonaaGreatDoor

set_option linter.all false
namespace Go.Proofs.YtchoiankeohonaaGreatDoor
open Go.ChangeShapes Go.WideShapes Go.ChangeAt Go.RowKit
set_option maxHeartbeats 400000
set_option maxRecDepth 20000

def fldT : List (List Bool) := [[], [true, false, false, false, false, false, false, true, false, true], [true, true, false, false, false, false, false, false, false, true], [true, true, true, true, false, false, false, false, false, true], [true, true, false, true, false, false, false, false, false, true], [true, true, false, false, false, true, true, false, false, true], [false, true, true, false, false, true, true, false, false, true], [true, false, false, false, true, true, false, false, false, true], [true, false, false, false, true, true, false, false, false, true], [true, false, false, false, true, false, false, false, true, true], [false, true, false, false, false, false, false, false, false, false], [true, false, false, false, false, false, false, false, false, true], [false, false, false, false, false, false, false, false, false, false]]
/-- which fields an operation has -/
def fld (op : Int) (k : Nat) : Bool := (fldT.getD op.toNat []).getD k false
/-- the row of an operation in memory -/
structure FldAt (w : World) (op : Int) (g : Nat) : Prop where
 c0 : w.cell? ⟨g, 0, none⟩ = some (.bool (fld op 0))
 c1 : w.cell? ⟨g, 1, none⟩ = some (.bool (fld op 1))
 c2 : w.cell? ⟨g, 2, none⟩ = some (.bool (fld op 2))
 c3 : w.cell? ⟨g, 3, none⟩ = some (.bool (fld op 3))
 c4 : w.cell? ⟨g, 4, none⟩ = some (.bool (fld op 4))
 c5 : w.cell? ⟨g, 5, none⟩ = some (.bool (fld op 5))
 c6 : w.cell? ⟨g, 6, none⟩ = some (.bool (fld op 6))
 c7 : w.cell? ⟨g, 7, none⟩ = some (.bool (fld op 7))
 c8 : w.cell? ⟨g, 8, none⟩ = some (.bool (fld op 8))
 c9 : w.cell? ⟨g, 9, none⟩ = some (.bool (fld op 9))
theorem FldAt.ext {w w' : World} {op : Int} {g : Nat} (h : FldAt w op g) (he : Ext w w') : FldAt w' op g :=
 ⟨he _ _ h.c0, he _ _ h.c1, he _ _ h.c2, he _ _ h.c3, he _ _ h.c4, he _ _ h.c5, he _ _ h.c6, he _ _ h.c7, he _ _ h.c8, he _ _ h.c9⟩
theorem FldAt.lt {w : World} {op : Int} {g : Nat} (h : FldAt w op g) : g < w.heap.size := World.block_lt_of_cell? w ⟨g, 0, none⟩ h.c0
/-- the table's rows, laid one behind the other -/
def fldRow (k : Nat) : Array Value := ((fldT.getD k []).map Value.bool).toArray
def fw (w : World) : Nat → World
 | 0 => w
 | k + 1 => (fw w k).alloc (.cells (fldRow (k + 1)) 4)
end Go.Proofs.YtchoiankeohonaaGreatDoor

set_option linter.all false
namespace Go.Proofs.YtchoiankeohonaaGreatDoor
open Go.ChangeShapes Go.WideShapes Go.ChangeAt Go.RowKit
set_option maxHeartbeats 1000000
set_option maxRecDepth 20000

theorem bcell' {B : Nat} {W w1 : World} (hb : Below B W w1) : (∀ b o, b < B → w1.cell? ⟨b, o, none⟩ = W.cell? ⟨b, o, none⟩) ∧ (∀ b o, b < B → w1.frozen? ⟨b, o, none⟩ = W.frozen? ⟨b, o, none⟩) :=
 ⟨fun b o h => hb.cell (p := ⟨b, o, none⟩) h, fun b o h => hb.frozen (p := ⟨b, o, none⟩) h⟩
end Go.Proofs.YtchoiankeohonaaGreatDoor

set_option linter.all false
namespace Go.Proofs.YtchoiankeohonaaGreatDoor
open Go Go.RowKit

/-- a world and new blocks behind its own -/
def plus (W x : World) : World := { W with heap := W.heap ++ x.heap, drawn := x.drawn }
/-- what lies behind -/
def plusRest (W x : World) (a : Addr) : Option Value := if a.block < W.heap.size then none else (plus W x).cell? a

theorem plus_below (W x : World) : Below W.heap.size W (plus W x) := by
 refine ⟨rfl, rfl, rfl, ?_, fun k hk => ?_⟩
 ·show W.heap.size ≤ (W.heap ++ x.heap).size
  simp
 ·show (W.heap ++ x.heap)[k]? = W.heap[k]?
  rw [Array.getElem?_append, if_pos hk]
theorem cell?_plus (W x : World) (a : Addr) : (plus W x).cell? a = (W.cell? a).or (plusRest W x a) := by
 unfold plusRest
 by_cases h : a.block < W.heap.size
 ·rw [if_pos h, (plus_below W x).cell h]; simp
 ·rw [if_neg h]
  have : W.cell? a = none := by
   unfold World.cell?
   rw [Array.getElem?_eq_none (by omega)]
  rw [this]; simp
attribute [go_sem] cell?_plus
end Go.Proofs.YtchoiankeohonaaGreatDoor

set_option linter.all false
namespace Go.Proofs.YtchoiankeohonaaGreatDoor
open Go.RowKit

/-- a word as a signed number -/
def sg (a : Int) : Int := if a < 2147483648 then a else a - 4294967296
/-- shifted to the left by so many -/
def shl32 (a b : Int) : Int := (a * 2 ^ (b % 32).toNat) % 4294967296
def sar32 (a b : Int) : Int := (sg a / 2 ^ (b % 32).toNat) % 4294967296
def divS (a b : Int) : Int := if b = 0 then 4294967295 else ((sg a).tdiv (sg b)) % 4294967296
def remS (a b : Int) : Int := if b = 0 then a else ((sg a).tmod (sg b)) % 4294967296
def lessS (a b : Int) : Int := if sg a < sg b then 1 else 0
theorem wrap32_sg (a : Int) (h : 0 ≤ a) (h' : a < 4294967296) : wrap32 a = sg a := by
 unfold sg wrap32; split <;> omega
theorem sg_bd (a : Int) (h : 0 ≤ a) (h' : a < 4294967296) : -2147483648 ≤ sg a ∧ sg a < 2147483648 := by
 unfold sg; split <;> omega
theorem wrap64_in (a : Int) (h : -9223372036854775808 ≤ a) (h' : a < 9223372036854775808) : wrap64 a = a := by
 unfold wrap64; omega

theorem sg_zero (b : Int) (h : 0 ≤ b) (h' : b < 4294967296) : sg b = 0 ↔ b = 0 := by unfold sg; split <;> omega
theorem tdiv_bd (x y : Int) (h : -2147483648 ≤ x) (h' : x < 2147483648) : -2147483648 ≤ x.tdiv y ∧ x.tdiv y ≤ 2147483648 := by
 have h1 : (x.tdiv y).natAbs ≤ x.natAbs := by rw [Int.natAbs_tdiv]; exact Nat.div_le_self _ _
 omega
theorem div_eq (a b : Int) (h : 0 ≤ a) (h' : a < 4294967296) (h1 : 0 ≤ b) (h1' : b < 4294967296) (hb : b ≠ 0) :
  wrap64 ((wrap64 (wrap32 a)).tdiv (wrap64 (wrap32 b))) % 4294967296 = divS a b := by
 have ha := sg_bd a h h'
 have hb' := sg_bd b h1 h1'
 rw [wrap32_sg a h h', wrap32_sg b h1 h1', wrap64_in (sg a) (by omega) (by omega), wrap64_in (sg b) (by omega) (by omega)]
 have := tdiv_bd (sg a) (sg b) (by omega) (by omega)
 rw [wrap64_in _ (by omega) (by omega)]
 unfold divS; rw [if_neg hb]
theorem rem_eq (a b : Int) (h : 0 ≤ a) (h' : a < 4294967296) (h1 : 0 ≤ b) (h1' : b < 4294967296) (hb : b ≠ 0) :
  (wrap64 (wrap32 a)).tmod (wrap64 (wrap32 b)) % 4294967296 = remS a b := by
 have ha := sg_bd a h h'
 have hb' := sg_bd b h1 h1'
 rw [wrap32_sg a h h', wrap32_sg b h1 h1', wrap64_in (sg a) (by omega) (by omega), wrap64_in (sg b) (by omega) (by omega)]
 unfold remS; rw [if_neg hb]
end Go.Proofs.YtchoiankeohonaaGreatDoor
