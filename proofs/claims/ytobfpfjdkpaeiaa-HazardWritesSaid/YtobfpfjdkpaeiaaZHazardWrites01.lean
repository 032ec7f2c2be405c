/-
 Contracts of the functions of ir and of the reference that hand back lists of registers and blocks.; Operations that only reckon: a run of them, evaluated by the kernel, is one step of a walk.; Contracts of the reference's table of operations, and of what it tells of one instruction and one block.
-/
import Derived.Test.YtobfpfjdkpaeiaaZHazardWrites00
import Derived.WalkKit

set_option linter.all false
namespace Go.Proofs.Ytobfpfjdkpaeiaa
open Go.ChangeShapes Go.WideShapes Go.ChangeAt Go.RowKit
set_option maxHeartbeats 400000
set_option maxRecDepth 10000

/-- a list of integers in a row of the call's own (from block 'base' on) -/
def OwnI (w : World) (base : Nat) (v : Value) (l : List Int) : Prop := w.ownsRow base 3 1 v l.length (l.map (Value.int .i64))
theorem OwnI.nil (w : World) (base : Nat) : OwnI w base (.slice none 0 0) [] := World.ownsRow_nil _ _ _ _
theorem OwnI.mk (w : World) (base : Nat) (l : List Int) (hb : base ≤ w.heap.size) (hl : l.length ≤ maxLen) : OwnI (w.alloc (.cells (l.map (Value.int .i64)).toArray 3)) base (.slice (some ⟨w.heap.size, 0, none⟩) l.length l.length) l :=
 ⟨by simp, .inr ⟨w.heap.size, l.length, _, rfl, hb, heap_alloc_new w _, Nat.le_refl _, hl, by simp, by rw [Nat.mul_one]; simpa using List.take_length (l := l.map (Value.int .i64))⟩⟩
theorem OwnI.mk1 {w : World} {base g : Nat} {x : Int} (hg : g = w.heap.size) (hb : base ≤ g) : OwnI (w.alloc (.cells #[.int .i64 x] 3)) base (.slice (some ⟨g, 0, none⟩) 1 1) [x] := by subst hg; exact OwnI.mk w base [x] hb (by simp [maxLen])
theorem OwnI.mk2 {w : World} {base g : Nat} {x y : Int} (hg : g = w.heap.size) (hb : base ≤ g) : OwnI (w.alloc (.cells #[.int .i64 x, .int .i64 y] 3)) base (.slice (some ⟨g, 0, none⟩) 2 2) [x, y] := by subst hg; exact OwnI.mk w base [x, y] hb (by simp [maxLen])
theorem OwnI.rd {w : World} {base : Nat} {v : Value} {l : List Int} (h : OwnI w base v l) : RdI w v l := by
 obtain ⟨h1, ⟨rfl, h2⟩ | ⟨g, cap, cur, rfl, hb, hg, hn, hc, hcs, ht⟩⟩ := h
 ·have : l = [] := List.eq_nil_of_length_eq_zero h2
  subst this
  exact ⟨none, 0, rfl, Nat.le_refl _, by simp [maxLen], fun i hi => absurd hi (by simp)⟩
 ·refine ⟨_, _, rfl, hn, hc, fun i hi => ⟨g, 0, rfl, ?_⟩⟩
  have h3 : (l.map (Value.int .i64))[i]? = some (.int .i64 (l.getD i 0)) := by
   rw [List.getElem?_map, List.getElem?_eq_getElem hi]; simp [List.getD, hi]
  rw [← ht, List.getElem?_take] at h3
  split at h3
  ·simp only [Nat.zero_add, Nat.mul_one, Nat.add_zero]
   rw [World.cell?]
   simp only [hg]
   simpa using h3
  ·cases h3
/-- what a call hands back that makes a list of its own -/
def RetI (w : World) (l : List Int) (e : Ending) (w' : World) : Prop := ∃ v, e = .returned v ∧ OwnI w' w.heap.size v l ∧ Below w.heap.size w w'

theorem outsB_1 (b : Bk) (h : b.fin = 1 ∨ b.fin = 2 ∧ b.to = b.els) : outsB b = [b.to] := by unfold outsB; rw [if_pos h]
theorem outsB_2 (b : Bk) (h : ¬ (b.fin = 1 ∨ b.fin = 2 ∧ b.to = b.els)) (h2 : b.fin = 2) : outsB b = [b.to, b.els] := by unfold outsB; rw [if_neg h, if_pos h2]
theorem outsB_3 (b : Bk) (h : b.fin ≠ 1) (h2 : b.fin ≠ 2) : outsB b = [] := by unfold outsB; rw [if_neg (by omega), if_neg h2]
theorem outs_c (b : Bk) (v : Value) (w : World) (hv : BkV w v b) :
  Calls Try.prog 70 #[v] w (RetI w (outsB b)) := by
 obtain ⟨vi, rfl, hvi⟩ := hv
 go_enter Try.func70, Try.ntmps70
 go_wp2
 all_goals go_ret
 ·refine ⟨_, rfl, ?_, Below.alloc (below_alloc _ _) (by simp) _⟩
  rw [outsB_1 b (.inl ‹_›)]
  exact OwnI.mk1 (by simp) (by simp)
 ·refine ⟨_, rfl, ?_, Below.alloc (below_alloc _ _) (by simp) _⟩
  rw [outsB_1 b (.inr ⟨‹_›, eq_of_beq ‹(b.to == b.els) = true›⟩)]
  exact OwnI.mk1 (by simp) (by simp)
 ·have h1 : b.fin = 2 := by assumption
  have h2 : ¬ b.to = b.els := by simpa using ‹(b.to == b.els) = false›
  refine ⟨_, rfl, ?_, Below.alloc (below_alloc _ _) (by simp) _⟩
  rw [outsB_2 b (by omega) h1]
  exact OwnI.mk2 (by simp) (by simp)
 ·exact ⟨_, rfl, by rw [outsB_3 b ‹_› ‹_›]; exact OwnI.nil _ _, below_alloc _ _⟩

theorem info_int : (Try.prog.info? 3).map (fun i => (i.zero, i.size, i.bytes)) = some (some (.int .i64 0), 1, 8) := by kernel_rfl
/-- a list of the call's own, and the world that was behind block B untouched since w0 -/
structure Own (w0 : World) (B : Nat) (w : World) (v : Value) (l : List Int) : Prop where
 own : OwnI w B v l
 below : Below B w0 w
 le : B ≤ w0.heap.size
theorem Own.nil {w0 : World} {B : Nat} (h : B ≤ w0.heap.size) : Own w0 B w0 (.slice none 0 0) [] := ⟨OwnI.nil _ _, Below.refl _ _, h⟩
theorem Own.alloc {w0 w : World} {B : Nat} {v : Value} {l : List Int} (h : Own w0 B w v l) (o : Obj) : Own w0 B (w.alloc o) v l :=
 ⟨World.ownsRow.alloc h.own o, h.below.alloc (Nat.le_trans h.le h.below.size) o, h.le⟩
theorem OwnI.base {w : World} {B B' : Nat} {v : Value} {l : List Int} (h : OwnI w B v l) (hB : B' ≤ B) : OwnI w B' v l := by
 obtain ⟨h1, h2 | ⟨g, cap, cur, h3, hb, r⟩⟩ := h
 ·exact ⟨h1, .inl h2⟩
 ·exact ⟨h1, .inr ⟨g, cap, cur, h3, Nat.le_trans hB hb, r⟩⟩
theorem Own.bcell {w0 w : World} {B : Nat} {v : Value} {l : List Int} (h : Own w0 B w v l) : ∀ b o, b < B → w.cell? ⟨b, o, none⟩ = w0.cell? ⟨b, o, none⟩ := fun b o hb => h.below.cell (p := ⟨b, o, none⟩) hb
theorem Own.old {w' w0 w : World} {B : Nat} {v : Value} {l : List Int} (h : Own w0 B w v l) (hw : Ext w' w0) (hB : w'.heap.size ≤ B) : Ext w' w := fun a u hu =>
 (h.below.cell (p := a) (Nat.lt_of_lt_of_le (World.block_lt_of_cell? w' a hu) hB)).trans (hw a u hu)
theorem Own.ret {w0 w w1 : World} {B : Nat} {v : Value} {l : List Int} (h : Own w0 B w1 v l) (hb : Below w.heap.size w w0) (hB : w.heap.size ≤ B) : RetI w l (.returned v) w1 :=
 ⟨v, rfl, h.own.base hB, hb.trans (h.below.mono hB)⟩
/-- the law of append for a list of integers of the call's own: one more -/
theorem app1 {ops : Array Oper} {rest : List Oper} {o : Oper} {a : Act} {W w0 : World} {B : Nat} {v : Value} {l : List Int} {n : Int} {g : Nat} {Q : Exit → Act → World → Prop} {s x : Operand} (hown : Own w0 B W v l) (hgd : o.guard = none)
  (ho : o.op = .call { callee := .builtin .append, args := #[s, x], argTypes := #[45, 45] }) (hs : a.eval s = v)
  (hx : a.eval x = .slice (some ⟨g, 0, none⟩) 1 1) (hg : g = W.heap.size) (hlen : l.length ≤ 1000000000)
  (h : ∀ v' w', Own w0 B w' v' (l ++ [n]) → wpList Try.prog ops Q rest (a.put o.dst v') w') : wpList Try.prog ops Q (o :: rest) a (W.alloc (.cells #[.int .i64 n] 3)) := by
 subst hg
 obtain ⟨i0, hi, hz0, hz1, hz2⟩ := info_parts info_int
 have hb := Nat.le_trans hown.le hown.below.size
 refine wpList_append_own _ hgd s x 45 ho B 3 i0 (.int .i64 0) 1 8 Try.underlying45 hi hz0 hz1 hz2 rfl (by decide) v l.length _ hs (hown.alloc _).own ⟨W.heap.size, 0, none⟩ 1 1 [.int .i64 n] hx rfl ?_ ?_ ?_ ?_ ?_ ?_
 ·intro j u hj
  match j, hj with
  | 0, hj => simp at hj; subst hj; simp [Addr.add]
 ·intro u hu; simp at hu; subst hu; rfl
 ·unfold maxLen; omega
 ·omega
 ·simp; omega
 ·intro v' w' h1 h2 _
  refine h v' w' ⟨?_, (hown.alloc _).below.grown h2 (by simp; omega) fun k hk => (World.ownsRow.lt hown.own k hk).1, hown.le⟩
  unfold OwnI
  simpa using h1
theorem readsA_9 : readsA 9 = false := rfl
theorem readsB_9 : readsB 9 = false := rfl
theorem usesI_9 (i : In) (h : i.op = 9) : usesI i = i.args.filter (· != -1) := by unfold usesI; rw [h]; simp [readsA_9, readsB_9]
theorem usesI_n (i : In) (h : i.op ≠ 9) : usesI i = (if readsA i.op && i.a != -1 then [i.a] else []) ++ (if readsB i.op && i.b != -1 then [i.b] else []) := by unfold usesI; rw [if_neg h]; simp
theorem uses_n (i : In) (v : Value) (w : World) (hv : InV w v i) (h9 : i.op ≠ 9) :
  Calls Try.prog 98 #[v] w (RetI w (usesI i)) := by
 obtain ⟨va, rfl, hva⟩ := hv
 have H := Lib.hid (usesI_n i h9)
 have h9' : (i.op == 9) = false := by simpa using h9
 clear h9
 go_enter Try.func98, Try.ntmps98
 go_wp2_with (first | (go_at_call 121; refine (reads_c _ _).mono ?_; rintro e w' ⟨rfl, rfl⟩; have O0 := Own.nil (w0 := w.alloc (.cells #[.int .i64 i.op, .int .i64 i.d, .int .i64 i.a, .int .i64 i.b, .int .i64 i.fn, .int .i64 i.obj, .int .i64 i.off, .int .i64 i.size, .int .u32 i.num, va, .bool i.log] 58)) (B := w.heap.size + 1) (by simp)) | (at_builtin; refine app1 O1 rfl rfl rfl rfl (by first | rfl | simp) (by simp) ?_; intro v2 w2 O2; have hc2 := O2.bcell) | (at_builtin; refine app1 O0 rfl rfl rfl rfl (by first | rfl | simp) (by simp) ?_; intro v1 w1 O1; have hc1 := O1.bcell; have hz1 := O1.below.size; simp at hz1))
 all_goals
  go_ret
  first
   | (have e : usesI i = [i.a] ++ [i.b] := by rw [H.out]; simp [*]
      rw [e]
      exact O2.ret (below_alloc _ _) (by omega))
   | (have e : usesI i = [] ++ [i.a] := by rw [H.out]; simp [*]
      rw [e]
      exact O1.ret (below_alloc _ _) (by omega))
   | (have e : usesI i = [] ++ [i.b] := by rw [H.out]; simp [*]
      rw [e]
      exact O1.ret (below_alloc _ _) (by omega))
   | (have e : usesI i = [] := by rw [H.out]; simp [*]
      rw [e]
      exact O0.ret (below_alloc _ _) (by omega))
theorem take_snoc (l : List Int) (k : Nat) (h : k < l.length) : l.take (k + 1) = l.take k ++ [l.getD k 0] := by
 rw [List.take_succ_eq_append_getElem h]; simp [List.getD, h]
theorem filter_snoc_yes (p : Int → Bool) (l : List Int) (k : Nat) (h : k < l.length) (hp : p (l.getD k 0) = true) : (l.take (k + 1)).filter p = (l.take k).filter p ++ [l.getD k 0] := by
 rw [take_snoc l k h, List.filter_append, List.filter_cons, hp]; rfl
theorem filter_snoc_no (p : Int → Bool) (l : List Int) (k : Nat) (h : k < l.length) (hp : p (l.getD k 0) = false) : (l.take (k + 1)).filter p = (l.take k).filter p := by
 rw [take_snoc l k h, List.filter_append, List.filter_cons, hp]; simp
theorem filter_take_le (p : Int → Bool) (l : List Int) (k : Nat) : ((l.take k).filter p).length ≤ k := Nat.le_trans (List.length_filter_le _ _) (List.length_take_le _ _)
theorem uses_9 (i : In) (v : Value) (w : World) (hv : InV w v i) (h9 : i.op = 9) (hn : i.args.length ≤ 1000) :
  Calls Try.prog 98 #[v] w (RetI w (usesI i)) := by
 obtain ⟨va, rfl, a, c, rfl, hc1, hc2, hcell⟩ := hv
 have H := Lib.hid (usesI_9 i h9)
 have rA := readsA_9
 have rB := readsB_9
 have HC := Lib.hid hcell
 clear hcell
 go_enter Try.func98, Try.ntmps98
 go_wp2_with (go_at_call 121; refine (reads_c _ _).mono ?_; rintro e w' ⟨rfl, rfl⟩)
 go_loopw [3, 42] (fun v k wr => ∃ n : Nat, n ≤ i.args.length ∧ k = .int .i64 n ∧ Own (w.alloc (.cells #[.int .i64 9, .int .i64 i.d, .int .i64 i.a, .int .i64 i.b, .int .i64 i.fn, .int .i64 i.obj, .int .i64 i.off, .int .i64 i.size, .int .u32 i.num, .slice a i.args.length c, .bool i.log] 58)) (w.heap.size + 1) wr v ((i.args.take n).filter (· != -1)))
  (fun _ k _ => i.args.length - (intOf k).toNat)
 case atStart => exact ⟨0, Nat.zero_le _, rfl, Own.nil (by simp)⟩
 case round =>
  obtain ⟨n, hk, rfl, O⟩ := hrel
  have hl := filter_take_le (· != -1) i.args n
  by_cases hlt : n < i.args.length
  ·obtain ⟨b, o, rfl, hc⟩ := HC.out n hlt
   have hc' := O.old (Ext.alloc w _) (by simp) _ _ hc
   simp only [Nat.mul_one, Nat.add_zero] at hc'
   clear hc
   have hF1 := filter_snoc_yes (· != -1) i.args n hlt
   have hF2 := filter_snoc_no (· != -1) i.args n hlt
   generalize i.args.getD n 0 = x at hc' hF1 hF2
   by_cases hp : (x != -1) = true
   ·have HF := Lib.hid (hF1 hp)
    clear hF1 hF2
    go_wp2_with (at_builtin; refine app1 O rfl rfl rfl rfl (by simp) (by omega) ?_; intro v1 w1 O1)
    go_roundw
    case rel => exact ⟨n + 1, by omega, by go_num, by rw [HF.out]; exact O1⟩
    case measure => simp [intOf]; omega
   ·have hp : (x != -1) = false := by simpa using hp
    have HF := Lib.hid (hF2 hp)
    clear hF1 hF2
    go_wp2
    go_roundw
    case rel => exact ⟨n + 1, by omega, by go_num, by rw [HF.out]; exact O⟩
    case measure => simp [intOf]; omega
  ·have HF : Hid ((i.args.take n).filter (· != -1) = i.args.filter (· != -1)) := by show _ = _; rw [List.take_of_length_le (by omega)]
   go_wp2
   go_ret
   rw [H.out, ← HF.out]
   exact O.ret (below_alloc _ _) (by omega)
theorem uses_c (i : In) (v : Value) (w : World) (hv : InV w v i) (hn : i.args.length ≤ 1000) :
  Calls Try.prog 98 #[v] w (RetI w (usesI i)) := by
 by_cases h9 : i.op = 9
 ·exact uses_9 i v w hv h9 hn
 ·exact uses_n i v w hv h9
end Go.Proofs.Ytobfpfjdkpaeiaa

set_option linter.all false
namespace Go.Proofs.Ytobfpfjdkpaeiaa
open Go

/-- a run of operations without guards that end in values -/
def runsK (P : Program) : List Oper → Act → World → Option (Act × World)
 | [], a, w => some (a, w)
 | o :: os, a, w => match o.guard with
  | some _ => none
  | none => match (execOp a.eval o).run P w with
   | .ok (.value v) w' => runsK P os (a.put o.dst v) w'
   | .ok .skip w' => runsK P os (a.put o.dst undef) w'
   | _ => none

theorem wpList_runsK {P : Program} {ops : Array Oper} {Q : Exit → Act → World → Prop} (os : List Oper) : ∀ (rest : List Oper) (a : Act) (w : World) (a' : Act) (w' : World),
  runsK P os a w = some (a', w') → wpList P ops Q rest a' w' → wpList P ops Q (os ++ rest) a w := by
 induction os with
 | nil =>
  intro rest a w a' w' h K
  simp only [runsK, Option.some.injEq, Prod.mk.injEq] at h
  obtain ⟨rfl, rfl⟩ := h
  exact K
 | cons o os ih =>
  intro rest a w a' w' h K
  unfold runsK at h
  cases hg : o.guard with
  | some g => rw [hg] at h; cases h
  | none =>
   rw [hg] at h
   refine wpList_plain hg fun K' hK => ?_
   unfold Oper.wp
   revert h
   cases (execOp a.eval o).run P w with
   | halt x w1 => intro h; cases h
   | ok x w1 =>
    cases x <;> intro h <;> first | (exact hK _ _ (ih rest _ _ _ _ h K)) | cases h
theorem wpList_runs {P : Program} {ops : Array Oper} {Q : Exit → Act → World → Prop} {l : List Oper} {a : Act} {w : World} (n : Nat) (a' : Act) (w' : World)
  (h : runsK P (l.take n) a w = some (a', w')) (K : wpList P ops Q (l.drop n) a' w') : wpList P ops Q l a w := by
 rw [← List.take_append_drop n l]
 exact wpList_runsK _ _ _ _ _ _ h K
theorem cell_of_heap {w : World} {b : Nat} {c : Array Value} {t : TypeId} {fr : Nat × Nat} (h : w.heap[b]? = some (.cells c t fr)) (o : Nat) : w.cell? ⟨b, o, none⟩ = c[o]? := by
 simp [World.cell?, h]
theorem frozen_of_heap {w : World} {b : Nat} {c : Array Value} {t : TypeId} (h : w.heap[b]? = some (.cells c t (0, 0))) (o : Nat) : w.frozen? ⟨b, o, none⟩ = false := by
 simp [World.frozen?, h]
theorem heap_alloc (w : World) (o : Obj) (i : Nat) : (w.alloc o).heap[i]? = if i = w.heap.size then some o else w.heap[i]? := by
 show (w.heap.push o)[i]? = _
 rw [Array.getElem?_push]
end Go.Proofs.Ytobfpfjdkpaeiaa

set_option linter.all false
namespace Go.Proofs.Ytobfpfjdkpaeiaa
open Go.ChangeShapes Go.WideShapes Go.ChangeAt Go.RowKit
set_option maxHeartbeats 400000
set_option maxRecDepth 20000

def fldT : List (List Bool) := [[], [true, false, false, false, false, false, false, true, false, true], [true, true, false, false, false, false, false, false, false, true], [true, true, true, true, false, false, false, false, false, true], [true, true, false, true, false, false, false, false, false, true], [true, true, false, false, false, true, true, false, false, true], [false, true, true, false, false, true, true, false, false, true], [true, false, false, false, true, true, false, false, false, true], [true, false, false, false, true, true, false, false, false, true], [true, false, false, false, true, false, false, false, true, true], [false, true, false, false, false, false, false, false, false, false], [true, false, false, false, false, false, false, false, false, true], [false, false, false, false, false, false, false, false, false, false]]
/-- which fields an operation has -/
def fld (op : Int) (k : Nat) : Bool := (fldT.getD op.toNat []).getD k false
/-- the row of an operation in memory -/
structure FldAt (w : World) (op : Int) (g : Nat) : Prop where
 c0 : w.cell? ⟨g, 0, none⟩ = some (.bool (fld op 0))
 c1 : w.cell? ⟨g, 1, none⟩ = some (.bool (fld op 1))
 c2 : w.cell? ⟨g, 2, none⟩ = some (.bool (fld op 2))
 c3 : w.cell? ⟨g, 3, none⟩ = some (.bool (fld op 3))
 c4 : w.cell? ⟨g, 4, none⟩ = some (.bool (fld op 4))
 c5 : w.cell? ⟨g, 5, none⟩ = some (.bool (fld op 5))
 c6 : w.cell? ⟨g, 6, none⟩ = some (.bool (fld op 6))
 c7 : w.cell? ⟨g, 7, none⟩ = some (.bool (fld op 7))
 c8 : w.cell? ⟨g, 8, none⟩ = some (.bool (fld op 8))
 c9 : w.cell? ⟨g, 9, none⟩ = some (.bool (fld op 9))
theorem FldAt.ext {w w' : World} {op : Int} {g : Nat} (h : FldAt w op g) (he : Ext w w') : FldAt w' op g :=
 ⟨he _ _ h.c0, he _ _ h.c1, he _ _ h.c2, he _ _ h.c3, he _ _ h.c4, he _ _ h.c5, he _ _ h.c6, he _ _ h.c7, he _ _ h.c8, he _ _ h.c9⟩
theorem FldAt.lt {w : World} {op : Int} {g : Nat} (h : FldAt w op g) : g < w.heap.size := World.block_lt_of_cell? w ⟨g, 0, none⟩ h.c0
/-- the table's rows, laid one behind the other -/
def fldRow (k : Nat) : Array Value := ((fldT.getD k []).map Value.bool).toArray
def fw (w : World) : Nat → World
 | 0 => w
 | k + 1 => (fw w k).alloc (.cells (fldRow (k + 1)) 4)
def fv (w : World) (k : Nat) : Value := .slice (some ⟨(fw w k).heap.size, 0, none⟩) 10 10
theorem fw_size (w : World) (k : Nat) : (fw w k).heap.size = w.heap.size + k := by
 induction k with
 | zero => rfl
 | succ k ih => unfold fw; rw [World.size_alloc, ih]; omega
theorem fw_below (w : World) (k : Nat) : Below w.heap.size w (fw w k) := by
 induction k with
 | zero => exact Below.refl _ _
 | succ k ih => exact ih.alloc (by rw [fw_size]; omega) _
theorem fw_heap (w : World) (k i : Nat) (h : i < k) : (fw w k).heap[w.heap.size + i]? = some (.cells (fldRow (i + 1)) 4 (0, 0)) := by
 induction k with
 | zero => omega
 | succ k ih =>
  show ((fw w k).alloc _).heap[_]? = _
  rw [heap_alloc, fw_size]
  by_cases e : i = k
  ·subst e; rw [if_pos rfl]
  ·rw [if_neg (by omega)]; exact ih (by omega)
def fT (w : World) : World := (fw w 12).alloc (.cells #[.slice none 0 0, fv w 0, fv w 1, fv w 2, fv w 3, fv w 4, fv w 5, fv w 6, fv w 7, fv w 8, fv w 9, fv w 10, fv w 11] 37)
theorem fT_below (w : World) : Below w.heap.size w (fT w) := (fw_below w 12).alloc (by rw [fw_size]; omega) _
theorem fT_row (w : World) (i j : Nat) (h : i < 12) (hj : j < 10) : (fT w).cell? ⟨w.heap.size + i, j, none⟩ = some (.bool (fld ((i : Int) + 1) j)) := by
 have h1 : (fT w).heap[w.heap.size + i]? = some (.cells (fldRow (i + 1)) 4 (0, 0)) := by
  unfold fT
  rw [heap_alloc, fw_size, if_neg (by omega)]
  exact fw_heap w 12 i h
 rw [cell_of_heap h1]
 unfold fldRow fld
 rw [show ((i : Int) + 1).toNat = i + 1 by omega]
 have hl : (fldT.getD (i + 1) []).length = 10 := by
  have : ∀ k : Fin 12, (fldT.getD (k.val + 1) []).length = 10 := by decide
  exact this ⟨i, h⟩
 simp [List.getD, hl, hj] at hl ⊢

theorem fT_top (w : World) (i : Nat) (h : i < 12) : (fT w).cell? ⟨w.heap.size + 12, i + 1, none⟩ = some (.slice (some ⟨w.heap.size + i, 0, none⟩) 10 10) := by
 have h1 : (fT w).heap[w.heap.size + 12]? = some (.cells #[.slice none 0 0, fv w 0, fv w 1, fv w 2, fv w 3, fv w 4, fv w 5, fv w 6, fv w 7, fv w 8, fv w 9, fv w 10, fv w 11] 37 (0, 0)) := by
  unfold fT
  rw [heap_alloc, fw_size, if_pos rfl]
 rw [cell_of_heap h1]
 have hv : ∀ k, fv w k = .slice (some ⟨w.heap.size + k, 0, none⟩) 10 10 := fun k => by unfold fv; rw [fw_size]
 simp only [hv]
 have : i = 0 ∨ i = 1 ∨ i = 2 ∨ i = 3 ∨ i = 4 ∨ i = 5 ∨ i = 6 ∨ i = 7 ∨ i = 8 ∨ i = 9 ∨ i = 10 ∨ i = 11 := by omega
 rcases this with rfl | rfl | rfl | rfl | rfl | rfl | rfl | rfl | rfl | rfl | rfl | rfl <;> rfl
theorem fields_in (k : Nat) (hk : k < 12) (w : World) :
  Calls Try.prog 83 #[.int .i64 ((k : Int) + 1)] w fun e w' => e = .returned (.slice (some ⟨w.heap.size + k, 0, none⟩) 10 10) ∧ fT w = w' := by
 refine calls_of_wp Try.func83 rfl ?_
 refine wp_seq ?_
 refine wp_region_list ?_
 refine wpList_runs 1 { tmps := #[.int .i64 ((k : Int) + 1), undef, .slice none 0 0, undef, undef, undef, undef, undef, undef, undef, undef, undef, undef, undef, undef, undef, undef, undef, undef, undef, undef, undef, undef, undef, undef, undef, undef], defers := [] } w (by kernel_rfl) ?_
 show Code.wp _ _ _ _ _
 refine wp_seq ?_
 refine wp_region_list ?_
 refine wpList_runs 14 { tmps := #[.int .i64 ((k : Int) + 1), undef, .slice none 0 0, .slice (some ⟨(fw w 12).heap.size, 0, none⟩) 13 13, fv w 0, fv w 1, fv w 2, fv w 3, fv w 4, fv w 5, fv w 6, fv w 7, fv w 8, fv w 9, fv w 10, fv w 11, .slice (some ⟨(fw w 12).heap.size, 0, none⟩) 13 13, undef, undef, undef, undef, undef, undef, undef, undef, undef, undef], defers := [] } (fT w) (by kernel_rfl) ?_
 show Code.wp _ _ _ _ _
 rw [fw_size]
 have hT := fT_top w k hk
 have hI : ((k : Int) + 1).toNat = k + 1 := by omega
 have h1 : decide ((k : Int) + 1 < 1) = false := by simp; omega
 generalize fT w = W at hT ⊢
 generalize fv w 0 = x0
 generalize fv w 1 = x1
 generalize fv w 2 = x2
 generalize fv w 3 = x3
 generalize fv w 4 = x4
 generalize fv w 5 = x5
 generalize fv w 6 = x6
 generalize fv w 7 = x7
 generalize fv w 8 = x8
 generalize fv w 9 = x9
 generalize fv w 10 = x10
 generalize fv w 11 = x11
 go_wp2
 go_ret
 exact ⟨rfl, rfl⟩
theorem fields_out (op : Int) (h : op < 1 ∨ 12 < op) (w : World) :
  Calls Try.prog 83 #[.int .i64 op] w fun e w' => e = .returned (.slice none 0 0) ∧ fT w = w' := by
 refine calls_of_wp Try.func83 rfl ?_
 refine wp_seq ?_
 refine wp_region_list ?_
 refine wpList_runs 1 { tmps := #[.int .i64 op, undef, .slice none 0 0, undef, undef, undef, undef, undef, undef, undef, undef, undef, undef, undef, undef, undef, undef, undef, undef, undef, undef, undef, undef, undef, undef, undef, undef], defers := [] } w (by kernel_rfl) ?_
 show Code.wp _ _ _ _ _
 refine wp_seq ?_
 refine wp_region_list ?_
 refine wpList_runs 14 { tmps := #[.int .i64 op, undef, .slice none 0 0, .slice (some ⟨(fw w 12).heap.size, 0, none⟩) 13 13, fv w 0, fv w 1, fv w 2, fv w 3, fv w 4, fv w 5, fv w 6, fv w 7, fv w 8, fv w 9, fv w 10, fv w 11, .slice (some ⟨(fw w 12).heap.size, 0, none⟩) 13 13, undef, undef, undef, undef, undef, undef, undef, undef, undef, undef], defers := [] } (fT w) (by kernel_rfl) ?_
 show Code.wp _ _ _ _ _
 generalize fT w = W
 generalize (Value.slice (some ⟨(fw w 12).heap.size, 0, none⟩) 13 13) = x12
 generalize fv w 0 = x0
 generalize fv w 1 = x1
 generalize fv w 2 = x2
 generalize fv w 3 = x3
 generalize fv w 4 = x4
 generalize fv w 5 = x5
 generalize fv w 6 = x6
 generalize fv w 7 = x7
 generalize fv w 8 = x8
 generalize fv w 9 = x9
 generalize fv w 10 = x10
 generalize fv w 11 = x11
 rcases h with h | h
 ·go_wp2
  go_ret
  exact ⟨rfl, rfl⟩
 ·have h1 : decide (op < 1) = false := by simp; omega
  go_wp2
  go_ret
  exact ⟨rfl, rfl⟩
theorem fields_c (op : Int) (w : World) (h1 : 1 ≤ op) (h2 : op ≤ 12) :
  Calls Try.prog 83 #[.int .i64 op] w fun e w' => ∃ g, e = .returned (.slice (some ⟨g, 0, none⟩) 10 10) ∧ w.heap.size ≤ g ∧ FldAt w' op g ∧ Below w.heap.size w w' := by
 obtain ⟨k, rfl⟩ : ∃ k : Nat, op = (k : Int) + 1 := ⟨(op - 1).toNat, by omega⟩
 refine (fields_in k (by omega) w).mono fun e w' ⟨he, hw⟩ => ⟨_, he, by omega, ?_, hw ▸ fT_below w⟩
 subst hw
 have hk : k < 12 := by omega
 exact ⟨fT_row w k 0 hk (by decide), fT_row w k 1 hk (by decide), fT_row w k 2 hk (by decide), fT_row w k 3 hk (by decide), fT_row w k 4 hk (by decide), fT_row w k 5 hk (by decide), fT_row w k 6 hk (by decide), fT_row w k 7 hk (by decide), fT_row w k 8 hk (by decide), fT_row w k 9 hk (by decide)⟩
theorem fields_0 (op : Int) (w : World) (h : op < 1 ∨ 12 < op) :
  Calls Try.prog 83 #[.int .i64 op] w fun e w' => e = .returned (.slice none 0 0) ∧ Below w.heap.size w w' :=
 (fields_out op h w).mono fun e w' ⟨he, hw⟩ => ⟨he, hw ▸ fT_below w⟩
theorem fld_all : ∀ k : Fin 13, (k.val ≠ 0 → fld (k.val : Int) 0 = decide (k.val ≠ 6 ∧ k.val ≠ 10 ∧ k.val ≠ 12)) ∧ fld (k.val : Int) 1 = readsA (k.val : Int) ∧ fld (k.val : Int) 2 = readsB (k.val : Int) ∧ fld (k.val : Int) 3 = decide (k.val = 3 ∨ k.val = 4) ∧
  fld (k.val : Int) 4 = decide (k.val = 7 ∨ k.val = 8 ∨ k.val = 9) ∧ fld (k.val : Int) 5 = decide (5 ≤ k.val ∧ k.val ≤ 8) ∧ fld (k.val : Int) 6 = decide (k.val = 5 ∨ k.val = 6) ∧ fld (k.val : Int) 7 = decide (k.val = 1) ∧ fld (k.val : Int) 8 = decide (k.val = 9) ∧
  (k.val ≠ 0 → fld (k.val : Int) 9 = decide (k.val ≠ 10 ∧ k.val ≠ 12)) := by decide
end Go.Proofs.Ytobfpfjdkpaeiaa
