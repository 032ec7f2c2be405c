/-
 Contracts of the functions of ir that tell of one instruction and one block.; Contracts of the functions of ir and of the reference that hand back lists of registers and blocks.; Operations that only reckon: a run of them, evaluated by the kernel, is one step of a walk.
-/
import Derived.Test.YtedihiodmgnlpaaRows
import Derived.WalkKit
import Derived.ProofKit
import Derived.Outline
import Derived.Lib.Hide
import Derived.Test.YtedihiodmgnlpaaZIrrunRuns00

set_option linter.all false
namespace Go.Proofs.Ytedihiodmgnlpaa
open Go.ChangeShapes Go.WideShapes Go.ChangeAt Go.RowKit
set_option maxHeartbeats 400000

theorem ret_i {k : IntKind} {a b : Int} (h : a = b) : Ending.returned (.int k a) = .returned (.int k b) := by rw [h]
theorem ret_b {a b : Bool} (h : a = b) : Ending.returned (.bool a) = .returned (.bool b) := by rw [h]
theorem below_alloc (w : World) (o : Obj) : Below w.heap.size w (w.alloc o) := Below.alloc (Below.refl _ _) (Nat.le_refl _) o
theorem def_c (i : In) (v : Value) (w : World) (hv : InV w v i) :
  Calls Try.prog 148 #[v] w fun e w' => e = .returned (.int .i64 (defI i)) ∧ Below w.heap.size w w' := by
 obtain ⟨va, rfl, hva⟩ := hv
 go_enter Try.func148, Try.ntmps148
 go_wp2
 all_goals
  go_ret
  simp only [beq_iff_eq, beq_eq_false_iff_ne, ne_eq] at *
  exact ⟨ret_i (by unfold defI; first | rw [if_pos (by omega)] | rw [if_neg (by omega)]), below_alloc _ _⟩
theorem reads_c (op : Int) (w : World) :
  Calls Try.prog 141 #[.int .i64 op] w fun e w' => e = .returned (.tuple #[.bool (readsA op), .bool (readsB op)]) ∧ w = w' := by
 go_enter Try.func141, Try.ntmps141
 go_wp2
 all_goals
  go_ret2
  refine ⟨?_, rfl⟩
  unfold readsA readsB
  simp [*]
end Go.Proofs.Ytedihiodmgnlpaa

set_option linter.all false
namespace Go.Proofs.Ytedihiodmgnlpaa
open Go.ChangeShapes Go.WideShapes Go.ChangeAt Go.RowKit
set_option maxHeartbeats 400000
set_option maxRecDepth 10000

/-- a list of integers in a row of the call's own (from block 'base' on) -/
def OwnI (w : World) (base : Nat) (v : Value) (l : List Int) : Prop := w.ownsRow base 3 1 v l.length (l.map (Value.int .i64))
theorem OwnI.nil (w : World) (base : Nat) : OwnI w base (.slice none 0 0) [] := World.ownsRow_nil _ _ _ _
theorem OwnI.mk (w : World) (base : Nat) (l : List Int) (hb : base ≤ w.heap.size) (hl : l.length ≤ maxLen) : OwnI (w.alloc (.cells (l.map (Value.int .i64)).toArray 3)) base (.slice (some ⟨w.heap.size, 0, none⟩) l.length l.length) l :=
 ⟨by simp, .inr ⟨w.heap.size, l.length, _, rfl, hb, heap_alloc_new w _, Nat.le_refl _, hl, by simp, by rw [Nat.mul_one]; simpa using List.take_length (l := l.map (Value.int .i64))⟩⟩
theorem OwnI.mk1 {w : World} {base g : Nat} {x : Int} (hg : g = w.heap.size) (hb : base ≤ g) : OwnI (w.alloc (.cells #[.int .i64 x] 3)) base (.slice (some ⟨g, 0, none⟩) 1 1) [x] := by subst hg; exact OwnI.mk w base [x] hb (by simp [maxLen])
theorem OwnI.mk2 {w : World} {base g : Nat} {x y : Int} (hg : g = w.heap.size) (hb : base ≤ g) : OwnI (w.alloc (.cells #[.int .i64 x, .int .i64 y] 3)) base (.slice (some ⟨g, 0, none⟩) 2 2) [x, y] := by subst hg; exact OwnI.mk w base [x, y] hb (by simp [maxLen])
theorem OwnI.rd {w : World} {base : Nat} {v : Value} {l : List Int} (h : OwnI w base v l) : RdI w v l := by
 obtain ⟨h1, ⟨rfl, h2⟩ | ⟨g, cap, cur, rfl, hb, hg, hn, hc, hcs, ht⟩⟩ := h
 ·have : l = [] := List.eq_nil_of_length_eq_zero h2
  subst this
  exact ⟨none, 0, rfl, Nat.le_refl _, by simp [maxLen], fun i hi => absurd hi (by simp)⟩
 ·refine ⟨_, _, rfl, hn, hc, fun i hi => ⟨g, 0, rfl, ?_⟩⟩
  have h3 : (l.map (Value.int .i64))[i]? = some (.int .i64 (l.getD i 0)) := by
   rw [List.getElem?_map, List.getElem?_eq_getElem hi]; simp [List.getD, hi]
  rw [← ht, List.getElem?_take] at h3
  split at h3
  ·simp only [Nat.zero_add, Nat.mul_one, Nat.add_zero]
   rw [World.cell?]
   simp only [hg]
   simpa using h3
  ·cases h3
/-- what a call hands back that makes a list of its own -/
def RetI (w : World) (l : List Int) (e : Ending) (w' : World) : Prop := ∃ v, e = .returned v ∧ OwnI w' w.heap.size v l ∧ Below w.heap.size w w'

theorem outsB_1 (b : Bk) (h : b.fin = 1 ∨ b.fin = 2 ∧ b.to = b.els) : outsB b = [b.to] := by unfold outsB; rw [if_pos h]
theorem outsB_2 (b : Bk) (h : ¬ (b.fin = 1 ∨ b.fin = 2 ∧ b.to = b.els)) (h2 : b.fin = 2) : outsB b = [b.to, b.els] := by unfold outsB; rw [if_neg h, if_pos h2]
theorem outsB_3 (b : Bk) (h : b.fin ≠ 1) (h2 : b.fin ≠ 2) : outsB b = [] := by unfold outsB; rw [if_neg (by omega), if_neg h2]
theorem info_int : (Try.prog.info? 3).map (fun i => (i.zero, i.size, i.bytes)) = some (some (.int .i64 0), 1, 8) := by kernel_rfl
/-- a list of the call's own, and the world that was behind block B untouched since w0 -/
structure Own (w0 : World) (B : Nat) (w : World) (v : Value) (l : List Int) : Prop where
 own : OwnI w B v l
 below : Below B w0 w
 le : B ≤ w0.heap.size
theorem Own.nil {w0 : World} {B : Nat} (h : B ≤ w0.heap.size) : Own w0 B w0 (.slice none 0 0) [] := ⟨OwnI.nil _ _, Below.refl _ _, h⟩
theorem Own.alloc {w0 w : World} {B : Nat} {v : Value} {l : List Int} (h : Own w0 B w v l) (o : Obj) : Own w0 B (w.alloc o) v l :=
 ⟨World.ownsRow.alloc h.own o, h.below.alloc (Nat.le_trans h.le h.below.size) o, h.le⟩
theorem OwnI.base {w : World} {B B' : Nat} {v : Value} {l : List Int} (h : OwnI w B v l) (hB : B' ≤ B) : OwnI w B' v l := by
 obtain ⟨h1, h2 | ⟨g, cap, cur, h3, hb, r⟩⟩ := h
 ·exact ⟨h1, .inl h2⟩
 ·exact ⟨h1, .inr ⟨g, cap, cur, h3, Nat.le_trans hB hb, r⟩⟩
theorem Own.bcell {w0 w : World} {B : Nat} {v : Value} {l : List Int} (h : Own w0 B w v l) : ∀ b o, b < B → w.cell? ⟨b, o, none⟩ = w0.cell? ⟨b, o, none⟩ := fun b o hb => h.below.cell (p := ⟨b, o, none⟩) hb
theorem Own.bfrozen {w0 w : World} {B : Nat} {v : Value} {l : List Int} (h : Own w0 B w v l) : ∀ b o, b < B → w.frozen? ⟨b, o, none⟩ = w0.frozen? ⟨b, o, none⟩ := fun b o hb => h.below.frozen (p := ⟨b, o, none⟩) hb
theorem Own.old {w' w0 w : World} {B : Nat} {v : Value} {l : List Int} (h : Own w0 B w v l) (hw : Ext w' w0) (hB : w'.heap.size ≤ B) : Ext w' w := fun a u hu =>
 (h.below.cell (p := a) (Nat.lt_of_lt_of_le (World.block_lt_of_cell? w' a hu) hB)).trans (hw a u hu)
theorem Own.ret {w0 w w1 : World} {B : Nat} {v : Value} {l : List Int} (h : Own w0 B w1 v l) (hb : Below w.heap.size w w0) (hB : w.heap.size ≤ B) : RetI w l (.returned v) w1 :=
 ⟨v, rfl, h.own.base hB, hb.trans (h.below.mono hB)⟩
/-- the law of append for a list of integers of the call's own: one more -/
theorem app1 {ops : Array Oper} {rest : List Oper} {o : Oper} {a : Act} {W w0 : World} {B : Nat} {v : Value} {l : List Int} {n : Int} {g : Nat} {Q : Exit → Act → World → Prop} {s x : Operand} (hown : Own w0 B W v l) (hgd : o.guard = none)
  (ho : o.op = .call { callee := .builtin .append, args := #[s, x], argTypes := #[26, 26] }) (hs : a.eval s = v)
  (hx : a.eval x = .slice (some ⟨g, 0, none⟩) 1 1) (hg : g = W.heap.size) (hlen : l.length ≤ 1000000000)
  (h : ∀ v' w', Own w0 B w' v' (l ++ [n]) → wpList Try.prog ops Q rest (a.put o.dst v') w') : wpList Try.prog ops Q (o :: rest) a (W.alloc (.cells #[.int .i64 n] 3)) := by
 subst hg
 obtain ⟨i0, hi, hz0, hz1, hz2⟩ := info_parts info_int
 have hb := Nat.le_trans hown.le hown.below.size
 refine wpList_append_own _ hgd s x 26 ho B 3 i0 (.int .i64 0) 1 8 Try.underlying26 hi hz0 hz1 hz2 rfl (by decide) v l.length _ hs (hown.alloc _).own ⟨W.heap.size, 0, none⟩ 1 1 [.int .i64 n] hx rfl ?_ ?_ ?_ ?_ ?_ ?_
 ·intro j u hj
  match j, hj with
  | 0, hj => simp at hj; subst hj; simp [Addr.add]
 ·intro u hu; simp at hu; subst hu; rfl
 ·unfold maxLen; omega
 ·omega
 ·simp; omega
 ·intro v' w' h1 h2 _
  refine h v' w' ⟨?_, (hown.alloc _).below.grown h2 (by simp; omega) fun k hk => (World.ownsRow.lt hown.own k hk).1, hown.le⟩
  unfold OwnI
  simpa using h1
theorem readsA_9 : readsA 9 = false := rfl
theorem readsB_9 : readsB 9 = false := rfl
theorem usesI_9 (i : In) (h : i.op = 9) : usesI i = i.args.filter (· != -1) := by unfold usesI; rw [h]; simp [readsA_9, readsB_9]
theorem usesI_n (i : In) (h : i.op ≠ 9) : usesI i = (if readsA i.op && i.a != -1 then [i.a] else []) ++ (if readsB i.op && i.b != -1 then [i.b] else []) := by unfold usesI; rw [if_neg h]; simp
theorem take_snoc (l : List Int) (k : Nat) (h : k < l.length) : l.take (k + 1) = l.take k ++ [l.getD k 0] := by
 rw [List.take_succ_eq_append_getElem h]; simp [List.getD, h]
theorem filter_snoc_yes (p : Int → Bool) (l : List Int) (k : Nat) (h : k < l.length) (hp : p (l.getD k 0) = true) : (l.take (k + 1)).filter p = (l.take k).filter p ++ [l.getD k 0] := by
 rw [take_snoc l k h, List.filter_append, List.filter_cons, hp]; rfl
theorem filter_snoc_no (p : Int → Bool) (l : List Int) (k : Nat) (h : k < l.length) (hp : p (l.getD k 0) = false) : (l.take (k + 1)).filter p = (l.take k).filter p := by
 rw [take_snoc l k h, List.filter_append, List.filter_cons, hp]; simp
theorem filter_take_le (p : Int → Bool) (l : List Int) (k : Nat) : ((l.take k).filter p).length ≤ k := Nat.le_trans (List.length_filter_le _ _) (List.length_take_le _ _)
end Go.Proofs.Ytedihiodmgnlpaa

set_option linter.all false
namespace Go.Proofs.Ytedihiodmgnlpaa
open Go

/-- a run of operations without guards that end in values -/
def runsK (P : Program) : List Oper → Act → World → Option (Act × World)
 | [], a, w => some (a, w)
 | o :: os, a, w => match o.guard with
  | some _ => none
  | none => match (execOp a.eval o).run P w with
   | .ok (.value v) w' => runsK P os (a.put o.dst v) w'
   | .ok .skip w' => runsK P os (a.put o.dst undef) w'
   | _ => none

theorem wpList_runsK {P : Program} {ops : Array Oper} {Q : Exit → Act → World → Prop} (os : List Oper) : ∀ (rest : List Oper) (a : Act) (w : World) (a' : Act) (w' : World),
  runsK P os a w = some (a', w') → wpList P ops Q rest a' w' → wpList P ops Q (os ++ rest) a w := by
 induction os with
 | nil =>
  intro rest a w a' w' h K
  simp only [runsK, Option.some.injEq, Prod.mk.injEq] at h
  obtain ⟨rfl, rfl⟩ := h
  exact K
 | cons o os ih =>
  intro rest a w a' w' h K
  unfold runsK at h
  cases hg : o.guard with
  | some g => rw [hg] at h; cases h
  | none =>
   rw [hg] at h
   refine wpList_plain hg fun K' hK => ?_
   unfold Oper.wp
   revert h
   cases (execOp a.eval o).run P w with
   | halt x w1 => intro h; cases h
   | ok x w1 =>
    cases x <;> intro h <;> first | (exact hK _ _ (ih rest _ _ _ _ h K)) | cases h
theorem wpList_runs {P : Program} {ops : Array Oper} {Q : Exit → Act → World → Prop} {l : List Oper} {a : Act} {w : World} (n : Nat) (a' : Act) (w' : World)
  (h : runsK P (l.take n) a w = some (a', w')) (K : wpList P ops Q (l.drop n) a' w') : wpList P ops Q l a w := by
 rw [← List.take_append_drop n l]
 exact wpList_runsK _ _ _ _ _ _ h K
theorem cell_of_heap {w : World} {b : Nat} {c : Array Value} {t : TypeId} {fr : Nat × Nat} (h : w.heap[b]? = some (.cells c t fr)) (o : Nat) : w.cell? ⟨b, o, none⟩ = c[o]? := by
 simp [World.cell?, h]
theorem frozen_of_heap {w : World} {b : Nat} {c : Array Value} {t : TypeId} (h : w.heap[b]? = some (.cells c t (0, 0))) (o : Nat) : w.frozen? ⟨b, o, none⟩ = false := by
 simp [World.frozen?, h]
theorem heap_alloc (w : World) (o : Obj) (i : Nat) : (w.alloc o).heap[i]? = if i = w.heap.size then some o else w.heap[i]? := by
 show (w.heap.push o)[i]? = _
 rw [Array.getElem?_push]
end Go.Proofs.Ytedihiodmgnlpaa
