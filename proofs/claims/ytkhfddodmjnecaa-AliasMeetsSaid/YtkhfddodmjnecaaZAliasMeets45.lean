/-
 The document's Exact, whatever the register.; The document's answer for alias: Of.; The document's answer for alias, plain: when the count stays nothing was added.
-/
import Derived.Test.YtkhfddodmjnecaaZAliasMeets44

set_option linter.all false
namespace Go.Proofs.Ytkhfddodmjnecaa
open Go.ChangeShapes Go.WideShapes Go.ChangeAt Go.RowKit
set_option linter.unusedVariables false

theorem exact21_c (p : Pr) (r : Int) (V : Value) (w : World) (hv : PrV w V p) (hbl : p.blks.length ≤ 1000) (hil : ∀ b ∈ p.blks, b.ins.length ≤ 1000) (hol : p.objs.length ≤ 1000) (hob : ∀ b ∈ p.blks, ∀ i ∈ b.ins, i.op = 8 → 0 ≤ i.obj ∧ i.obj ≤ 1000) :
  Calls Try.prog 21 #[V, .int .i64 r] w fun e w' => e = .returned (.agg #[.int .i64 (exR p r).thing, .int .i64 (exR p r).off, .bool (exR p r).is]) ∧ Below w.heap.size w w' := by
 by_cases h : r < p.params ∨ p.regs ≤ r
 ·have e : exR p r = ⟨0, 0, false⟩ := by unfold exR; rw [if_pos h]
  rw [e]
  exact exact21_no p r V w hv h
 ·exact exact21_yes p r V w hv (by omega) (by omega) hbl hil hol hob
/-- what a right procedure's blocks owe: the numbers of global variables are small -/
theorem okM_obj8 {m : Md} {p : Pr} (h : p.blks.all (okB m p) = true) (hg : m.globs.length ≤ 1000) : ∀ b ∈ p.blks, ∀ i ∈ b.ins, i.op = 8 → 0 ≤ i.obj ∧ i.obj ≤ 1000 := by
 intro b hb i hi e8
 have hB := List.all_eq_true.1 h b hb
 unfold okB at hB
 rw [Bool.and_eq_true] at hB
 obtain ⟨-, -, hn⟩ := okI_parts (List.all_eq_true.1 hB.1 i hi)
 obtain ⟨-, -, -, hm⟩ := hn (by omega)
 have hm : (0 ≤ i.obj ∧ i.obj < m.globs.length) ∧ offF i.off = true := by simpa [moreF, e8] using hm
 omega
/-- one more register's row in the table (ref21.Of's second loop) -/
theorem AlM.push {w0 w w1 : World} {k : AlK} {x : AR} (h : AlM w0 w k x) {g c : Nat} {l : List Bool} (hr : RowB w g k.T c l) (hl : l.length = k.T) {v' : Value} (ht : TabV w1 w0.heap.size v' (k.rs.map (fun r => rowV r.1 k.T r.2) ++ [rowV g k.T c])) (hg : w.grownBy w1 k.vr.ownBlock) :
  AlM w0 (w1.setCell ⟨k.bx, 0, none⟩ v') ⟨k.bx, v', k.rs ++ [(g, c)], k.ro, k.T, k.n + 1⟩ ⟨x.regs ++ [l], x.out⟩ := by
 have hv1 : w1.heap[k.bx]? = some (.cells #[k.vr, rowV k.ro.1 k.T k.ro.2] 47) := (hg.block k.bx h.lt (fun e => h.bx_ne_tab e.symm)).trans h.hv
 have keep : ∀ {g c : Nat} {l : List Bool}, RowB w g k.T c l → RowB (w1.setCell ⟨k.bx, 0, none⟩ v') g k.T c l := fun hr => (hr.grown hg (tab_ne_row h.tab hr)).set_other _ (h.bx_ne_row hr)
 refine ⟨h.bx, heap_setCell_same _ _ 0 _ _ _ hv1, ?_, by simp [h.rl], fun r hr' => ?_, keep h.out, ⟨by simp [h.ok.rows], ?_, h.ok.out⟩, ?_⟩
 ·have hne : v'.ownBlock ≠ some k.bx := by
   intro e
   obtain ⟨cur, h2⟩ := ht.heap e
   rw [h2] at hv1
   simp at hv1
  have := ht.set_other (b := k.bx) (i := 0) v' hne
  simpa using this
 ·show RowB _ ((k.rs ++ [(g, c)]).getD r (0, 0)).1 k.T ((k.rs ++ [(g, c)]).getD r (0, 0)).2 ((x.regs ++ [l]).getD r [])
  have hr' : r < k.n + 1 := hr'
  by_cases e : r < k.n
  ·have e1 : (k.rs ++ [(g, c)]).getD r (0, 0) = k.rs.getD r (0, 0) := by simp [List.getD, List.getElem?_append, h.rl, e]
   have e2 : (x.regs ++ [l]).getD r [] = x.regs.getD r [] := by simp [List.getD, List.getElem?_append, h.ok.rows, e]
   rw [e1, e2]
   exact keep (h.row r e)
  ·obtain rfl : r = k.n := by omega
   have e1 : (k.rs ++ [(g, c)]).getD k.n (0, 0) = (g, c) := by simp [List.getD, List.getElem?_append, h.rl]
   have e2 : (x.regs ++ [l]).getD k.n [] = l := by simp [List.getD, List.getElem?_append, h.ok.rows]
   rw [e1, e2]
   exact keep hr
 ·intro l' hl'
  rcases List.mem_append.1 hl' with h1 | h1
  ·exact h.ok.row l' h1
  ·rw [List.mem_singleton] at h1
   rw [h1]; exact hl
 ·have hb := below_grown h.below hg h.below.size fun b hb => (World.ownsRow.lt h.tab b hb).1
  exact ⟨hb.os, hb.tape, hb.output, by simpa [World.setCell] using hb.size, fun j hj => (Below.heap_setCell w1 ⟨k.bx, 0, none⟩ _ j (by have := h.bx; show j ≠ k.bx; omega)).trans (hb.block j hj)⟩
end Go.Proofs.Ytkhfddodmjnecaa

set_option linter.all false
namespace Go.Proofs.Ytkhfddodmjnecaa
open Go.ChangeShapes Go.WideShapes Go.ChangeAt Go.RowKit
set_option maxHeartbeats 4000000
set_option maxRecDepth 100000
set_option linter.unusedVariables false

/-- Out while its first things are set -/
def outS (o T t : Nat) : List Bool := (List.range T).map fun i => decide (o ≤ i) && decide (i < t)
theorem outS_zero (o T : Nat) : outS o T o = List.replicate T false := by
 refine List.ext_getElem (by simp [outS]) fun i h1 h2 => ?_
 simp [outS]
theorem outS_all (o T : Nat) : outS o T T = outR o T := by
 refine List.ext_getElem (by simp [outS, outR]) fun i h1 h2 => ?_
 have : i < T := by simpa [outS] using h1
 simp [outS, outR, this]
theorem outS_succ (o T t : Nat) (ho : o ≤ t) (ht : t < T) : (outS o T t).set t true = outS o T (t + 1) := by
 refine List.ext_getElem (by simp [outS]) fun i h1 h2 => ?_
 rw [List.getElem_set]
 by_cases e : t = i
 ·subst e
  simp [outS, ho]
 ·rw [if_neg e]
  simp only [outS, List.getElem_map, List.getElem_range]
  congr 1
  rw [decide_eq_decide]
  omega
end Go.Proofs.Ytkhfddodmjnecaa

set_option linter.all false
namespace Go.Proofs.Ytkhfddodmjnecaa
set_option linter.unusedVariables false

theorem cntL_up : ∀ {a b : List Bool}, a.length = b.length → (∀ i : Nat, a.getD i false = true → b.getD i false = true) → cntL a ≤ cntL b ∧ (cntL a = cntL b → a = b)
 | [], [], _, _ => ⟨Nat.le_refl _, fun _ => rfl⟩
 | [], _ :: _, h, _ => by simp at h
 | _ :: _, [], h, _ => by simp at h
 | x :: a, y :: b, h, hu => by
  have ih := cntL_up (a := a) (b := b) (by simpa using h) fun i hi => by have := hu (i + 1); simp only [List.getD_cons_succ] at this; exact this hi
  have h0 := hu 0
  simp only [List.getD_cons_zero] at h0
  unfold cntL at ih ⊢
  simp only [List.countP_cons, id]
  cases x <;> cases y
  ·simp only [Bool.false_eq_true, if_false, Nat.add_zero]
   exact ⟨ih.1, fun e => by rw [ih.2 e]⟩
  ·simp only [Bool.false_eq_true, if_false, Nat.add_zero, if_true]
   exact ⟨by omega, fun e => by omega⟩
  ·exact absurd (h0 rfl) (by decide)
  ·simp only [if_true]
   exact ⟨by omega, fun e => by rw [ih.2 (by omega)]⟩
theorem cnts_up : ∀ {a b : List (List Bool)}, a.length = b.length → (∀ r : Nat, r < a.length → (a.getD r []).length = (b.getD r []).length) → (∀ r i : Nat, r < a.length → (a.getD r []).getD i false = true → (b.getD r []).getD i false = true) → (a.map cntL).sum ≤ (b.map cntL).sum ∧ ((a.map cntL).sum = (b.map cntL).sum → a = b)
 | [], [], _, _, _ => ⟨Nat.le_refl _, fun _ => rfl⟩
 | [], _ :: _, h, _, _ => by simp at h
 | _ :: _, [], h, _, _ => by simp at h
 | x :: a, y :: b, h, hl, hu => by
  have ih := cnts_up (a := a) (b := b) (by simpa using h) (fun r hr => by have := hl (r + 1) (by simpa using hr); simpa only [List.getD_cons_succ] using this) fun r i hr hi => by have := hu (r + 1) i (by simpa using hr); simp only [List.getD_cons_succ] at this; exact this hi
  have h0 := cntL_up (a := x) (b := y) (by have := hl 0 (by simp); simpa using this) fun i hi => by have := hu 0 i (by simp); simp only [List.getD_cons_zero] at this; exact this hi
  simp only [List.map_cons, List.sum_cons]
  exact ⟨by omega, fun e => by rw [h0.2 (by omega), ih.2 (by omega)]⟩
theorem AR.count_up {x y : AR} {n T : Nat} (hx : x.Ok n T) (hy : y.Ok n T) (h : ∀ o t, (∀ r, o = some r → r < n) → x.sem o t → y.sem o t) : x.count ≤ y.count ∧ (x.count = y.count → x = y) := by
 obtain ⟨xr, xo⟩ := x
 obtain ⟨yr, yo⟩ := y
 have hxr : xr.length = n := hx.rows
 have hyr : yr.length = n := hy.rows
 have h1 := cnts_up (a := xr) (b := yr) (by rw [hxr, hyr]) (fun r hr => by
  rw [hxr] at hr
  have a1 := hx.get (some r) fun q e => by cases e; exact hr
  have a2 := hy.get (some r) fun q e => by cases e; exact hr
  exact a1.trans a2.symm) fun r i hr hi => h (some r) i (fun q e => by cases e; rw [hxr] at hr; exact hr) hi
 have h2 := cntL_up (a := xo) (b := yo) (hx.out.trans hy.out.symm) fun i hi => h none i (fun q e => by cases e) hi
 unfold AR.count
 dsimp only
 exact ⟨by omega, fun e => by rw [h1.2 (by omega), h2.2 (by omega)]⟩
theorem AR.count_le {x : AR} {n T : Nat} (hx : x.Ok n T) : x.count ≤ (n + 1) * T := by
 have h1 : x.count = cntS x n + cntL x.out := by
  unfold AR.count cntS
  rw [List.take_of_length_le (by rw [hx.rows]; exact Nat.le_refl _)]
 have h2 := cntS_le hx n (Nat.le_refl _)
 have h3 := cntL_le x.out
 rw [hx.out] at h3
 rw [h1, Nat.succ_mul]
 omega
theorem AR.End.start (p : Pr) (T : Nat) : (AR.start p T).End p T := ⟨AR.start_ok p T, fun _ _ _ h => h, fun S _ h2 o t ho ht => h2 o t ho ht⟩
/-- what a right procedure's blocks ask -/
structure ConsOk (p : Pr) (T : Nat) : Prop where
 inn : ∀ c ∈ conP p, c.inn p.regs.toNat
 thing : ∀ c ∈ conP p, c.thing T
theorem ConsOk.r_inn {p : Pr} {T : Nat} (h : ConsOk p T) : ∀ c ∈ conPR p, c.inn p.regs.toNat := fun c hc => h.inn c ((mem_conPR p c).1 hc)
theorem ConsOk.r_thing {p : Pr} {T : Nat} (h : ConsOk p T) : ∀ c ∈ conPR p, c.thing T := fun c hc => h.thing c ((mem_conPR p c).1 hc)
theorem AR.End.pass {p : Pr} {T : Nat} {x : AR} (h : x.End p T) (hc : ConsOk p T) : (x.pass (conPR p)).End p T :=
 ⟨h.ok.pass hc.r_inn, fun o t ho hs => AR.pass_up h.ok hc.r_inn hc.r_thing o t ho (h.up o t ho hs), fun S h1 h2 => AR.pass_in h.ok hc.r_inn hc.r_thing (fun c hcc => h1 c ((mem_conPR p c).1 hcc)) (h.lo S h1 h2)⟩
theorem AR.End.more {p : Pr} {T : Nat} {x : AR} (h : x.End p T) (hc : ConsOk p T) : x.count ≤ (x.pass (conPR p)).count :=
 (AR.count_up h.ok (h.pass hc).ok fun o t ho hs => AR.pass_up h.ok hc.r_inn hc.r_thing o t ho hs).1
theorem AR.End.rest {p : Pr} {T : Nat} {x : AR} (h : x.End p T) (hc : ConsOk p T) (e : (x.pass (conPR p)).count = x.count) : x.pass (conPR p) = x ∧ ∀ c ∈ conP p, c.holds fun o t => (∀ r, o = some r → r < p.regs.toNat) ∧ x.sem o t := by
 have h1 := (AR.count_up h.ok (h.pass hc).ok fun o t ho hs => AR.pass_up h.ok hc.r_inn hc.r_thing o t ho hs).2 e.symm
 refine ⟨h1.symm, fun c hcc => ?_⟩
 exact AR.pass_no h.ok hc.r_inn hc.r_thing (fun o t ho hs => by rw [← h1] at hs; exact hs) c ((mem_conPR p c).2 hcc)
end Go.Proofs.Ytkhfddodmjnecaa
