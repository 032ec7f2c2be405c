/-
 The document's answer for alias: rows of bools that are made anew (join, with).; The document's answer for alias: the struct All in memory while it is reckoned.; The document's answer for alias: how many things all lists have.; The document's answer for alias: what an instruction adds.; The document's answer for alias: what a call adds.; The document's answer for alias: instructions that add nothing; any instruction.; The document's exact places: the walk of Exact.; The document's Exact, whatever the register.; The document's answer for alias: Of.; The document's answer for alias, plain: when the count stays nothing was added.; What stands in procedures that are right; rows of numbers, one by one.; A call's frame in memory beside the runner; what an instruction leaves as it was.; Contracts of (*irrun.runner).ins, operation by operation (but calls).; Contracts of (*irrun.runner).ins: loads, stores, places, what is put out and taken.; Contracts of (*irrun.runner).ins: places of objects and globals, what is put out and taken, marks.; A call within a run: what it must do, against the machine of single steps; the contract of into.; The contract of (*irrun.runner).into, given what calls with less fuel do.; The contract of (*irrun.runner).ins: any instruction that is right.
-/
import Derived.Test.YtkhfddodmjnecaaGreatDoorZFoldKnown02
import Derived.Test.YtkhfddodmjnecaaGreatDoorZFoldKnown15
import Derived.Test.YtkhfddodmjnecaaGreatDoorZFoldKnown12
import Derived.Test.YtkhfddodmjnecaaGreatDoorZFoldKnown04
import Derived.Test.YtkhfddodmjnecaaGreatDoorZFoldKnown19
import Derived.Test.YtkhfddodmjnecaaGreatDoorZFoldKnown13
import Derived.Test.YtkhfddodmjnecaaGreatDoorZFoldKnown01
import Derived.Test.YtkhfddodmjnecaaGreatDoorZFoldKnown18
import Derived.Test.YtkhfddodmjnecaaGreatDoorZFoldKnown14
import Derived.IntWalk

set_option linter.all false
namespace Go.Proofs.YtkhfddodmjnecaaGreatDoor
open Go.ChangeShapes Go.WideShapes Go.ChangeAt Go.RowKit
set_option maxHeartbeats 4000000
set_option maxRecDepth 100000
set_option linter.unusedVariables false

end Go.Proofs.YtkhfddodmjnecaaGreatDoor

set_option linter.all false
namespace Go.Proofs.YtkhfddodmjnecaaGreatDoor
open Go.ChangeShapes Go.WideShapes Go.ChangeAt Go.RowKit
set_option maxHeartbeats 4000000
set_option maxRecDepth 100000
set_option linter.unusedVariables false

structure AlK where
 bx : Nat
 vr : Value
 rs : List (Nat × Nat)
 ro : Nat × Nat
 T : Nat
 n : Nat
def AlK.setO (k : AlK) (g c : Nat) : AlK := ⟨k.bx, k.vr, k.rs, (g, c), k.T, k.n⟩
theorem RowB.set_other {w : World} {g n c : Nat} {l : List Bool} (h : RowB w g n c l) {b i : Nat} (v : Value) (hb : b ≠ g) : RowB (w.setCell ⟨b, i, none⟩ v) g n c l := by
 obtain ⟨h1, h2 | ⟨g', cap, cur, h3, h4, h5, r⟩⟩ := h
 ·exact ⟨h1, .inl h2⟩
 ·refine ⟨h1, .inr ⟨g', cap, cur, h3, h4, (Below.heap_setCell w ⟨b, i, none⟩ v g' ?_).trans h5, r⟩⟩
  simp only [Value.slice.injEq, Option.some.injEq, Addr.mk.injEq] at h3
  intro e
  have : g' = b := e
  omega
theorem TabV.set_other {w : World} {B : Nat} {tv : Value} {L : List Value} (h : TabV w B tv L) {b i : Nat} (v : Value) (hb : tv.ownBlock ≠ some b) : TabV (w.setCell ⟨b, i, none⟩ v) B tv L := by
 obtain ⟨h1, h2 | ⟨g', cap, cur, rfl, h4, h5, r⟩⟩ := h
 ·exact ⟨h1, .inl h2⟩
 ·refine ⟨h1, .inr ⟨g', cap, cur, rfl, h4, (Below.heap_setCell w ⟨b, i, none⟩ v g' ?_).trans h5, r⟩⟩
  intro e
  exact hb (by simp only [Value.ownBlock, Option.some.injEq]; exact e)
end Go.Proofs.YtkhfddodmjnecaaGreatDoor

set_option linter.all false
namespace Go.Proofs.YtkhfddodmjnecaaGreatDoor
open Go.ChangeShapes Go.WideShapes Go.ChangeAt Go.RowKit
set_option maxHeartbeats 4000000
set_option maxRecDepth 100000
set_option linter.unusedVariables false

end Go.Proofs.YtkhfddodmjnecaaGreatDoor

set_option linter.all false
namespace Go.Proofs.YtkhfddodmjnecaaGreatDoor
open Go.ChangeShapes Go.WideShapes Go.ChangeAt Go.RowKit
set_option maxHeartbeats 4000000
set_option maxRecDepth 100000
set_option linter.unusedVariables false

end Go.Proofs.YtkhfddodmjnecaaGreatDoor

set_option linter.all false
namespace Go.Proofs.YtkhfddodmjnecaaGreatDoor
open Go.ChangeShapes Go.WideShapes Go.ChangeAt Go.RowKit
set_option maxHeartbeats 4000000
set_option maxRecDepth 100000
set_option linter.unusedVariables false

end Go.Proofs.YtkhfddodmjnecaaGreatDoor

set_option linter.all false
namespace Go.Proofs.YtkhfddodmjnecaaGreatDoor
open Go.ChangeShapes Go.WideShapes Go.ChangeAt Go.RowKit
set_option maxHeartbeats 4000000
set_option maxRecDepth 100000
set_option linter.unusedVariables false

end Go.Proofs.YtkhfddodmjnecaaGreatDoor

set_option linter.all false
namespace Go.Proofs.YtkhfddodmjnecaaGreatDoor
open Go.ChangeShapes Go.WideShapes Go.ChangeAt Go.RowKit
set_option maxHeartbeats 4000000
set_option maxRecDepth 100000
set_option linter.unusedVariables false

end Go.Proofs.YtkhfddodmjnecaaGreatDoor

set_option linter.all false
namespace Go.Proofs.YtkhfddodmjnecaaGreatDoor
open Go.ChangeShapes Go.WideShapes Go.ChangeAt Go.RowKit
set_option linter.unusedVariables false

end Go.Proofs.YtkhfddodmjnecaaGreatDoor

set_option linter.all false
namespace Go.Proofs.YtkhfddodmjnecaaGreatDoor
open Go.ChangeShapes Go.WideShapes Go.ChangeAt Go.RowKit
set_option maxHeartbeats 4000000
set_option maxRecDepth 100000
set_option linter.unusedVariables false

end Go.Proofs.YtkhfddodmjnecaaGreatDoor

set_option linter.all false
namespace Go.Proofs.YtkhfddodmjnecaaGreatDoor
set_option linter.unusedVariables false

theorem cntL_up : ∀ {a b : List Bool}, a.length = b.length → (∀ i : Nat, a.getD i false = true → b.getD i false = true) → cntL a ≤ cntL b ∧ (cntL a = cntL b → a = b)
 | [], [], _, _ => ⟨Nat.le_refl _, fun _ => rfl⟩
 | [], _ :: _, h, _ => by simp at h
 | _ :: _, [], h, _ => by simp at h
 | x :: a, y :: b, h, hu => by
  have ih := cntL_up (a := a) (b := b) (by simpa using h) fun i hi => by have := hu (i + 1); simp only [List.getD_cons_succ] at this; exact this hi
  have h0 := hu 0
  simp only [List.getD_cons_zero] at h0
  unfold cntL at ih ⊢
  simp only [List.countP_cons, id]
  cases x <;> cases y
  ·simp only [Bool.false_eq_true, if_false, Nat.add_zero]
   exact ⟨ih.1, fun e => by rw [ih.2 e]⟩
  ·simp only [Bool.false_eq_true, if_false, Nat.add_zero, if_true]
   exact ⟨by omega, fun e => by omega⟩
  ·exact absurd (h0 rfl) (by decide)
  ·simp only [if_true]
   exact ⟨by omega, fun e => by rw [ih.2 (by omega)]⟩
theorem cnts_up : ∀ {a b : List (List Bool)}, a.length = b.length → (∀ r : Nat, r < a.length → (a.getD r []).length = (b.getD r []).length) → (∀ r i : Nat, r < a.length → (a.getD r []).getD i false = true → (b.getD r []).getD i false = true) → (a.map cntL).sum ≤ (b.map cntL).sum ∧ ((a.map cntL).sum = (b.map cntL).sum → a = b)
 | [], [], _, _, _ => ⟨Nat.le_refl _, fun _ => rfl⟩
 | [], _ :: _, h, _, _ => by simp at h
 | _ :: _, [], h, _, _ => by simp at h
 | x :: a, y :: b, h, hl, hu => by
  have ih := cnts_up (a := a) (b := b) (by simpa using h) (fun r hr => by have := hl (r + 1) (by simpa using hr); simpa only [List.getD_cons_succ] using this) fun r i hr hi => by have := hu (r + 1) i (by simpa using hr); simp only [List.getD_cons_succ] at this; exact this hi
  have h0 := cntL_up (a := x) (b := y) (by have := hl 0 (by simp); simpa using this) fun i hi => by have := hu 0 i (by simp); simp only [List.getD_cons_zero] at this; exact this hi
  simp only [List.map_cons, List.sum_cons]
  exact ⟨by omega, fun e => by rw [h0.2 (by omega), ih.2 (by omega)]⟩
theorem AR.count_up {x y : AR} {n T : Nat} (hx : x.Ok n T) (hy : y.Ok n T) (h : ∀ o t, (∀ r, o = some r → r < n) → x.sem o t → y.sem o t) : x.count ≤ y.count ∧ (x.count = y.count → x = y) := by
 obtain ⟨xr, xo⟩ := x
 obtain ⟨yr, yo⟩ := y
 have hxr : xr.length = n := hx.rows
 have hyr : yr.length = n := hy.rows
 have h1 := cnts_up (a := xr) (b := yr) (by rw [hxr, hyr]) (fun r hr => by
  rw [hxr] at hr
  have a1 := hx.get (some r) fun q e => by cases e; exact hr
  have a2 := hy.get (some r) fun q e => by cases e; exact hr
  exact a1.trans a2.symm) fun r i hr hi => h (some r) i (fun q e => by cases e; rw [hxr] at hr; exact hr) hi
 have h2 := cntL_up (a := xo) (b := yo) (hx.out.trans hy.out.symm) fun i hi => h none i (fun q e => by cases e) hi
 unfold AR.count
 dsimp only
 exact ⟨by omega, fun e => by rw [h1.2 (by omega), h2.2 (by omega)]⟩
theorem AR.End.start (p : Pr) (T : Nat) : (AR.start p T).End p T := ⟨AR.start_ok p T, fun _ _ _ h => h, fun S _ h2 o t ho ht => h2 o t ho ht⟩
/-- what a right procedure's blocks ask -/
structure ConsOk (p : Pr) (T : Nat) : Prop where
 inn : ∀ c ∈ conP p, c.inn p.regs.toNat
 thing : ∀ c ∈ conP p, c.thing T
theorem ConsOk.r_inn {p : Pr} {T : Nat} (h : ConsOk p T) : ∀ c ∈ conPR p, c.inn p.regs.toNat := fun c hc => h.inn c ((mem_conPR p c).1 hc)
theorem ConsOk.r_thing {p : Pr} {T : Nat} (h : ConsOk p T) : ∀ c ∈ conPR p, c.thing T := fun c hc => h.thing c ((mem_conPR p c).1 hc)
theorem AR.End.pass {p : Pr} {T : Nat} {x : AR} (h : x.End p T) (hc : ConsOk p T) : (x.pass (conPR p)).End p T :=
 ⟨h.ok.pass hc.r_inn, fun o t ho hs => AR.pass_up h.ok hc.r_inn hc.r_thing o t ho (h.up o t ho hs), fun S h1 h2 => AR.pass_in h.ok hc.r_inn hc.r_thing (fun c hcc => h1 c ((mem_conPR p c).1 hcc)) (h.lo S h1 h2)⟩
theorem AR.End.rest {p : Pr} {T : Nat} {x : AR} (h : x.End p T) (hc : ConsOk p T) (e : (x.pass (conPR p)).count = x.count) : x.pass (conPR p) = x ∧ ∀ c ∈ conP p, c.holds fun o t => (∀ r, o = some r → r < p.regs.toNat) ∧ x.sem o t := by
 have h1 := (AR.count_up h.ok (h.pass hc).ok fun o t ho hs => AR.pass_up h.ok hc.r_inn hc.r_thing o t ho hs).2 e.symm
 refine ⟨h1.symm, fun c hcc => ?_⟩
 exact AR.pass_no h.ok hc.r_inn hc.r_thing (fun o t ho hs => by rw [← h1] at hs; exact hs) c ((mem_conPR p c).2 hcc)
end Go.Proofs.YtkhfddodmjnecaaGreatDoor

set_option linter.all false
namespace Go.Proofs.YtkhfddodmjnecaaGreatDoor
open Go Go.RowKit
set_option linter.unusedVariables false

structure Head (p : Pr) : Prop where
 p0 : 0 ≤ p.params
 p6 : p.params ≤ 6
 pr : p.params ≤ p.regs
 r8 : p.regs ≤ 8000
 ol : p.objs.length ≤ 400
 b1 : 1 ≤ p.blks.length
 b4 : p.blks.length ≤ 4000
 sl : p.objs.all slotF = true
theorem okP_head {m : Md} {p : Pr} (h : okP m p = true) : Head p := by
 unfold okP okHead at h
 simp only [Bool.and_eq_true, decide_eq_true_eq] at h
 obtain ⟨⟨h1, h2, h3, h4, h5, h6, h7, h8, h9⟩, -⟩ := h
 exact ⟨h1, h2, h3, h4, h5, h6, h7, h8⟩
theorem okP_blk {m : Md} {p : Pr} (h : okP m p = true) {b : Nat} (hb : b < p.blks.length) : okB m p (p.blks.getD b default) = true := by
 unfold okP at h
 simp only [Bool.and_eq_true] at h
 have h2 := h.2
 rw [List.all_eq_true] at h2
 exact h2 _ (by simp [List.getD, hb])
theorem okB_ins {m : Md} {p : Pr} {b : Bk} (h : okB m p b = true) {i : Nat} (hi : i < b.ins.length) : okI m p (b.ins.getD i default) = true := by
 unfold okB at h
 simp only [Bool.and_eq_true] at h
 have h2 := h.1
 rw [List.all_eq_true] at h2
 exact h2 _ (by simp [List.getD, hi])
theorem okB_end {m : Md} {p : Pr} {b : Bk} (h : okB m p b = true) : endF p b = true := by
 unfold okB at h
 simp only [Bool.and_eq_true] at h
 exact h.2
theorem RdI.at' {w : World} {a : Option Addr} {n c : Nat} {l : List Int} (h : RdI w (.slice a n c) l) : n = l.length ∧ ∀ k, k < l.length → ∃ b o, a = some ⟨b, o, none⟩ ∧ w.cell? ⟨b, o + k, none⟩ = some (.int .i64 (l.getD k 0)) := by
 obtain ⟨a', c', e, h1, h2, hc⟩ := h
 simp only [Value.slice.injEq] at e
 obtain ⟨rfl, rfl, rfl⟩ := e
 refine ⟨rfl, fun k hk => ?_⟩
 obtain ⟨b, o, rfl, h0⟩ := hc k hk
 exact ⟨b, o, rfl, by simpa using h0⟩
end Go.Proofs.YtkhfddodmjnecaaGreatDoor

set_option linter.all false
namespace Go.Proofs.YtkhfddodmjnecaaGreatDoor
open Go.ChangeShapes Go.WideShapes Go.ChangeAt Go.RowKit
set_option maxHeartbeats 1000000
set_option linter.unusedVariables false
set_option maxRecDepth 20000

/-- all but the run's own blocks and a call's registers stays -/
structure Kq (k : RK) (bg : Nat) (vo vo' : Value) (w w' : World) : Prop where
 size : w.heap.size ≤ w'.heap.size
 «to» : vo'.ownBlock = vo.ownBlock ∨ ∃ g, vo'.ownBlock = some g ∧ w.heap.size ≤ g
 keep : ∀ b, b < w.heap.size → b ≠ k.br → b ≠ k.bm → some b ≠ vo.ownBlock → b ≠ bg → w'.heap[b]? = w.heap[b]?
theorem Kq.refl (k : RK) (bg : Nat) (vo : Value) (w : World) : Kq k bg vo vo w w := ⟨Nat.le_refl _, .inl rfl, fun _ _ _ _ _ _ => rfl⟩
theorem Kq.trans {k : RK} {bg : Nat} {v1 v2 v3 : Value} {w1 w2 w3 : World} (h : Kq k bg v1 v2 w1 w2) (h' : Kq k bg v2 v3 w2 w3) : Kq k bg v1 v3 w1 w3 := by
 refine ⟨Nat.le_trans h.size h'.size, ?_, fun b hb h1 h2 h3 h4 => ?_⟩
 ·rcases h'.to with e | ⟨g, e, hg⟩
  ·rw [e]; exact h.to
  ·exact .inr ⟨g, e, Nat.le_trans h.size hg⟩
 ·rw [h'.keep b (Nat.lt_of_lt_of_le hb h.size) h1 h2 ?_ h4, h.keep b hb h1 h2 h3 h4]
  rcases h.to with e | ⟨g, e, hg⟩
  ·rw [e]; exact h3
  ·rw [e]; intro e2; simp only [Option.some.injEq] at e2; omega
theorem Kp.q {k : RK} {vo vo' : Value} {w w' : World} (h : Kp k vo vo' w w') (bg : Nat) : Kq k bg vo vo' w w' := ⟨h.size, h.to, fun b hb h1 h2 h3 _ => h.keep b hb h1 h2 h3⟩
/-- what a call made itself may be written: from before it nothing else has turned -/
theorem Kq.p {k : RK} {bg : Nat} {vo vo' : Value} {w w1 w' : World} (hb : Below w.heap.size w w1) (h : Kq k bg vo vo' w1 w') (hg : w.heap.size ≤ bg) : Kp k vo vo' w w' := by
 refine ⟨Nat.le_trans hb.size h.size, ?_, fun b hl h1 h2 h3 => ?_⟩
 ·rcases h.to with e | ⟨g, e, hg⟩
  ·exact .inl e
  ·exact .inr ⟨g, e, Nat.le_trans hb.size hg⟩
 ·rw [h.keep b (Nat.lt_of_lt_of_le hl hb.size) h1 h2 h3 (by omega), hb.block b hl]
theorem Kq.of_below {k : RK} {bg : Nat} {vo : Value} {w w' : World} (h : Below w.heap.size w w') : Kq k bg vo vo w w' := (Kp.of_below h).q bg
theorem Kq.set (k : RK) (bg n : Nat) (vo x : Value) (w : World) : Kq k bg vo vo w (w.setCell ⟨bg, n, none⟩ x) := by
 refine ⟨by simp, .inl rfl, fun b _ _ _ _ h => ?_⟩
 exact heap_setCell_other w ⟨bg, n, none⟩ b x h

/-- a call's frame: its registers and where its objects lie -/
structure Fw (k : RK) (p : Pr) (bf bg c : Nat) (nm : ByteArray) (vob vbl vat : Value) (low : Int) (w : World) (vo : Value) (regs : List Int) : Prop where
 fx : w.ownsRow k.wp.heap.size 149 9 (rowOf bf 1) 1 [.slice (some ⟨bg, 0, none⟩) regs.length c, .string nm, .bool p.void, .int .i64 p.params, .int .i64 p.regs, vob, vbl, vat, .int .i64 low]
 ar : w.ownsRow k.wp.heap.size 3 1 vat p.objs.length ((slL p.objs p.objs.length).map (Value.int .i64))
 rr : w.ownsRow k.wp.heap.size 45 1 (.slice (some ⟨bg, 0, none⟩) regs.length c) regs.length (regs.map (Value.int .u32))
 ne : some bg ≠ vo.ownBlock
 wd : ∀ x ∈ regs, 0 ≤ x ∧ x < 4294967296
 cap : regs.length ≤ c ∧ c ≤ 1000000
section
variable {k : RK} {p : Pr} {bf bg c : Nat} {nm : ByteArray} {vob vbl vat : Value} {low : Int} {w w' : World} {vo vo' : Value} {regs : List Int} {s s' : RS}
theorem Fw.bgLt (h : Fw k p bf bg c nm vob vbl vat low w vo regs) : k.wp.heap.size ≤ bg ∧ bg < w.heap.size := own_lt h.rr rfl
theorem Fw.neR (h : Fw k p bf bg c nm vob vbl vat low w vo regs) (hr : Rn k w vo s) : bf ≠ k.br ∧ bf ≠ k.bm ∧ some bf ≠ vo.ownBlock ∧ bg ≠ k.br ∧ bg ≠ k.bm ∧ bf ≠ bg := by
 have q : ∀ {a b : Nat} {x y : Value}, x.ownBlock = some a → y.ownBlock = some b → (x.ownBlock = none ∨ x.ownBlock ≠ y.ownBlock) → a ≠ b := fun h1 h2 h3 e => by
  rcases h3 with h | h
  ·rw [h1] at h; cases h
  ·rw [h1, h2, e] at h; exact h rfl
 refine ⟨q rfl rfl (rows_neR h.fx hr.bx (by decide)), q rfl rfl (rows_neR h.fx hr.mm (by decide)), ?_, q rfl rfl (rows_neR h.rr hr.bx (by decide)), q rfl rfl (rows_neR h.rr hr.mm (by decide)), q rfl rfl (rows_neR h.fx h.rr (by decide))⟩
 rcases rows_neR h.fx hr.oo (by decide) with h | h
 ·cases h
 ·exact h
theorem Fw.keep (h : Fw k p bf bg c nm vob vbl vat low w vo regs) (hr : Rn k w vo s) (hk : Kp k vo vo' w w') : Fw k p bf bg c nm vob vbl vat low w' vo' regs := by
 have hn := h.neR hr
 have hvat := rows_neR h.ar hr.bx (by decide)
 have hvam := rows_neR h.ar hr.mm (by decide)
 have hvao := rows_neR h.ar hr.oo (by decide)
 have tr : ∀ {e : TypeId} {z n : Nat} {v : Value} {xs : List Value}, w.ownsRow k.wp.heap.size e z v n xs → (v.ownBlock = none ∨ v.ownBlock ≠ some k.br) → (v.ownBlock = none ∨ v.ownBlock ≠ some k.bm) → (v.ownBlock = none ∨ v.ownBlock ≠ vo.ownBlock) → w'.ownsRow k.wp.heap.size e z v n xs := by
  intro e z n v xs h h1 h2 h3
  obtain ⟨q0, ⟨rfl, q⟩ | ⟨b, cap, cur, rfl, hb, hgg, hrest⟩⟩ := h
  ·exact ⟨q0, .inl ⟨rfl, q⟩⟩
  ·refine ⟨q0, .inr ⟨b, cap, cur, rfl, hb, ?_, hrest⟩⟩
   simp only [Value.ownBlock, reduceCtorEq, false_or, ne_eq, Option.some.injEq] at h1 h2 h3
   rw [hk.keep b (Array.getElem?_eq_some_iff.1 hgg).1 h1 h2 (fun e => h3 e)]
   exact hgg
 refine ⟨tr h.fx (.inr (by simpa [rowOf, Value.ownBlock] using hn.1)) (.inr (by simpa [rowOf, Value.ownBlock] using hn.2.1)) (.inr (by simpa [rowOf, Value.ownBlock] using hn.2.2.1)), tr h.ar hvat hvam hvao,
  tr h.rr (.inr (by simpa [Value.ownBlock] using hn.2.2.2.1)) (.inr (by simpa [Value.ownBlock] using hn.2.2.2.2.1)) (.inr (by simpa [Value.ownBlock] using h.ne)), ?_, h.wd, h.cap⟩
 rcases hk.to with e | ⟨g, e, hg⟩
 ·rw [e]; exact h.ne
 ·rw [e]; have := h.bgLt; intro e2; simp only [Option.some.injEq] at e2; omega
theorem Fw.grow (h : Fw k p bf bg c nm vob vbl vat low w vo regs) (hb : Below w.heap.size w w') : Fw k p bf bg c nm vob vbl vat low w' vo regs :=
 ⟨own_below h.fx hb, own_below h.ar hb, own_below h.rr hb, h.ne, h.wd, h.cap⟩
theorem Fw.cL (h : Fw k p bf bg c nm vob vbl vat low w vo regs) : w.cell? ⟨bf, 8, none⟩ = some (.int .i64 low) := h.fx.cellAt 8 (by decide)
end
end Go.Proofs.YtkhfddodmjnecaaGreatDoor

set_option linter.all false
namespace Go.Proofs.YtkhfddodmjnecaaGreatDoor
open Go.ChangeShapes Go.WideShapes Go.ChangeAt Go.RowKit
set_option maxHeartbeats 2000000
set_option linter.unusedVariables false
set_option maxRecDepth 20000

section
variable {k : RK} {p : Pr} {bf bg c : Nat} {nm : ByteArray} {vob vbl vat : Value} {low : Int} {w w' : World} {vo vo' : Value} {regs : List Int} {s s' : RS}
end
end Go.Proofs.YtkhfddodmjnecaaGreatDoor

set_option linter.all false
namespace Go.Proofs.YtkhfddodmjnecaaGreatDoor
open Go.ChangeShapes Go.WideShapes Go.ChangeAt Go.RowKit
set_option maxHeartbeats 4000000
set_option linter.unusedVariables false
set_option maxRecDepth 20000

section
variable {k : RK} {p : Pr} {bf bg c : Nat} {nm : ByteArray} {vob vbl vat : Value} {low : Int} {w w' : World} {vo vo' : Value} {regs : List Int} {s s' : RS}
theorem Kp.keepX {S : Nat → Prop} (h : Kp k vo vo' w w') (hS : ∀ b, S b → b ≠ k.br ∧ b ≠ k.bm ∧ some b ≠ vo.ownBlock) : KeepX S w w' := fun b o v hb hv =>
 h.cell (hS b hb).1 (hS b hb).2.1 (hS b hb).2.2 hv
end
end Go.Proofs.YtkhfddodmjnecaaGreatDoor

set_option linter.all false
namespace Go.Proofs.YtkhfddodmjnecaaGreatDoor
open Go.ChangeShapes Go.WideShapes Go.ChangeAt Go.RowKit
set_option maxHeartbeats 4000000
set_option linter.unusedVariables false
set_option maxRecDepth 20000

section
variable {k : RK} {p : Pr} {bf bg c : Nat} {nm : ByteArray} {vob vbl vat : Value} {low : Int} {w w' : World} {vo vo' : Value} {regs : List Int} {s s' : RS}
/-- what is put out: one word more -/
theorem Rn.app (h : Rn k w vo s) {w1 w3 : World} {v' : Value} {x : Int} (O : w1.ownsRow k.wp.heap.size 45 1 v' (s.out.length + 1) (s.out.map (Value.int .u32) ++ [.int .u32 x])) (G : w.grownBy w1 vo.ownBlock) (D : v'.ownBlock = vo.ownBlock ∨ v'.ownBlock = some w.heap.size) (hb : Below w1.heap.size w1 w3) :
  Rn k (w3.setCell ⟨k.br, 8, none⟩ v') v' { s with out := s.out ++ [x] } ∧ Kp k vo v' w (w3.setCell ⟨k.br, 8, none⟩ v') := by
 have hbr := h.brLt
 have nO := h.neO
 have hsz := G.size
 have hs3 := hb.size
 have hx := own_below (h.bx.kept G (.inr (by simpa [rowOf, Value.ownBlock] using nO))) hb
 have hm := own_below (h.mm.kept G (rows_neR h.mm h.oo (by decide))) hb
 have ha := own_below (h.aa.kept G (rows_neR h.aa h.oo (by decide))) hb
 have ho := own_below O hb
 obtain ⟨a, b⟩ := hx.stored 8 v'
 have nB : v'.ownBlock ≠ some k.br := by
  rcases D with e | e
  ·rw [e]; exact Ne.symm nO
  ·rw [e]; intro e2; simp only [Option.some.injEq] at e2; omega
 have hB1 : Below k.wp.heap.size k.wp w1 := below_grown h.below G h.below.size (fun g hg => (own_lt h.oo hg).1)
 refine ⟨⟨?_, hm.kept b (rows_neR hm hx (by decide)), ?_, ha.kept b (rows_neR ha hx (by decide)), h.md, h.ii, ((hB1.trans (hb.mono hB1.size)).setCell (p := ⟨k.br, 8, none⟩) hbr.1 _)⟩, by simp; omega, ?_, ?_⟩
 ·exact a
 ·have := ho.kept b (.inr nB); rw [List.length_append, List.map_append]; exact this
 ·rcases D with e | e
  ·exact .inl e
  ·exact .inr ⟨_, e, Nat.le_refl _⟩
 ·intro b' hl h1 h2 h3
  rw [heap_setCell_other w3 ⟨k.br, 8, none⟩ b' v' h1, hb.block b' (by omega), G.block b' hl h3]
end
end Go.Proofs.YtkhfddodmjnecaaGreatDoor

set_option linter.all false
namespace Go.Proofs.YtkhfddodmjnecaaGreatDoor
open Go.ChangeShapes Go.WideShapes Go.ChangeAt Go.RowKit
set_option maxHeartbeats 4000000
set_option linter.unusedVariables false
set_option maxRecDepth 20000

/-- a run's numbers are such as never leave their kinds -/
structure Gd (s : RS) : Prop where
 mem : MemOk s.mem
 i0 : 0 ≤ s.ins
 i1 : s.ins + s.fuel ≤ 10000000
 o1 : (s.out.length : Int) + s.fuel ≤ 10000000
 f0 : 0 ≤ s.fuel
 d0 : 0 ≤ s.deep
 d1 : s.deep ≤ 5000
theorem rg_words {regs : List Int} (h : ∀ x ∈ regs, 0 ≤ x ∧ x < 4294967296) (n : Int) : 0 ≤ rg regs n ∧ rg regs n < 4294967296 := by
 unfold rg
 by_cases hn : n.toNat < regs.length
 ·have : regs.getD n.toNat 0 ∈ regs := by simp [List.getD, hn]
  exact h _ this
 ·have : regs.getD n.toNat 0 = 0 := by simp [List.getD, Nat.le_of_not_lt hn]
  omega
theorem memOk_set {mem : List Int} (h : MemOk mem) (n : Nat) (x : Int) (hx : 0 ≤ x ∧ x < 256) : MemOk (mem.set n x) := by
 intro j
 rcases Nat.lt_or_ge j mem.length with hl | hl
 ·by_cases e : n = j
  ·subst e; simp [List.getD, hl, hx]
  ·have e3 : (mem.set n x).getD j 0 = mem.getD j 0 := by simp [List.getD, List.getElem?_set_ne e]
   rw [e3]; exact h j
 ·have : (mem.set n x).getD j 0 = 0 := by simp [List.getD, hl]
  omega
theorem memOk_store {mem : List Int} (h : MemOk mem) (n : Nat) (v : Int) : ∀ i, MemOk (storeP mem n v i)
 | 0 => h
 | i + 1 => memOk_set (memOk_store h n v i) _ _ ⟨Int.emod_nonneg _ (by decide), Int.emod_lt_of_pos _ (by decide)⟩
def GoodI (regs : List Int) (s : Oc) (o : Option (List Int × Oc)) : Prop := ∀ r, o = some r → MemOk r.2.mem ∧ s.ins ≤ r.2.ins ∧ r.2.ins ≤ s.ins + 1 ∧ r.2.out.length ≤ s.out.length + 1 ∧ r.1.length = regs.length
theorem good_ite {regs : List Int} {s : Oc} {q : Prop} [Decidable q] {a b : Option (List Int × Oc)} (h : GoodI regs s a) (h' : GoodI regs s b) : GoodI regs s (if q then a else b) := by split <;> assumption
theorem good_none {regs : List Int} {s : Oc} : GoodI regs s none := fun _ h => by cases h
theorem good_some {regs : List Int} {s : Oc} {x : List Int} {y : Oc} (h : MemOk y.mem ∧ s.ins ≤ y.ins ∧ y.ins ≤ s.ins + 1 ∧ y.out.length ≤ s.out.length + 1 ∧ x.length = regs.length) : GoodI regs s (some (x, y)) := fun _ h2 => by cases h2; exact h
/-- an instruction keeps a run's numbers in their bounds -/
theorem insM_good {m : Md} {inp : List Int} {p : Pr} {low : Int} {i : In} {regs : List Int} {s : Oc} (hm : MemOk s.mem) : GoodI regs s (insM m inp p low i regs s) := by
 unfold insM
 repeat' apply good_ite
 all_goals first
  | exact good_none
  | (apply good_some
     first
     | exact ⟨hm, Int.le_refl _, by omega, by omega, by simp⟩
     | exact ⟨memOk_store hm _ _ _, Int.le_refl _, by dsimp only; omega, by dsimp only; omega, by simp⟩
     | exact ⟨hm, Int.le_refl _, by dsimp only; omega, by simp, by simp⟩
     | exact ⟨hm, by dsimp only; omega, Int.le_refl _, by dsimp only; omega, by simp⟩)
end Go.Proofs.YtkhfddodmjnecaaGreatDoor

set_option linter.all false
namespace Go.Proofs.YtkhfddodmjnecaaGreatDoor
open Go.ChangeShapes Go.WideShapes Go.ChangeAt Go.RowKit
set_option maxHeartbeats 4000000
set_option linter.unusedVariables false
set_option maxRecDepth 20000

section
variable {k : RK} {p : Pr} {bf bg c : Nat} {nm : ByteArray} {vob vbl vat : Value} {low : Int} {w w' : World} {vo vo' : Value} {regs : List Int} {s s' : RS}
end
end Go.Proofs.YtkhfddodmjnecaaGreatDoor

set_option linter.all false
namespace Go.Proofs.YtkhfddodmjnecaaGreatDoor
open Go.ChangeShapes Go.WideShapes Go.ChangeAt Go.RowKit
set_option maxHeartbeats 4000000
set_option linter.unusedVariables false
set_option maxRecDepth 20000

theorem okM_proc {m : Md} (h : okM m = true) {n : Nat} (hn : n < m.procs.length) : okP m (pk m n) = true := by
 unfold okM at h
 simp only [Bool.and_eq_true] at h
 have h2 := h.2.2.2
 rw [List.all_eq_true] at h2
 exact h2 _ (by unfold pk; simp [List.getD, hn])
theorem slot_sizes {l : List Sl} (h : l.all slotF = true) : ∀ i, i < l.length → 0 ≤ (l.getD i default).size ∧ (l.getD i default).size ≤ 40000 := fun i hi => by
 rw [List.all_eq_true] at h
 have := h (l.getD i default) (by simp [List.getD, hi])
 unfold slotF at this
 simp only [Bool.and_eq_true, decide_eq_true_eq] at this
 omega
theorem slE_small {l : List Sl} (h : l.all slotF = true) (hl : l.length ≤ 400) : ∀ j : Nat, j ≤ l.length → 0 ≤ slE l j ∧ slE l j ≤ 20000000 := fun j hj => by
 have := slE_bd l (slot_sizes h) j hj
 have h2 : (j : Int) ≤ 400 := by omega
 omega
theorem okM_globs {m : Md} (h : okM m = true) : m.globs.all slotF = true ∧ m.globs.length ≤ 200 ∧ m.data.length = m.globs.length := by
 unfold okM okHeadM at h
 simp only [Bool.and_eq_true, decide_eq_true_eq] at h
 exact ⟨h.1.2.2.1, h.1.2.1, h.1.1⟩
theorem regF_yes {p : Pr} {r : Int} (h : regF p r true = true) : 0 ≤ r ∧ r < p.regs := by
 unfold regF at h; simpa using h
theorem regF_no {p : Pr} {r : Int} (h : regF p r false = true) : r = -1 := by
 unfold regF at h; simpa using h
section
variable {k : RK} {p : Pr} {bf bg c : Nat} {nm : ByteArray} {vob vbl vat : Value} {low : Int} {w w' : World} {vo vo' : Value} {regs : List Int} {s s' : RS}
end
end Go.Proofs.YtkhfddodmjnecaaGreatDoor
